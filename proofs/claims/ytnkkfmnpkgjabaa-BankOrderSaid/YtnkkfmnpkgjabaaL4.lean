/- Lifted code: structs of scalars that are compared. -/
import Derived.Test.YtnkkfmnpkgjabaaL3
import Derived.Laws.StructEq
namespace Go.Proofs.Ytnkkfmnpkgjabaa.X
open Go.RowKit
set_option linter.unusedVariables false
set_option linter.unusedSimpArgs false
section
variable {P : Program} {o : Oper} {t : T} {bs : BS} {x z : Operand} {ty ty2 : TypeId}
/-- What a comparison of fields tells. -/
inductive EqF (P : Program) (xs ys : List A) : List Field → Bool → Prop where
  | nil : EqF P xs ys [] true
  | int {f : Field} {fs : List Field} {k k1 : IntKind} {a b : Int} {r : Bool} (hn : (f.name != "_") = true) (h : P.underlying f.type = some (.int k)) (hx : xs[f.offset]? = some (.v (.int k1 a))) (hy : ys[f.offset]? = some (.v (.int k1 b))) (hr : EqF P xs ys fs r) : EqF P xs ys (f :: fs) ((a == b) && r)
  | str {f : Field} {fs : List Field} {a b : ByteArray} {r : Bool} (hn : (f.name != "_") = true) (h : P.underlying f.type = some .string) (hx : xs[f.offset]? = some (.v (.string a))) (hy : ys[f.offset]? = some (.v (.string b))) (hr : EqF P xs ys fs r) : EqF P xs ys (f :: fs) (decide (a = b) && r)
theorem part_scalar {ft : TypeId} {d : TypeDesc} (h : P.underlying ft = some d) (hd : d.isRow = false) {cs : Array Value} {off : Nat} {v : Value} {w : World} (hv : cs[off]? = some v) : (part ft cs off).run P w = .ok v w := by
  have hi : (isAgg ft).run P w = .ok d.isRow w := by
    unfold isAgg
    simp only [Sem.run_bind, run_underlying h, Result.andThen_ok]
    cases d <;> simp [TypeDesc.isRow]
  unfold part
  simp [Sem.run_bind, hi, hd, hv]
theorem getD_of {w : World} {Z : Zones} {us : Array Value} {xs : List A} (l : us.size = xs.length) (hr : ∀ k x, xs[k]? = some x → Rep w Z (us.getD k undef) x) {k : Nat} {u : Value} (h : xs[k]? = some (.v u)) : us[k]? = some u := by
  have h1 := (hr k _ h).val
  have h2 : k < us.size := by rw [l]; exact (List.getElem?_eq_some_iff.1 h).1
  rw [Array.getElem?_eq_getElem h2]
  simpa [h2] using h1
theorem EqF.run {w : World} {Z : Zones} {us vs : Array Value} {xs ys : List A} {fs : List Field} {r : Bool} (h : EqF P xs ys fs r) (d : Nat) (lx : us.size = xs.length) (rx : ∀ k x, xs[k]? = some x → Rep w Z (us.getD k undef) x) (ly : vs.size = ys.length) (ry : ∀ k x, ys[k]? = some x → Rep w Z (vs.getD k undef) x) :
    (Op.eqFields (d + 1) us vs fs).run P w = .ok r w := by
  induction h with
  | nil => simp [Op.eqFields]
  | @int f fs k k1 a b r hn h hx hy hr ih =>
    have hn' : f.name ≠ "_" := by simpa using hn
    have h1 := getD_of lx rx hx
    have h2 := getD_of ly ry hy
    rw [Op.eqFields, if_pos hn']
    simp only [Sem.run_bind]
    rw [part_scalar (d := .int k) h rfl h1, Result.andThen_ok, part_scalar (d := .int k) h rfl h2, Result.andThen_ok, run_equalIn_int w d f.type k1 k a b h, Result.andThen_ok, Sem.run_ite]
    cases hab : (a == b)
    · simp
    · simp only [Bool.not_true, Bool.false_eq_true, if_false, Bool.true_and]; exact ih
  | @str f fs a b r hn h hx hy hr ih =>
    have hn' : f.name ≠ "_" := by simpa using hn
    have h1 := getD_of lx rx hx
    have h2 := getD_of ly ry hy
    rw [Op.eqFields, if_pos hn']
    simp only [Sem.run_bind]
    rw [part_scalar (d := .string) h rfl h1, Result.andThen_ok, part_scalar (d := .string) h rfl h2, Result.andThen_ok, run_equalIn_string w d f.type a b h, Result.andThen_ok, Sem.run_ite]
    have e : (a.toList == b.toList) = decide (a = b) := by
      by_cases e : a = b
      · subst e; simp
      · have : a.toList ≠ b.toList := fun h => e (toList_inj h)
        simp [e, this]
    rw [e]
    by_cases hab : a = b
    · simp only [hab, decide_true, Bool.not_true, Bool.false_eq_true, if_false, Bool.true_and]; exact ih
    · simp [hab]
theorem OpQ.eq_flat {fs : Array Field} {xs ys : List A} {r : Bool} {sz by_ : Nat} [h1 : TI P ty (.struct fs) sz by_] (ho : o.op = .binOp .eql ty x z ty2) (hx : Wk (evA t x) (.agg xs)) (hz : Wk (evA t z) (.agg ys)) (hf : EqF P xs ys fs.toList r) (hp : P.stoodInHeld ty = false := by kernel_rfl) (hm : P.eqGuardType P.depth ty = false := by kernel_rfl) : OpQ P o t bs (.v (.bool r)) :=
  .of_run fun ac w h hb => by
    have e1 := op_rep h (x := x) (by simp [ho, Op.operands]) hx
    have e2 := op_rep h (x := z) (by simp [ho, Op.operands]) hz
    generalize hux : ac.eval x = ux at e1
    generalize huz : ac.eval z = uz at e2
    cases e1 with
    | agg lx rx _ =>
      cases e2 with
      | agg ly ry _ =>
        refine ⟨_, ?_, .v rfl⟩
        have hfo : P.fieldsOf ty = fs := by unfold Program.fieldsOf; rw [h1.und]
        simp only [execOp, ho, hux, huz, Sem.run_bind, run_eqGuard_agg w .eql ty x z _ _ hm, Result.andThen_ok, run_eql_struct, run_equalIn_agg w 9999 ty _ _ (by rw [hfo]; exact h1.und) hp, hfo, hf.run 9998 lx rx ly ry, Sem.run_pure]
theorem OpQ.neq_flat {fs : Array Field} {xs ys : List A} {r : Bool} {sz by_ : Nat} [h1 : TI P ty (.struct fs) sz by_] (ho : o.op = .binOp .neq ty x z ty2) (hx : Wk (evA t x) (.agg xs)) (hz : Wk (evA t z) (.agg ys)) (hf : EqF P xs ys fs.toList r) (hp : P.stoodInHeld ty = false := by kernel_rfl) (hm : P.eqGuardType P.depth ty = false := by kernel_rfl) : OpQ P o t bs (.v (.bool (!r))) :=
  .of_run fun ac w h hb => by
    have e1 := op_rep h (x := x) (by simp [ho, Op.operands]) hx
    have e2 := op_rep h (x := z) (by simp [ho, Op.operands]) hz
    generalize hux : ac.eval x = ux at e1
    generalize huz : ac.eval z = uz at e2
    cases e1 with
    | agg lx rx _ =>
      cases e2 with
      | agg ly ry _ =>
        refine ⟨_, ?_, .v rfl⟩
        have hfo : P.fieldsOf ty = fs := by unfold Program.fieldsOf; rw [h1.und]
        simp only [execOp, ho, hux, huz, Sem.run_bind, run_eqGuard_agg w .neq ty x z _ _ hm, Result.andThen_ok, run_neq_struct, run_equalIn_agg w 9999 ty _ _ (by rw [hfo]; exact h1.und) hp, hfo, hf.run 9998 lx rx ly ry, Sem.run_pure]
end
end Go.Proofs.Ytnkkfmnpkgjabaa.X
