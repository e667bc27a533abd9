/- The same logic: the quiet operations. -/
import Derived.Test.YtnkkfmnpkgjabaaA2
namespace Go.Proofs.Ytnkkfmnpkgjabaa.X
open Go.RowKit
set_option linter.unusedVariables false
set_option linter.unusedSimpArgs false

/-- What a type is. -/
class TI (P : Program) (t : TypeId) (d : outParam TypeDesc) (sz : outParam Nat) (bytes : outParam Nat) : Prop where
  und : P.underlying t = some d
  inf : ((P.info? t).map fun i => (i.size, i.bytes)) = some (sz, bytes)
/-- Its zero. -/
class TZ (P : Program) (t : TypeId) (zs : outParam (List Value)) : Prop where
  zero : ∃ z, (P.info? t).map (·.zero) = some (some z) ∧ z.cells = zs.toArray
section
variable {P : Program} {ty : TypeId} {d : TypeDesc} {sz bytes : Nat}
theorem TI.info (h : TI P ty d sz bytes) : ∃ i, P.info? ty = some i ∧ i.size = sz ∧ i.bytes = bytes := by
  have := h.inf
  cases hq : P.info? ty with
  | none => rw [hq] at this; cases this
  | some i => rw [hq] at this; simp at this; exact ⟨i, rfl, this.1, this.2⟩
theorem TI.sizeOf_ (h : TI P ty d sz bytes) (w : World) : (sizeOf ty).run P w = .ok sz w := by
  obtain ⟨i, h1, h2, _⟩ := h.info
  simp [sizeOf, typeInfo, h1, h2]
theorem TI.map_size (h : TI P ty d sz bytes) : (P.info? ty).map (·.size) = some sz := by
  obtain ⟨i, h1, h2, _⟩ := h.info
  simp [h1, h2]
theorem TI.run_und (h : TI P ty d sz bytes) (w : World) : (underlying ty).run P w = .ok d w := by
  simp [run_underlying h.und]
theorem TI.run_isAgg (h : TI P ty d sz bytes) (w : World) : (isAgg ty).run P w = .ok d.isRow w := by
  unfold isAgg
  simp only [Sem.run_bind, h.run_und, Result.andThen_ok]
  cases d <;> simp [TypeDesc.isRow]
theorem TI.part_row (h : TI P ty d sz bytes) (hd : d.isRow = true) (cs : Array Value) (off : Nat) (w : World) : (part ty cs off).run P w = .ok (.agg (cs.extract off (off + sz))) w := by
  unfold part
  simp [Sem.run_bind, h.run_isAgg, hd, h.sizeOf_]
theorem TI.part_one (h : TI P ty d sz bytes) (hd : d.isRow = false) (cs : Array Value) (off : Nat) (v : Value) (hv : cs[off]? = some v) (w : World) : (part ty cs off).run P w = .ok v w := by
  unfold part
  simp [Sem.run_bind, h.run_isAgg, hd, hv]
end
section
variable {P : Program} {o : Oper} {t : T} {bs : BS} {y : A} {x z : Operand} {ty ty2 : TypeId}
/-- What an operand tells. -/
theorem op_rep {a : Act} {w : World} (h : ∀ x ∈ o.op.operands, Rep w (zones bs) (a.eval x) (evA t x)) (hm : x ∈ o.op.operands) (hw : Wk (evA t x) y) : Rep w (zones bs) (a.eval x) y := (h x hm).wk hw
theorem OpQ.move (ho : o.op = .move x) (hx : evA t x = y) : OpQ P o t bs y :=
  .of_run fun a w h hb => ⟨a.eval x, by simp [execOp, ho], hx ▸ h x (by simp [ho, Op.operands])⟩
theorem OpQ.move_opt {b : Bool} (ho : o.op = .move x) (hx : evA t x = .opt b y) (hb : b = true) : OpQ P o t bs y :=
  .of_run fun a w h _ => ⟨a.eval x, by simp [execOp, ho], by
    have := h x (by simp [ho, Op.operands])
    rw [hx] at this
    generalize a.eval x = u at this
    cases this with
    | opt h1 _ => exact h1 hb⟩
theorem OpQ.assign (ho : o.op = .assign x) (hx : evA t x = y) : OpQ P o t bs y :=
  .of_run fun a w h hb => ⟨a.eval x, by simp [execOp, ho], hx ▸ h x (by simp [ho, Op.operands])⟩
theorem OpQ.nilCheck_ptr {g off : Nat} (ho : o.op = .nilCheck x) (hx : Wk (evA t x) (.ptr g off)) : OpQ P o t bs (.ptr g off) :=
  .of_run fun a w h hb => by
    have h1 := op_rep h (x := x) (by simp [ho, Op.operands]) hx
    exact ⟨a.eval x, by simp [execOp, ho, h1.ptr_inv], h1⟩
theorem Rep.ep_inv {w : World} {Z : Zones} {u : Value} {xs : List A} (h : Rep w Z u (.ep xs)) : ∃ g o, u = .pointer (some ⟨g, o, none⟩) := by cases h; exact ⟨_, _, rfl⟩
theorem OpQ.nilCheck_ep {xs : List A} (ho : o.op = .nilCheck x) (hx : Wk (evA t x) (.ep xs)) : OpQ P o t bs (.ep xs) :=
  .of_run fun a w h hb => by
    have h1 := op_rep h (x := x) (by simp [ho, Op.operands]) hx
    obtain ⟨g, o', e⟩ := h1.ep_inv
    exact ⟨a.eval x, by simp [execOp, ho, e], h1⟩
theorem Rep.fn_inv {w : World} {Z : Zones} {u : Value} {f : Fn} {x1 x2 : List A} (h : Rep w Z u (.fn f x1 x2)) : ∃ u1 u2, u = .func f u1 u2 ∧ u1.size = x1.length ∧ u2.size = x2.length ∧ (∀ k x, x1[k]? = some x → Rep w Z (u1.getD k undef) x) ∧ ∀ k x, x2[k]? = some x → Rep w Z (u2.getD k undef) x := by
  cases h with
  | fn l1 l2 h1 h2 => exact ⟨_, _, rfl, l1, l2, h1, h2⟩
theorem OpQ.nilCheck_fn {K : Nat} {x1 x2 : List A} (ho : o.op = .nilCheck x) (hx : Wk (evA t x) (.fn (.func K) x1 x2)) : OpQ P o t bs (.fn (.func K) x1 x2) :=
  .of_run fun a w h hb => by
    have h1 := op_rep h (x := x) (by simp [ho, Op.operands]) hx
    obtain ⟨u1, u2, e, _⟩ := h1.fn_inv
    exact ⟨a.eval x, by simp [execOp, ho, e], h1⟩
/-- 'pick': by a Bool that is known. -/
theorem OpQ.pick_true {c : Operand} (ho : o.op = .pick c x z) (hc : Wk (evA t c) (.v (.bool true))) (hx : evA t x = y) : OpQ P o t bs y :=
  .of_run fun a w h hb => by
    have h1 := op_rep h (x := c) (by simp [ho, Op.operands]) hc
    exact ⟨a.eval x, by simp [execOp, ho, h1.bool, asBool], hx ▸ h x (by simp [ho, Op.operands])⟩
theorem OpQ.pick_false {c : Operand} (ho : o.op = .pick c x z) (hc : Wk (evA t c) (.v (.bool false))) (hx : evA t z = y) : OpQ P o t bs y :=
  .of_run fun a w h hb => by
    have h1 := op_rep h (x := c) (by simp [ho, Op.operands]) hc
    exact ⟨a.eval z, by simp [execOp, ho, h1.bool, asBool], hx ▸ h z (by simp [ho, Op.operands])⟩
/-- 'c && p'. -/
theorem OpQ.pick_true_opt {c : Operand} {b : Bool} (ho : o.op = .pick c x z) (hc : Wk (evA t c) (.v (.bool true))) (hx : evA t x = .opt b y) (hb : b = true) : OpQ P o t bs y :=
  fun a w h hbs K Q hK => OpQ.pick_true (y := .opt b y) ho hc hx a w h hbs K Q fun u w' hr => hK u w' (hr.wk (.opt b y hb))
theorem OpQ.pick_false_opt {c : Operand} {b : Bool} (ho : o.op = .pick c x z) (hc : Wk (evA t c) (.v (.bool false))) (hx : evA t z = .opt b y) (hb : b = true) : OpQ P o t bs y :=
  fun a w h hbs K Q hK => OpQ.pick_false (y := .opt b y) ho hc hx a w h hbs K Q fun u w' hr => hK u w' (hr.wk (.opt b y hb))
theorem OpQ.pick_and {c : Operand} {b p e : Bool} (ho : o.op = .pick c x (.const (.bool false))) (hc : Wk (evA t c) (.v (.bool b))) (hx : evA t x = .opt e (.v (.bool p))) (he : b = true → e = true) : OpQ P o t bs (.v (.bool (b && p))) :=
  .of_run fun a w h hb => by
    have h1 := op_rep h (x := c) (by simp [ho, Op.operands]) hc
    have h2 := h x (by simp [ho, Op.operands])
    rw [hx] at h2
    cases b with
    | false => exact ⟨.bool false, by simp only [execOp, ho, h1.bool, asBool]; rfl, .v rfl⟩
    | true => exact ⟨.bool p, by simp [execOp, ho, h1.bool, asBool, (h2.wk (.opt _ _ (he rfl))).bool], .v rfl⟩
/-- 'c || p'. -/
theorem OpQ.pick_or {c : Operand} {b p e : Bool} (ho : o.op = .pick c (.const (.bool true)) z) (hc : Wk (evA t c) (.v (.bool b))) (hx : evA t z = .opt e (.v (.bool p))) (he : b = false → e = true) : OpQ P o t bs (.v (.bool (b || p))) :=
  .of_run fun a w h hb => by
    have h1 := op_rep h (x := c) (by simp [ho, Op.operands]) hc
    have h2 := h z (by simp [ho, Op.operands])
    rw [hx] at h2
    cases b with
    | true => exact ⟨.bool true, by simp only [execOp, ho, h1.bool, asBool]; rfl, .v rfl⟩
    | false => exact ⟨.bool p, by simp [execOp, ho, h1.bool, asBool, (h2.wk (.opt _ _ (he rfl))).bool], .v rfl⟩
/-- 'extract'. -/
theorem OpQ.extract {xs : List A} {i : Nat} (ho : o.op = .extract x i) (hx : Wk (evA t x) (.tup xs)) (hy : xs[i]? = some y) : OpQ P o t bs y :=
  .of_run fun a w h hb => by
    have h1 := op_rep h (x := x) (by simp [ho, Op.operands]) hx
    generalize hu : a.eval x = u at h1
    cases h1 with
    | @tup us _ l hr =>
      have hlt : i < us.size := by rw [l]; exact (List.getElem?_eq_some_iff.1 hy).1
      have hg : us[i]? = some us[i] := Array.getElem?_eq_getElem hlt
      have hr' := hr i y hy
      rw [show us.getD i undef = us[i] by simp [hlt]] at hr'
      exact ⟨us[i], by simp only [execOp, ho, hu, Instr.extract, hg]; rfl, hr'⟩
/-- 'makeFunc'. -/
theorem getD_map {xs : Array Operand} {f : Operand → Value} {k : Nat} {q : Operand} (h : xs[k]? = some q) : (xs.map f).getD k undef = f q := by simp [h]
theorem OpQ.makeFunc {f : Fn} {first caps : Array Operand} {x1 x2 : List A} (ho : o.op = .makeFunc f first caps) (h1 : first.toList.map (evA t) = x1) (h2 : caps.toList.map (evA t) = x2) : OpQ P o t bs (.fn f x1 x2) := by
  subst h1; subst h2
  refine .of_run fun a w h hb => ⟨.func f (first.map a.eval) (caps.map a.eval), by simp [execOp, ho, Instr.makeFunc], .fn (by simp) (by simp) (fun k x hk => ?_) (fun k x hk => ?_)⟩
  · simp only [List.getElem?_map, Array.getElem?_toList, Option.map_eq_some_iff] at hk
    obtain ⟨q, hq, rfl⟩ := hk
    rw [getD_map hq]
    exact h q (by simp only [ho, Op.operands]; exact Array.mem_append_left _ (Array.mem_of_getElem? hq))
  · simp only [List.getElem?_map, Array.getElem?_toList, Option.map_eq_some_iff] at hk
    obtain ⟨q, hq, rfl⟩ := hk
    rw [getD_map hq]
    exact h q (by simp only [ho, Op.operands]; exact Array.mem_append_right _ (Array.mem_of_getElem? hq))

/-! ### numbers -/
theorem run_guard_int (op : BinOp) (ty : TypeId) (x z : Operand) (k j : IntKind) (a b : Int) (w : World) : (eqGuard op ty x z (.int k a) (.int j b)).run P w = .ok () w := by
  unfold eqGuard
  split <;> simp [Sem.run]
theorem bin_int {k : IntKind} {a b : Int} {op : BinOp} {u : Value} (ho : o.op = .binOp op ty x z ty2) (hx : Wk (evA t x) (.v (.int k a))) (hz : Wk (evA t z) (.v (.int k b))) (h1 : u.oneCell' = true)
    (hr : ∀ w, (binOp op ty (.int k a) (.int k b)).run P w = .ok u w) : OpQ P o t bs (.v u) :=
  .of_run fun ac w h hb => by
    have e1 := (op_rep h (x := x) (by simp [ho, Op.operands]) hx).val
    have e2 := (op_rep h (x := z) (by simp [ho, Op.operands]) hz).val
    refine ⟨u, ?_, .v h1⟩
    simp only [execOp, ho, e1, e2, Sem.run_bind, run_guard_int, Result.andThen_ok, hr, Sem.run_pure]
theorem OpQ.add {a b : Int} (ho : o.op = .binOp .add ty x z ty2) (hx : Wk (evA t x) (.v (.int .i64 a))) (hz : Wk (evA t z) (.v (.int .i64 b))) (h : -9223372036854775808 ≤ a + b ∧ a + b ≤ 9223372036854775807) : OpQ P o t bs (.v (.int .i64 (a + b))) :=
  bin_int ho hx hz rfl fun w => by simp [binOp, Op.intArith, IntWalk.i64_in _ h]
theorem OpQ.sub {a b : Int} (ho : o.op = .binOp .sub ty x z ty2) (hx : Wk (evA t x) (.v (.int .i64 a))) (hz : Wk (evA t z) (.v (.int .i64 b))) (h : -9223372036854775808 ≤ a - b ∧ a - b ≤ 9223372036854775807) : OpQ P o t bs (.v (.int .i64 (a - b))) :=
  bin_int ho hx hz rfl fun w => by simp [binOp, Op.intArith, IntWalk.i64_in _ h]
theorem OpQ.mul {a b : Int} (ho : o.op = .binOp .mul ty x z ty2) (hx : Wk (evA t x) (.v (.int .i64 a))) (hz : Wk (evA t z) (.v (.int .i64 b))) (h : -9223372036854775808 ≤ a * b ∧ a * b ≤ 9223372036854775807) : OpQ P o t bs (.v (.int .i64 (a * b))) :=
  bin_int ho hx hz rfl fun w => by simp [binOp, Op.intArith, IntWalk.i64_in _ h]
def arithI : BinOp → Int → Int → Option Int
  | .add, a, b => some (a + b)
  | .sub, a, b => some (a - b)
  | .mul, a, b => some (a * b)
  | _, _, _ => none
theorem OpQ.arith {op : BinOp} {k : IntKind} {a b r : Int} (ho : o.op = .binOp op ty x z ty2) (hx : Wk (evA t x) (.v (.int k a))) (hz : Wk (evA t z) (.v (.int k b))) (h : arithI op a b = some r) : OpQ P o t bs (.v (.int k (k.wrap r))) :=
  bin_int ho hx hz rfl fun w => by cases op <;> simp [arithI] at h <;> subst h <;> simp [binOp, Op.intArith]
theorem OpQ.quo {a b : Int} (ho : o.op = .binOp .quo ty x z ty2) (hx : Wk (evA t x) (.v (.int .i64 a))) (hz : Wk (evA t z) (.v (.int .i64 b))) (h : 0 ≤ a ∧ a ≤ 9223372036854775807 ∧ 0 < b) : OpQ P o t bs (.v (.int .i64 (a / b))) :=
  bin_int ho hx hz rfl fun w => by
    have h0 : b ≠ 0 := by omega
    have h1 : a.tdiv b = a / b := Int.tdiv_eq_ediv_of_nonneg h.1
    have h2 : 0 ≤ a / b := Int.ediv_nonneg h.1 (by omega)
    have h3 : a / b ≤ a := Int.ediv_le_self b h.1
    simp [binOp, Op.intDiv, h0, h1, IntWalk.i64_in _ (show -9223372036854775808 ≤ a / b ∧ a / b ≤ 9223372036854775807 by omega)]
theorem OpQ.rem {k : IntKind} {a b : Int} (ho : o.op = .binOp .rem ty x z ty2) (hx : Wk (evA t x) (.v (.int k a))) (hz : Wk (evA t z) (.v (.int k b))) (h : 0 ≤ a ∧ 0 < b) : OpQ P o t bs (.v (.int k (a % b))) :=
  bin_int ho hx hz rfl fun w => by
    have h0 : b ≠ 0 := by omega
    simp [binOp, Op.intDiv, h0, Int.tmod_eq_emod_of_nonneg h.1]
theorem OpQ.rem_any {k : IntKind} {a b : Int} (ho : o.op = .binOp .rem ty x z ty2) (hx : Wk (evA t x) (.v (.int k a))) (hz : Wk (evA t z) (.v (.int k b))) (h : 0 < b) : OpQ P o t bs (.v (.int k (a.tmod b))) :=
  bin_int ho hx hz rfl fun w => by
    have h0 : b ≠ 0 := by omega
    simp [binOp, Op.intDiv, h0]
theorem OpQ.quo_any {k : IntKind} {a b : Int} (ho : o.op = .binOp .quo ty x z ty2) (hx : Wk (evA t x) (.v (.int k a))) (hz : Wk (evA t z) (.v (.int k b))) (h : 0 < b) : OpQ P o t bs (.v (.int k (k.wrap (a.tdiv b)))) :=
  bin_int ho hx hz rfl fun w => by
    have h0 : b ≠ 0 := by omega
    simp [binOp, Op.intDiv, h0]
def cmpI : BinOp → Int → Int → Option Bool
  | .eql, a, b => some (a == b)
  | .neq, a, b => some (a != b)
  | .lss, a, b => some (decide (a < b))
  | .leq, a, b => some (decide (a ≤ b))
  | .gtr, a, b => some (decide (a > b))
  | .geq, a, b => some (decide (a ≥ b))
  | _, _, _ => none
theorem OpQ.cmp {op : BinOp} {k : IntKind} {a b : Int} {r : Bool} (ho : o.op = .binOp op ty x z ty2) (hx : Wk (evA t x) (.v (.int k a))) (hz : Wk (evA t z) (.v (.int k b))) (h : cmpI op a b = some r) : OpQ P o t bs (.v (.bool r)) :=
  bin_int ho hx hz rfl fun w => by cases op <;> simp [cmpI] at h <;> subst h <;> simp [binOp, Op.intCmp]
def bitsI (op : BinOp) (k : IntKind) (a b : Int) : Option Int :=
  match op with
  | .and => some (k.wrap (BitVec.ofInt k.bits a &&& BitVec.ofInt k.bits b).toNat)
  | .or => some (k.wrap (BitVec.ofInt k.bits a ||| BitVec.ofInt k.bits b).toNat)
  | .xor => some (k.wrap (BitVec.ofInt k.bits a ^^^ BitVec.ofInt k.bits b).toNat)
  | .andNot => some (k.wrap (BitVec.ofInt k.bits a &&& ~~~(BitVec.ofInt k.bits b)).toNat)
  | _ => none
theorem OpQ.bits {op : BinOp} {k : IntKind} {a b r : Int} (ho : o.op = .binOp op ty x z ty2) (hx : Wk (evA t x) (.v (.int k a))) (hz : Wk (evA t z) (.v (.int k b))) (h : bitsI op k a b = some r) : OpQ P o t bs (.v (.int k r)) :=
  bin_int ho hx hz rfl fun w => by cases op <;> simp [bitsI] at h <;> subst h <;> simp [binOp, Op.intBits]
theorem bin_int2 {k yk : IntKind} {a b : Int} {op : BinOp} {u : Value} (ho : o.op = .binOp op ty x z ty2) (hx : Wk (evA t x) (.v (.int k a))) (hz : Wk (evA t z) (.v (.int yk b))) (h1 : u.oneCell' = true)
    (hr : ∀ w, (binOp op ty (.int k a) (.int yk b)).run P w = .ok u w) : OpQ P o t bs (.v u) :=
  .of_run fun ac w h hb => by
    have e1 := (op_rep h (x := x) (by simp [ho, Op.operands]) hx).val
    have e2 := (op_rep h (x := z) (by simp [ho, Op.operands]) hz).val
    refine ⟨u, ?_, .v h1⟩
    simp only [execOp, ho, e1, e2, Sem.run_bind, run_guard_int, Result.andThen_ok, hr, Sem.run_pure]
theorem OpQ.shr {k yk : IntKind} {a b c : Int} (ho : o.op = .binOp .shr ty x z ty2) (hx : Wk (evA t x) (.v (.int k a))) (hz : Wk (evA t z) (.v (.int yk b))) (h : 0 ≤ b) (hb : b.toNat ≤ k.bits) (hc : (2 : Int) ^ b.toNat = c) : OpQ P o t bs (.v (.int k (a / c))) :=
  bin_int2 ho hx hz rfl fun w => by
    have hp : (0 : Int) ≤ 2 ^ b.toNat := Int.le_of_lt (Int.pow_pos (by decide))
    subst hc
    simp only [binOp, Op.shift]
    rw [if_neg (by omega), Nat.min_eq_left hb, Int.fdiv_eq_ediv_of_nonneg _ hp, Sem.run_pure]
theorem OpQ.shl {k yk : IntKind} {a b c : Int} (ho : o.op = .binOp .shl ty x z ty2) (hx : Wk (evA t x) (.v (.int k a))) (hz : Wk (evA t z) (.v (.int yk b))) (h : 0 ≤ b) (hb : b.toNat ≤ k.bits) (hc : (2 : Int) ^ b.toNat = c) : OpQ P o t bs (.v (.int k (k.wrap (a * c)))) :=
  bin_int2 ho hx hz rfl fun w => by
    subst hc
    simp only [binOp, Op.shift]
    rw [if_neg (by omega), Nat.min_eq_left hb, Sem.run_pure]
theorem wrap_i64 {a : Int} (h : -9223372036854775808 ≤ a ∧ a ≤ 9223372036854775807) : IntKind.i64.wrap a = a := IntWalk.i64_in a h
theorem wrap_u64 {a : Int} (h : 0 ≤ a ∧ a ≤ 18446744073709551615) : IntKind.u64.wrap a = a := by
  simp only [IntKind.wrap, IntKind.signed, IntKind.bits]
  simp; omega
theorem wrap_u8 {a : Int} (h : 0 ≤ a ∧ a ≤ 255) : IntKind.u8.wrap a = a := by
  simp only [IntKind.wrap, IntKind.signed, IntKind.bits]
  simp; omega
theorem OpQ.neg {a : Int} (ho : o.op = .unOp .neg ty x) (hx : Wk (evA t x) (.v (.int .i64 a))) (h : -9223372036854775808 ≤ -a ∧ -a ≤ 9223372036854775807) : OpQ P o t bs (.v (.int .i64 (-a))) :=
  .of_run fun ac w h' hb => by
    have e1 := (op_rep h' (x := x) (by simp [ho, Op.operands]) hx).val
    exact ⟨_, by simp [execOp, ho, e1, Op.unary, Op.intArith, IntWalk.i64_in _ h], .v rfl⟩
theorem OpQ.not {b : Bool} (ho : o.op = .unOp .not ty x) (hx : Wk (evA t x) (.v (.bool b))) : OpQ P o t bs (.v (.bool (!b))) :=
  .of_run fun ac w h' hb => by
    have e1 := (op_rep h' (x := x) (by simp [ho, Op.operands]) hx).val
    exact ⟨_, by simp [execOp, ho, e1, Op.unary], .v rfl⟩
/-- A number in another kind that bears it. -/
theorem OpQ.conv {k j : IntKind} {a : Int} {s1 b1 s2 b2 : Nat} {d1 : TypeDesc} [h1 : TI P ty d1 s1 b1] [h2 : TI P ty2 (.int j) s2 b2] (ho : o.op = .convert ty ty2 x) (hx : Wk (evA t x) (.v (.int k a))) : OpQ P o t bs (.v (.int j (j.wrap a))) :=
  .of_run fun ac w h' hb => by
    have e1 := (op_rep h' (x := x) (by simp [ho, Op.operands]) hx).val
    refine ⟨_, ?_, .v rfl⟩
    simp only [execOp, ho, e1, convert, Sem.run_bind, h1.run_und, h2.run_und, Result.andThen_ok, Conv.intToInt, Sem.run_pure]
theorem OpQ.conv_in {k j : IntKind} {a : Int} {s1 b1 s2 b2 : Nat} {d1 : TypeDesc} [h1 : TI P ty d1 s1 b1] [h2 : TI P ty2 (.int j) s2 b2] (ho : o.op = .convert ty ty2 x) (hx : Wk (evA t x) (.v (.int k a))) (hw : j.wrap a = a) : OpQ P o t bs (.v (.int j a)) := by
  have := OpQ.conv (P := P) (bs := bs) ho hx
  rwa [hw] at this
theorem run_guard_bool (op : BinOp) (ty : TypeId) (x z : Operand) (a b : Bool) (w : World) : (eqGuard op ty x z (.bool a) (.bool b)).run P w = .ok () w := by
  unfold eqGuard
  split <;> simp [Sem.run]
theorem run_eq_bool {a b : Bool} {s1 b1 : Nat} (h1 : TI P ty .bool s1 b1) (w : World) : (binOp .eql ty (.bool a) (.bool b)).run P w = .ok (.bool (a == b)) w := by
  show (do pure (.bool (← Op.equalIn (9999 + 1) ty (.bool a) (.bool b))) : Sem Value).run P w = _
  rw [Op.equalIn]
  simp only [Sem.run_bind, h1.run_und, Result.andThen_ok, Sem.run_pure]
theorem run_neq_bool {a b : Bool} {s1 b1 : Nat} (h1 : TI P ty .bool s1 b1) (w : World) : (binOp .neq ty (.bool a) (.bool b)).run P w = .ok (.bool (!(a == b))) w := by
  show (do pure (.bool (!(← Op.equalIn (9999 + 1) ty (.bool a) (.bool b)))) : Sem Value).run P w = _
  rw [Op.equalIn]
  simp only [Sem.run_bind, h1.run_und, Result.andThen_ok, Sem.run_pure]
/-- Bools that are alike. -/
theorem OpQ.eq_bool {a b : Bool} {s1 b1 : Nat} [h1 : TI P ty .bool s1 b1] (ho : o.op = .binOp .eql ty x z ty2) (hx : Wk (evA t x) (.v (.bool a))) (hz : Wk (evA t z) (.v (.bool b))) : OpQ P o t bs (.v (.bool (a == b))) :=
  .of_run fun ac w h hb => by
    have e1 := (op_rep h (x := x) (by simp [ho, Op.operands]) hx).val
    have e2 := (op_rep h (x := z) (by simp [ho, Op.operands]) hz).val
    refine ⟨_, ?_, .v rfl⟩
    simp only [execOp, ho, e1, e2, Sem.run_bind, run_guard_bool, Result.andThen_ok, run_eq_bool h1, Sem.run_pure]
theorem OpQ.neq_bool {a b : Bool} {s1 b1 : Nat} [h1 : TI P ty .bool s1 b1] (ho : o.op = .binOp .neq ty x z ty2) (hx : Wk (evA t x) (.v (.bool a))) (hz : Wk (evA t z) (.v (.bool b))) : OpQ P o t bs (.v (.bool (!(a == b)))) :=
  .of_run fun ac w h hb => by
    have e1 := (op_rep h (x := x) (by simp [ho, Op.operands]) hx).val
    have e2 := (op_rep h (x := z) (by simp [ho, Op.operands]) hz).val
    refine ⟨_, ?_, .v rfl⟩
    simp only [execOp, ho, e1, e2, Sem.run_bind, run_guard_bool, Result.andThen_ok, run_neq_bool h1, Sem.run_pure]

/-- A slice that is nil, or a full one that is not. -/
theorem run_guard_sl (op : BinOp) (ty : TypeId) (x z : Operand) (a b : Option Addr) (n1 c1 n2 c2 : Nat) (w : World) : (eqGuard op ty x z (.slice a n1 c1) (.slice b n2 c2)).run P w = .ok () w := by
  unfold eqGuard
  split <;> simp [Sem.run]
theorem OpQ.nil_nil {e : TypeId} {s1 b1 : Nat} [h1 : TI P ty (.slice e) s1 b1] (ho : o.op = .binOp .eql ty x (.const (.slice none 0 0)) ty2) (hx : Wk (evA t x) .nil) : OpQ P o t bs (.v (.bool true)) :=
  .of_run fun ac w h hb => by
    have h1x := op_rep h (x := x) (by simp [ho, Op.operands]) hx
    have e1 : ac.eval x = .slice none 0 0 := by generalize ac.eval x = u at h1x; cases h1x; rfl
    have e2 : ac.eval (.const (.slice none 0 0)) = .slice none 0 0 := rfl
    refine ⟨_, ?_, .v rfl⟩
    have hr : (binOp .eql ty (.slice none 0 0) (.slice none 0 0)).run P w = .ok (.bool true) w := by
      show (do pure (.bool (← Op.equalIn (9999 + 1) ty (.slice none 0 0) (.slice none 0 0))) : Sem Value).run P w = _
      rw [Op.equalIn]
      simp [Sem.run_bind, h1.run_und]
    simp only [execOp, ho, e1, e2, Sem.run_bind, run_guard_sl, Result.andThen_ok, hr, Sem.run_pure]
theorem OpQ.nil_not {e : TypeId} {s1 b1 g off len cap : Nat} [h1 : TI P ty (.slice e) s1 b1] (ho : o.op = .binOp .eql ty x (.const (.slice none 0 0)) ty2) (hx : Wk (evA t x) (.ms g off len cap)) : OpQ P o t bs (.v (.bool false)) :=
  .of_run fun ac w h hb => by
    have h1x := op_rep h (x := x) (by simp [ho, Op.operands]) hx
    have e1 : ac.eval x = .slice (some ⟨g, off, none⟩) len cap := by generalize ac.eval x = u at h1x; cases h1x; rfl
    have e2 : ac.eval (.const (.slice none 0 0)) = .slice none 0 0 := rfl
    refine ⟨_, ?_, .v rfl⟩
    have hr : (binOp .eql ty (.slice (some ⟨g, off, none⟩) len cap) (.slice none 0 0)).run P w = .ok (.bool false) w := by
      show (do pure (.bool (← Op.equalIn (9999 + 1) ty (.slice (some ⟨g, off, none⟩) len cap) (.slice none 0 0))) : Sem Value).run P w = _
      rw [Op.equalIn]
      simp [Sem.run_bind, h1.run_und]
    simp only [execOp, ho, e1, e2, Sem.run_bind, run_guard_sl, Result.andThen_ok, hr, Sem.run_pure]
/-- A slice of which we know no more: nil or not. -/
theorem OpW.nil_any {e : TypeId} {s1 b1 : Nat} {rows : List (List A)} [h1 : TI P ty (.slice e) s1 b1] (ho : o.op = .binOp .eql ty x (.const (.slice none 0 0)) ty2) (hx : Wk (evA t x) (.sl rows)) : OpW P o t bs fun y bs' => ∃ b : Bool, y = .v (.bool b) ∧ bs' = bs ∧ (b = true → rows = []) := by
  intro ac w h hb K Q hK
  have h1x := op_rep h (x := x) (by simp [ho, Op.operands]) hx
  generalize hu : ac.eval x = u at h1x
  cases h1x with
  | @sl Ad n c _ hn hc hm sz g o' us hs ha hcell hst h1c hr =>
    have hrun : (binOp .eql ty (.slice Ad n c) (.slice none 0 0)).run P w = .ok (.bool Ad.isNone) w := by
      show (do pure (.bool (← Op.equalIn (9999 + 1) ty (.slice Ad n c) (.slice none 0 0))) : Sem Value).run P w = _
      rw [Op.equalIn]
      cases Ad <;> simp [Sem.run_bind, h1.run_und]
    have e2 : ac.eval (.const (.slice none 0 0)) = .slice none 0 0 := rfl
    unfold Oper.wp
    rw [show (execOp ac.eval o).run P w = .ok (.value (.bool Ad.isNone)) w by simp only [execOp, ho, hu, e2, Sem.run_bind, run_guard_sl, Result.andThen_ok, hrun, Sem.run_pure]]
    refine hK _ _ (.v (.bool Ad.isNone)) bs ⟨_, rfl, rfl, fun he => ?_⟩ (.v rfl) hb (Ext.refl _ _)
    rcases Nat.eq_zero_or_pos rows.length with h0 | h0
    · exact List.eq_nil_of_length_eq_zero h0
    · rw [ha (by omega)] at he; cases he

/-! ### texts -/
theorem run_guard_str (op : BinOp) (ty : TypeId) (x z : Operand) (a b : ByteArray) (w : World) : (eqGuard op ty x z (.string a) (.string b)).run P w = .ok () w := by
  unfold eqGuard
  split <;> simp [Sem.run]
theorem bin_str {a b : ByteArray} {op : BinOp} {u : Value} (ho : o.op = .binOp op ty x z ty2) (hx : Wk (evA t x) (.v (.string a))) (hz : Wk (evA t z) (.v (.string b))) (h1 : u.oneCell' = true)
    (hr : ∀ w, (binOp op ty (.string a) (.string b)).run P w = .ok u w) : OpQ P o t bs (.v u) :=
  .of_run fun ac w h hb => by
    have e1 := (op_rep h (x := x) (by simp [ho, Op.operands]) hx).val
    have e2 := (op_rep h (x := z) (by simp [ho, Op.operands]) hz).val
    refine ⟨u, ?_, .v h1⟩
    simp only [execOp, ho, e1, e2, Sem.run_bind, run_guard_str, Result.andThen_ok, hr, Sem.run_pure]
theorem OpQ.cat {a b : ByteArray} (ho : o.op = .binOp .add ty x z ty2) (hx : Wk (evA t x) (.v (.string a))) (hz : Wk (evA t z) (.v (.string b))) (h : a.size + b.size ≤ 9223372036854775807) : OpQ P o t bs (.v (.string (a ++ b))) :=
  bin_str ho hx hz rfl fun w => by
    have : ¬ (((a.size + b.size : Nat) : Int) > IntKind.i64.max) := by simp only [show IntKind.i64.max = 9223372036854775807 from rfl]; omega
    simp only [binOp, Op.stringOp, this, if_false, Sem.run_pure]
theorem toList_inj {a b : ByteArray} (h : a.toList = b.toList) : a = b := by
  rw [ByteArray.toList_eq, ByteArray.toList_eq] at h
  exact ByteArray.ext (Array.toList_inj.mp h)
theorem toList_eq (a b : ByteArray) : (a.toList == b.toList) = decide (a = b) := by
  by_cases h : a = b
  · subst h; simp
  · rw [decide_eq_false h, beq_eq_false_iff_ne]
    exact fun e => h (toList_inj e)
def cmpS : BinOp → ByteArray → ByteArray → Option Bool
  | .eql, a, b => some (decide (a = b))
  | .neq, a, b => some (!decide (a = b))
  | .lss, a, b => some (Op.bytesLess a.toList b.toList)
  | .leq, a, b => some (Op.bytesLess a.toList b.toList || decide (a = b))
  | .gtr, a, b => some (!(Op.bytesLess a.toList b.toList || decide (a = b)))
  | .geq, a, b => some (!(Op.bytesLess a.toList b.toList))
  | _, _, _ => none
theorem OpQ.cmps {op : BinOp} {a b : ByteArray} {r : Bool} (ho : o.op = .binOp op ty x z ty2) (hx : Wk (evA t x) (.v (.string a))) (hz : Wk (evA t z) (.v (.string b))) (h : cmpS op a b = some r) : OpQ P o t bs (.v (.bool r)) :=
  bin_str ho hx hz rfl fun w => by cases op <;> simp only [cmpS, Option.some.injEq, reduceCtorEq] at h <;> subst h <;> simp [binOp, Op.stringOp, toList_eq]
theorem OpQ.len_str {s : ByteArray} {s1 b1 : Nat} [h1 : TI P ty .string s1 b1] (ho : o.op = .call { callee := .builtin .len, args := #[x], argTypes := #[ty] }) (hx : Wk (evA t x) (.v (.string s))) : OpQ P o t bs (.v (.int .i64 s.size)) :=
  .of_run fun ac w h hb => by
    have e1 := (op_rep h (x := x) (by simp [ho, Op.operands, Call.operands]) hx).val
    refine ⟨_, ?_, .v rfl⟩
    simp [execOp, ho, e1, resolve, invoke, builtin, Builtin.len_, Sem.run_bind, h1.run_und, goInt]
theorem OpQ.idx_str {s : ByteArray} {k : IntKind} {n : Nat} {i : Int} {c : UInt8} {s1 b1 : Nat} [h1 : TI P ty .string s1 b1] (ho : o.op = .index ty x z) (hx : Wk (evA t x) (.v (.string s))) (hz : Wk (evA t z) (.v (.int k i))) (h0 : 0 ≤ i) (hc : s[i.toNat]? = some c) : OpQ P o t bs (.v (.int .u8 c.toNat)) :=
  .of_run fun ac w h hb => by
    have e1 := (op_rep h (x := x) (by simp [ho, Op.operands]) hx).val
    have e2 := (op_rep h (x := z) (by simp [ho, Op.operands]) hz).val
    refine ⟨_, ?_, .v rfl⟩
    simp [execOp, ho, e1, e2, Instr.index, Sem.run_bind, h1.run_und, asIntOf, h0, hc]
end
end Go.Proofs.Ytnkkfmnpkgjabaa.X
