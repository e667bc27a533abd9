/- The same logic: calls; guards; regions that draw their order. -/
import Derived.Test.YtnkkfmnpkgjabaaA7
namespace Go.Proofs.Ytnkkfmnpkgjabaa.X
open Go.RowKit
set_option linter.unusedVariables false
set_option linter.unusedSimpArgs false

/-- A function of Go with a body. -/
class FI (P : Program) (K : Nat) : Prop where
  run : ∀ args w, (callFunc K args).run P w = .ok (.enter K args) w
theorem FI.of {P : Program} {K : Nat} {fn : Func} (hf : P.funcs[K]? = some fn) (hn : (fn.name == "runtime.NumGoroutine") = false) (hb : fn.body.isNone = false) : FI P K :=
  ⟨fun args w => by simp only [callFunc, program, Sem.run_bind, Sem.run, Result.andThen_ok, hf, hn, hb, Bool.false_eq_true, if_false, Sem.run_pure]⟩
theorem bqt (b : Bool) : (b == true) = b := by cases b <;> rfl
theorem bqf (b : Bool) : (b == false) = !b := by cases b <;> rfl
theorem cbt (c b : Bool) : (c && (b == true)) = (c && b) := by cases b <;> rfl
theorem cbf (c b : Bool) : (c && (b == false)) = (c && !b) := by cases b <;> rfl
section
variable {P : Program} {o : Oper} {t : T} {bs : BS} {y : A} {x z : Operand} {ty ty2 : TypeId} {d : TypeDesc} {sz by_ : Nat}
theorem wks_rep {w : World} {Z : Zones} {us : Array Value} {xs ys : List A} (hl : us.size = xs.length) (h : ∀ k x, xs[k]? = some x → Rep w Z (us.getD k undef) x) (k : Wks xs ys) : us.size = ys.length ∧ ∀ i x, ys[i]? = some x → Rep w Z (us.getD i undef) x := by
  obtain ⟨h1, h2⟩ := k.get
  refine ⟨hl.trans h1, fun i y hy => ?_⟩
  have := (List.getElem?_eq_some_iff.1 hy).1
  exact (h i _ (List.getElem?_eq_getElem (by omega))).wk (h2 i _ y (List.getElem?_eq_getElem (by omega)) hy)
/-- A call of a function that is named. -/
theorem OpW.call {K : Nat} {args : Array Operand} {tys : Array TypeId} {xs : List A} {R : A → BS → Prop} [hF : FI P K] (ho : o.op = .call { callee := .value (.func K), args, argTypes := tys }) (hc : ACalls P K xs bs R) (ha : Wks (args.toList.map (evA t)) xs) : OpW P o t bs R := by
  intro a w h hb Kk Q hK
  obtain ⟨hs, hr⟩ := wks_rep (us := args.map a.eval) (w := w) (Z := zones bs) (xs := args.toList.map (evA t)) (by simp) (fun k x hk => by
    simp only [List.getElem?_map, Array.getElem?_toList, Option.map_eq_some_iff] at hk
    obtain ⟨q, hq, rfl⟩ := hk
    rw [getD_map hq]
    exact h q (by simp only [ho, Op.operands, Call.operands]; exact Array.mem_append_right _ (Array.mem_of_getElem? hq))) ha
  have hrun : (execOp a.eval o).run P w = .ok (.enter K (args.map a.eval)) w := by
    simp only [execOp, ho, resolve, Deferred.ofValue, Act.eval, invoke, Sem.run_bind, Sem.run_pure, Result.andThen_ok, Array.append_empty, Array.empty_append, hF.run]
  unfold Oper.wp
  rw [hrun, Oper.upon_enter]
  refine (hc w _ hs hr hb).mono fun e w' ⟨u, r, bs', he, hR, hu, hb', hE⟩ => ?_
  subst he
  exact hK u w' r bs' hR hu hb' hE
theorem OpQ.call {K : Nat} {args : Array Operand} {tys : Array TypeId} {xs : List A} [hF : FI P K] (ho : o.op = .call { callee := .value (.func K), args, argTypes := tys }) (hc : APure P K xs y) (ha : Wks (args.toList.map (evA t)) xs) : OpQ P o t bs y := by
  have := OpW.call ho (hc bs) ha
  intro a w h hb Kk Q hK
  exact this a w h hb Kk Q fun u w' y' bs' ⟨h1, h2⟩ hu hb' he => by subst h1; subst h2; exact hK u w' hu hb' he
/-- A call of a function's value. -/
theorem OpW.callv {K : Nat} {args : Array Operand} {tys : Array TypeId} {xs x1 x2 ys : List A} {R : A → BS → Prop} [hF : FI P K] (ho : o.op = .call { callee := .value x, args, argTypes := tys }) (hx : Wk (evA t x) (.fn (.func K) x1 x2)) (hc : ACalls P K xs bs R) (hy : x1 ++ args.toList.map (evA t) ++ x2 = ys) (ha : Wks ys xs) : OpW P o t bs R := by
  subst hy
  intro a w h hb Kk Q hK
  have hfx := (h x (by simp [ho, Op.operands, Call.operands])).wk hx
  obtain ⟨u1, u2, e, l1, l2, r1, r2⟩ := hfx.fn_inv
  obtain ⟨hs, hr⟩ := wks_rep (us := u1 ++ args.map a.eval ++ u2) (w := w) (Z := zones bs) (xs := x1 ++ args.toList.map (evA t) ++ x2) (by simp [l1, l2]) (fun k q hk => by
    by_cases h1 : k < x1.length
    · rw [List.append_assoc, List.getElem?_append_left h1] at hk
      have e : (u1 ++ args.map a.eval ++ u2).getD k undef = u1.getD k undef := by
        simp only [Array.getD_eq_getD_getElem?]
        rw [Array.append_assoc, Array.getElem?_append_left (by omega)]
      rw [e]; exact r1 k q hk
    · by_cases h2 : k < x1.length + args.size
      · rw [List.append_assoc, List.getElem?_append_right (by omega), List.getElem?_append_left (by simp; omega)] at hk
        simp only [List.getElem?_map, Array.getElem?_toList, Option.map_eq_some_iff] at hk
        obtain ⟨p, hp, rfl⟩ := hk
        have e : (u1 ++ args.map a.eval ++ u2).getD k undef = a.eval p := by
          simp only [Array.getD_eq_getD_getElem?]
          rw [Array.append_assoc, Array.getElem?_append_right (by omega), Array.getElem?_append_left (by simp; omega), l1]
          simp [hp]
        rw [e]
        exact h p (by simp only [ho, Op.operands, Call.operands]; exact Array.mem_append_right _ (Array.mem_of_getElem? hp))
      · rw [List.getElem?_append_right (by simp; omega)] at hk
        have e : (u1 ++ args.map a.eval ++ u2).getD k undef = u2.getD (k - (x1 ++ args.toList.map (evA t)).length) undef := by
          simp only [Array.getD_eq_getD_getElem?]
          rw [Array.getElem?_append_right (by simp; omega)]
          simp [l1]
        rw [e]; exact r2 _ q hk) ha
  have hrun : (execOp a.eval o).run P w = .ok (.enter K (u1 ++ args.map a.eval ++ u2)) w := by
    simp only [execOp, ho, resolve, e, Deferred.ofValue, invoke, Sem.run_bind, Sem.run_pure, Result.andThen_ok, hF.run]
  unfold Oper.wp
  rw [hrun, Oper.upon_enter]
  refine (hc w _ hs hr hb).mono fun e w' ⟨u, r, bs', he, hR, hu, hb', hE⟩ => ?_
  subst he
  exact hK u w' r bs' hR hu hb' hE
theorem OpQ.callv {K : Nat} {args : Array Operand} {tys : Array TypeId} {xs x1 x2 ys : List A} [hF : FI P K] (ho : o.op = .call { callee := .value x, args, argTypes := tys }) (hx : Wk (evA t x) (.fn (.func K) x1 x2)) (hc : APure P K xs y) (hy : x1 ++ args.toList.map (evA t) ++ x2 = ys) (ha : Wks ys xs) : OpQ P o t bs y := by
  have := OpW.callv ho hx (hc bs) hy ha
  intro a w h hb Kk Q hK
  exact this a w h hb Kk Q fun u w' y' bs' ⟨h1, h2⟩ hu hb' he => by subst h1; subst h2; exact hK u w' hu hb' he
end
section
variable {P : Program} {N : Nat} {ops : Array Oper} {Q : Exit → T → BS → Prop} {rest : List Oper} {o : Oper} {t : T} {bs : BS} {y : A}
/-- A guard: the operation runs if a Bool is so. -/
theorem yielded_bool {a : Act} {w : World} (hG : Good N t bs a w) {ops : Array Oper} {j dj : Nat} {oj : Oper} {b : Bool} (hj : ops[j]? = some oj) (hd : oj.dst = some dj) (hl : Wk (look t dj) (.v (.bool b))) (hlt : dj < N) : yielded ops a.tmps j = some b := by
  have h1 := ((hG.tmps dj).wk hl).bool
  have hs : dj < a.tmps.size := by rw [hG.size]; exact hlt
  have h2 : a.tmps[dj]? = some (.bool b) := by
    rw [Array.getElem?_eq_getElem hs, ← h1]; simp [hs]
  simp [yielded, hj, hd, h2]
theorem Good.skip {a : Act} {w : World} (hG : Good N t bs a w) {dst : Option Tmp} (hd : okD N dst = true) : Good N (putA t dst .junk) bs (a.put dst undef) w := hG.put (Ext.refl _ _) hG.bs hd .junk
theorem Rep.opt_inv {w : World} {Z : Zones} {u : Value} {c : Bool} {x : A} (h : Rep w Z u (.opt c x)) : (c = true → Rep w Z u x) ∧ (c = false → u = undef) := by
  cases h with | opt h1 h2 => exact ⟨h1, h2⟩
/-- Whether an operation runs whose guard is told in slot dj. -/
inductive GB (t : T) (dj : Nat) (want : Bool) : Bool → Prop where
  | v {b bc : Bool} (h : Wk (look t dj) (.v (.bool b))) (hb : (b == want) = bc) : GB t dj want bc
  | o {b c bc : Bool} (h : look t dj = .opt c (.v (.bool b))) (hb : (c && (b == want)) = bc) : GB t dj want bc
theorem GB.yields {want bc : Bool} {dj j : Nat} {oj : Oper} (h : GB t dj want bc) {a : Act} {w : World} {Z : Zones} (hN : a.tmps.size = N) (hr : Rep w Z (a.tmps.getD dj undef) (look t dj)) (hj : ops[j]? = some oj) (hd : oj.dst = some dj) (hlt : dj < N) : (yielded ops a.tmps j == some want) = bc := by
  have hs : dj < a.tmps.size := by rw [hN]; exact hlt
  have h0 : a.tmps[dj]? = some (a.tmps.getD dj undef) := by simp [hs]
  have key : ∀ b : Bool, a.tmps.getD dj undef = .bool b → yielded ops a.tmps j = some b := fun b e => by
    rw [e] at h0
    simp [yielded, hj, hd, h0]
  cases h with
  | @v b _ h hb => rw [key b (hr.wk h).bool, ← hb]; cases b <;> cases want <;> rfl
  | @o b c _ h hb =>
    rw [h] at hr
    obtain ⟨h1, h2⟩ := hr.opt_inv
    cases c with
    | true => rw [key b (h1 rfl).bool, ← hb]; cases b <;> cases want <;> rfl
    | false =>
      rw [h2 rfl] at h0
      have : yielded ops a.tmps j = none := by simp [yielded, hj, hd, h0, undef]
      rw [this, ← hb]; rfl
theorem AL.guard {j dj : Nat} {oj : Oper} {want bc : Bool} (hg : o.guard = some (j, want)) (hj : ops[j]? = some oj) (hdj : oj.dst = some dj) (hl : GB t dj want bc) (hlt : dj < N) (hq : bc = true → OpQ P o t bs y) (hk : okOps o = true) (hd : okD N o.dst = true)
    (h : AL P N ops Q rest (putA t o.dst (.opt bc y)) bs) : AL P N ops Q (o :: rest) t bs := fun w0 Z0 a w hG hE => by
  have hy := hl.yields hG.size (hG.tmps dj) hj hdj hlt
  have hw : Region.wanted o (yielded ops a.tmps) = bc := by simp only [Region.wanted, hg]; exact hy
  unfold wpList
  rw [hw]
  cases bc with
  | true =>
    rw [if_pos rfl]
    exact .inl (hq rfl a w (hG.operands hk) hG.bs _ _ fun u w' hu hb he => h w0 Z0 _ _ (hG.put he hb hd (.opt (fun _ => hu) (fun h => by cases h))) (hE.trans he))
  | false =>
    rw [if_neg (by simp)]
    exact h w0 Z0 _ _ (hG.put (Ext.refl _ _) hG.bs hd (.opt (fun h => by cases h) fun _ => rfl)) hE
/-- Where the Bool is known. -/
theorem AL.guard_in {j dj : Nat} {oj : Oper} {b : Bool} (hg : o.guard = some (j, b)) (hj : ops[j]? = some oj) (hdj : oj.dst = some dj) (hl : Wk (look t dj) (.v (.bool b))) (hlt : dj < N) {R : A → BS → Prop} (hq : OpW P o t bs R) (hk : okOps o = true) (hd : okD N o.dst = true)
    (h : ∀ y bs', R y bs' → AL P N ops Q rest (putA t o.dst y) bs') : AL P N ops Q (o :: rest) t bs := fun w0 Z0 a w hG hE => by
  have hy := yielded_bool hG hj hdj hl hlt
  unfold wpList
  rw [if_pos (by simp [Region.wanted, hg, hy])]
  exact .inl (hq a w (hG.operands hk) hG.bs _ _ fun u w' y bs' hR hu hb he => h y bs' hR w0 Z0 _ _ (hG.put he hb hd hu) (hE.trans he))
theorem AL.guard_out {j dj : Nat} {oj : Oper} {b c : Bool} (hg : o.guard = some (j, c)) (hj : ops[j]? = some oj) (hdj : oj.dst = some dj) (hl : Wk (look t dj) (.v (.bool b))) (hlt : dj < N) (hbc : (b == c) = false) (hd : okD N o.dst = true)
    (h : AL P N ops Q rest (putA t o.dst .junk) bs) : AL P N ops Q (o :: rest) t bs := fun w0 Z0 a w hG hE => by
  have hy := yielded_bool hG hj hdj hl hlt
  unfold wpList
  rw [if_neg (by simp [Region.wanted, hg, hy]; simpa using hbc)]
  exact h w0 Z0 _ _ (hG.skip hd) hE
end
end Go.Proofs.Ytnkkfmnpkgjabaa.X
