/- Lifted code: rows that grow, the steps. -/
import Derived.Test.YtnkkfmnpkgjabaaL1
namespace Go.Proofs.Ytnkkfmnpkgjabaa.X
open Go.RowKit
set_option linter.unusedVariables false
set_option linter.unusedSimpArgs false
section
variable {P : Program} {N : Nat} {ops : Array Oper} {Q : Exit → T → BS → Prop} {o : Oper} {rest : List Oper} {t : T} {bs : BS} {y : A} {cl : List Clm} {n m d : Nat} {idx : Idx}
theorem OpW.grow {e ty : TypeId} {x z : Operand} {s1 b1 s2 b2 : Nat} {d2 : TypeDesc} {zs : List Value} {cs : List A} {rows rows2 : List (List A)} {q : Option (Nat × Nat)} {B : Option (Nat × Nat) → BS} [h1 : TI P ty (.slice e) s1 b1] [h2 : TI P e d2 s2 b2] [hz : TC P e zs cs] (ho : o.op = .call { callee := .builtin .append, args := #[x, z], argTypes := #[ty, ty] })
    (hx : Wk (evA t x) (.gr q rows)) (hy : Wk (evA t z) (.sl rows2)) (hu : GU bs q rows.length s2 e (rows ++ rows2).length B) (hzl : cs.length = s2) (hpos : 0 < s2) (hb2 : 0 < b2) (hs : ∀ r ∈ rows ++ rows2, r.length = s2) (hbd : (rows.length + rows2.length) * b2 ≤ 140737488355328) :
    OpW P o t bs fun y bs' => ∃ q', y = .gr q' (rows ++ rows2) ∧ bs' = B q' := by
  intro a w hx2 hb K Q hK
  have hr := (append_ops ho hx2).1.wk hx
  generalize a.eval x = ux at hr
  cases hr with
  | gr0 =>
    obtain ⟨u1, u2⟩ := hu.none
    have hle : RLe (evA t x) .nil := fun w Z u h => by
      have h := h.wk hx
      cases h
      exact .nil
    by_cases hr : rows2 = []
    · subst hr
      exact OpQ.app_zeroR (h1 := h1) (h2 := h2) ho hle .nil hy a w hx2 hb K Q fun u w' hu hb he => hK u w' _ bs ⟨none, rfl, u1.symm⟩ (by cases hu; exact .gr0) hb he
    · have hp : 0 < rows2.length := List.length_pos_iff.2 hr
      refine OpW.perm (R := fun y bs' => ∃ g c, y = .gr (some (g, c)) ([] ++ rows2) ∧ bs' = (g, .tip ([] ++ rows2).length c s2 e) :: bs) (R' := fun y bs' => ∃ q', y = .gr q' ([] ++ rows2) ∧ bs' = B q') ?_ (.refl _) ?_ a w hx2 hb K Q hK
      · intro a w hx2 hb K Q hK
        exact OpW.app_newR (h1 := h1) (h2 := h2) (hz := hz) ho hle .nil hy hzl hpos hb2 hs hp hbd a w hx2 hb K Q fun u w' y b ⟨g, c, e1, e2⟩ hu => hK u w' _ b ⟨g, c, rfl, e2⟩ (.gr (e1 ▸ hu))
      · intro y b ⟨g, c, e1, e2⟩
        subst e1; subst e2
        exact ⟨_, ⟨some (g, c), rfl, rfl⟩, (u2 g c).symm⟩
  | @gr _ g c _ hr =>
    have hle : RLe (evA t x) (.tip g c rows) := fun w Z u h => by
      have h := h.wk hx
      cases h with
      | gr h => exact h
    by_cases hr : rows2 = []
    · subst hr
      have hB := hu.same (by simp)
      exact OpQ.app_zeroR (h1 := h1) (h2 := h2) ho hle (.tip _ _ _) hy a w hx2 hb K Q fun u w' hu hb he => hK u w' (.gr (some (g, c)) (rows ++ [])) bs ⟨some (g, c), rfl, hB.symm⟩ (by rw [List.append_nil]; exact .gr hu) hb he
    · have hp : 0 < rows2.length := List.length_pos_iff.2 hr
      exact OpW.app_tipR (h1 := h1) (h2 := h2) (hz := hz) ho hle hy hu.upd rfl hzl hpos hb2 hs hp hbd a w hx2 hb K Q fun u w' y bs' ⟨g', c', e1, e2⟩ hu => hK u w' _ bs' ⟨some (g', c'), rfl, e2⟩ (.gr (e1 ▸ hu))
/-- A row that grows; it may be nothing. -/
theorem AL.grow {α : Type} {R : α → List A} {l l2 rs : List α} {e ty : TypeId} {x z : Operand} {s1 b1 s2 b2 : Nat} {d2 : TypeDesc} {zs : List Value} {cs : List A} {q : Option (Nat × Nat)} {B : Option (Nat × Nat) → BS}
    (hu : GU bs q l.length s2 e rs.length B) (hrs : l ++ l2 = rs) (hbd : (l.length + l2.length) * b2 ≤ 140737488355328) (hR : ∀ x, (R x).length = s2)
    (ho : o.op = .call { callee := .builtin .append, args := #[x, z], argTypes := #[ty, ty] } := by rfl) (h1 : TI P ty (.slice e) s1 b1 := by infer_instance) (h2 : TI P e d2 s2 b2 := by infer_instance) (hz : TC P e zs cs := by infer_instance)
    (hx : Wk (evA t x) (.gr q (l.map R)) := by exact (by first | exact Wk.refl _ | exact Wk.nil | exact Wk.clip _ | exact Wk.tip _ _ _ | exact Wk.opt _ _ (by first | assumption | rfl) | exact Wk.gr _ _ | exact Wk.nil_gr | exact Wk.trans (Wk.opt _ _ (by first | assumption | rfl)) (by first | exact Wk.gr _ _ | exact Wk.nil | exact Wk.clip _ | exact Wk.tip _ _ _) | exact Wk.aggs (by repeat (first | exact Wks.nil | refine Wks.cons (by first | exact Wk.refl _ | exact Wk.nil | exact Wk.clip _ | exact Wk.tip _ _ _ | exact Wk.gr _ _ | exact Wk.nil_gr) ?_)) rfl)) (hy : Wk (evA t z) (.sl (l2.map R)) := by exact (by first | exact Wk.refl _ | exact Wk.nil | exact Wk.clip _ | exact Wk.tip _ _ _ | exact Wk.opt _ _ (by first | assumption | rfl) | exact Wk.gr _ _ | exact Wk.nil_gr | exact Wk.trans (Wk.opt _ _ (by first | assumption | rfl)) (by first | exact Wk.gr _ _ | exact Wk.nil | exact Wk.clip _ | exact Wk.tip _ _ _) | exact Wk.aggs (by repeat (first | exact Wks.nil | refine Wks.cons (by first | exact Wk.refl _ | exact Wk.nil | exact Wk.clip _ | exact Wk.tip _ _ _ | exact Wk.gr _ _ | exact Wk.nil_gr) ?_)) rfl)) (hzl : cs.length = s2 := by rfl) (hpos : 0 < s2 := by decide) (hb2 : 0 < b2 := by decide)
    (hg : o.guard = none := by rfl) (hk : okOps o = true := by rfl) (hd : o.dst = some d := by rfl) (hN : Nat.blt d N = true := by rfl) (h : ∀ q', AL P N ops Q rest ((d, .gr q' (rs.map R)) :: t) (B q')) : AL P N ops Q (o :: rest) t bs := by
  subst hrs
  have hl : ∀ r ∈ l.map R ++ l2.map R, r.length = s2 := by
    intro r hr; rw [← List.map_append] at hr; obtain ⟨x, _, rfl⟩ := List.mem_map.1 hr; exact hR x
  refine .w (OpW.grow (h1 := h1) (h2 := h2) (hz := hz) ho hx hy (B := B) (by simpa using hu) hzl hpos hb2 hl (by simpa using hbd)) hg hk (by rw [hd]; exact hN) fun y bs' ⟨q', e1, e3⟩ => ?_
  subst e1; subst e3; rw [hd, ← List.map_append]; exact h q'
theorem ADl.grow {α : Type} {R : α → List A} {l l2 rs : List α} {e ty : TypeId} {x z : Operand} {s1 b1 s2 b2 : Nat} {d2 : TypeDesc} {zs : List Value} {cs : List A} {q : Option (Nat × Nat)} {B : Option (Nat × Nat) → BS}
    (hu : GU bs q l.length s2 e rs.length B) (hrs : l ++ l2 = rs) (hbd : (l.length + l2.length) * b2 ≤ 140737488355328) (hR : ∀ x, (R x).length = s2)
    (ho : o.op = .call { callee := .builtin .append, args := #[x, z], argTypes := #[ty, ty] } := by rfl) (h1 : TI P ty (.slice e) s1 b1 := by infer_instance) (h2 : TI P e d2 s2 b2 := by infer_instance) (hz : TC P e zs cs := by infer_instance)
    (hx : Wk (evA t x) (.gr q (l.map R)) := by exact (by first | exact Wk.refl _ | exact Wk.nil | exact Wk.clip _ | exact Wk.tip _ _ _ | exact Wk.opt _ _ (by first | assumption | rfl) | exact Wk.gr _ _ | exact Wk.nil_gr | exact Wk.trans (Wk.opt _ _ (by first | assumption | rfl)) (by first | exact Wk.gr _ _ | exact Wk.nil | exact Wk.clip _ | exact Wk.tip _ _ _) | exact Wk.aggs (by repeat (first | exact Wks.nil | refine Wks.cons (by first | exact Wk.refl _ | exact Wk.nil | exact Wk.clip _ | exact Wk.tip _ _ _ | exact Wk.gr _ _ | exact Wk.nil_gr) ?_)) rfl)) (hy : Wk (evA t z) (.sl (l2.map R)) := by exact (by first | exact Wk.refl _ | exact Wk.nil | exact Wk.clip _ | exact Wk.tip _ _ _ | exact Wk.opt _ _ (by first | assumption | rfl) | exact Wk.gr _ _ | exact Wk.nil_gr | exact Wk.trans (Wk.opt _ _ (by first | assumption | rfl)) (by first | exact Wk.gr _ _ | exact Wk.nil | exact Wk.clip _ | exact Wk.tip _ _ _) | exact Wk.aggs (by repeat (first | exact Wks.nil | refine Wks.cons (by first | exact Wk.refl _ | exact Wk.nil | exact Wk.clip _ | exact Wk.tip _ _ _ | exact Wk.gr _ _ | exact Wk.nil_gr) ?_)) rfl)) (hzl : cs.length = s2 := by rfl) (hpos : 0 < s2 := by decide) (hb2 : 0 < b2 := by decide)
    (hg : o.guard = none := by rfl) (hdst : o.dst = some d := by rfl) (hN : Nat.blt d N = true := by rfl) (hk : okOps o = true := by rfl) (hd : depsI ops idx n = true := by decide +kernel) (hld : loudI ops idx n = true := by decide +kernel) (hm : n + 1 = m := by exact (by (conv => lhs; whnf) <;> rfl))
    (h : ∀ q', ADl P N ops Q m ((n, true) :: idx) rest (⟨n, .gr q' (rs.map R), some []⟩ :: cl) ((d, .gr q' (rs.map R)) :: t) (B q')) : ADl P N ops Q n idx (o :: rest) cl t bs := by
  subst hrs
  have hl : ∀ r ∈ l.map R ++ l2.map R, r.length = s2 := by
    intro r hr; rw [← List.map_append] at hr; obtain ⟨x, _, rfl⟩ := List.mem_map.1 hr; exact hR x
  refine .w (OpW.grow (h1 := h1) (h2 := h2) (hz := hz) ho hx hy (B := B) (by simpa using hu) hzl hpos hb2 hl (by simpa using hbd)) hg (by rw [hdst]; exact hN) hk hd hld hm (.inr fun y b' ⟨q', _, e3⟩ c hc L hL hn x hx => e3 ▸ hu.keeps q' _ _ (hn x hx)) fun y bs' ⟨q', e1, e3⟩ => ?_
  subst e1; subst e3; rw [hdst, ← List.map_append]; exact h q'
theorem OpQ.part_map {α : Type} {R : α → List A} {l : List α} {ty e : TypeId} {x : Operand} {lo hi : Option Operand} {a b s1 b1 s2 b2 : Nat} {d2 : TypeDesc} [h1 : TI P ty (.slice e) s1 b1] [h2 : TI P e d2 s2 b2] (ho : o.op = .slice ty x lo hi none) (hx : Wk (evA t x) (.sl (l.map R))) (hR : ∀ x, (R x).length = s2)
    (hlo : Bnd t lo 0 a) (hhi : Bnd t hi l.length b) (hl : a ≤ b) (hh : b ≤ l.length) : OpQ P o t bs (.sl (((l.take b).drop a).map R)) := by
  have := OpQ.part_sl (P := P) (bs := bs) ho hx (fun r hr => by obtain ⟨x, _, rfl⟩ := List.mem_map.1 hr; exact hR x) hlo (by simpa using hhi) hl (by simpa using hh)
  rw [← List.map_take, ← List.map_drop] at this
  exact this
theorem OpQ.clip_map {α : Type} {R : α → List A} {l : List α} {ty e : TypeId} {x : Operand} {hi mx : Option Operand} {s1 b1 s2 b2 : Nat} {d2 : TypeDesc} [h1 : TI P ty (.slice e) s1 b1] [h2 : TI P e d2 s2 b2] (ho : o.op = .slice ty x none hi mx) (hx : Wk (evA t x) (.sl (l.map R))) (hR : ∀ x, (R x).length = s2)
    (hhi : Bnd t hi l.length l.length) (hmx : ∀ c, Bnd t mx c l.length) (hsm : mx ≠ none ∧ hi ≠ none := by exact ⟨Option.some_ne_none _, Option.some_ne_none _⟩) : OpQ P o t bs (.clip (l.map R)) :=
  OpQ.clip_all (P := P) (bs := bs) ho hx (fun r hr => by obtain ⟨x, _, rfl⟩ := List.mem_map.1 hr; exact hR x) (by simpa using hhi) hmx hsm (by simp)
theorem OpQ.app_full {α : Type} {R : α → List A} {l l2 : List α} {e ty : TypeId} {x z : Operand} {s1 b1 s2 b2 : Nat} {d2 : TypeDesc} {zs : List Value} {cs : List A} {q : A} [h1 : TI P ty (.slice e) s1 b1] [h2 : TI P e d2 s2 b2] [hz : TC P e zs cs] (ho : o.op = .call { callee := .builtin .append, args := #[x, z], argTypes := #[ty, ty] })
    (hx : evA t x = q) (hf : Full q (l.map R)) (hy : Wk (evA t z) (.sl (l2.map R))) (hR : ∀ x, (R x).length = s2) (hbd : (l.length + l2.length) * b2 ≤ 140737488355328) (hzl : cs.length = s2 := by rfl) (hpos : 0 < s2 := by decide) (hb2 : 0 < b2 := by decide) : OpQ P o t bs (.sl ((l ++ l2).map R)) := by
  rw [List.map_append]
  exact OpQ.app_new ho hx hf hy hzl hpos hb2 (fun r hr => by rw [← List.map_append] at hr; obtain ⟨x, _, rfl⟩ := List.mem_map.1 hr; exact hR x) (by simpa using hbd)
theorem OpQ.callB {K : Nat} {args : Array Operand} {tys : Array TypeId} {xs : List A} (hc : ACalls P K xs bs fun y' b => y' = y ∧ b = bs) (ho : o.op = .call { callee := .value (.func K), args, argTypes := tys } := by rfl) [hF : FI P K] (ha : Wks (args.toList.map (evA t)) xs := by (repeat (first | exact Wks.nil | refine Wks.cons (by first | exact Wk.refl _ | exact Wk.nil | exact Wk.clip _ | exact Wk.tip _ _ _ | exact Wk.opt _ _ (by first | assumption | rfl) | exact Wk.gr _ _ | exact Wk.nil_gr | exact Wk.trans (Wk.opt _ _ (by first | assumption | rfl)) (by first | exact Wk.gr _ _ | exact Wk.nil | exact Wk.clip _ | exact Wk.tip _ _ _) | exact Wk.aggs (by repeat (first | exact Wks.nil | refine Wks.cons (by first | exact Wk.refl _ | exact Wk.nil | exact Wk.clip _ | exact Wk.tip _ _ _ | exact Wk.gr _ _ | exact Wk.nil_gr) ?_)) rfl) ?_))) : OpQ P o t bs y := fun a w hx hb K Q hK =>
  OpW.call ho hc ha a w hx hb K Q fun u w' y' bs' ⟨e1, e2⟩ => by subst e1; subst e2; exact hK u w'
theorem OpQ.callvB {K : Nat} {x : Operand} {args : Array Operand} {tys : Array TypeId} {xs x1 x2 : List A} (hc : ACalls P K xs bs fun y' b => y' = y ∧ b = bs) (ho : o.op = .call { callee := .value x, args, argTypes := tys } := by rfl) [hF : FI P K] (hx : Wk (evA t x) (.fn (.func K) x1 x2) := by exact (by first | exact Wk.refl _ | exact Wk.nil | exact Wk.clip _ | exact Wk.tip _ _ _ | exact Wk.opt _ _ (by first | assumption | rfl) | exact Wk.gr _ _ | exact Wk.nil_gr | exact Wk.trans (Wk.opt _ _ (by first | assumption | rfl)) (by first | exact Wk.gr _ _ | exact Wk.nil | exact Wk.clip _ | exact Wk.tip _ _ _) | exact Wk.aggs (by repeat (first | exact Wks.nil | refine Wks.cons (by first | exact Wk.refl _ | exact Wk.nil | exact Wk.clip _ | exact Wk.tip _ _ _ | exact Wk.gr _ _ | exact Wk.nil_gr) ?_)) rfl)) (ha : Wks (x1 ++ args.toList.map (evA t) ++ x2) xs := by (repeat (first | exact Wks.nil | refine Wks.cons (by first | exact Wk.refl _ | exact Wk.nil | exact Wk.clip _ | exact Wk.tip _ _ _ | exact Wk.opt _ _ (by first | assumption | rfl) | exact Wk.gr _ _ | exact Wk.nil_gr | exact Wk.trans (Wk.opt _ _ (by first | assumption | rfl)) (by first | exact Wk.gr _ _ | exact Wk.nil | exact Wk.clip _ | exact Wk.tip _ _ _) | exact Wk.aggs (by repeat (first | exact Wks.nil | refine Wks.cons (by first | exact Wk.refl _ | exact Wk.nil | exact Wk.clip _ | exact Wk.tip _ _ _ | exact Wk.gr _ _ | exact Wk.nil_gr) ?_)) rfl) ?_))) : OpQ P o t bs y := fun a w hx2 hb K Q hK =>
  OpW.callv ho hx hc rfl ha a w hx2 hb K Q fun u w' y' bs' ⟨e1, e2⟩ => by subst e1; subst e2; exact hK u w'
/-- Ways that meet, their two new blocks in either order. -/
def jnG2 (T' : Nat → Nat → T) (B : Nat → Nat → BS) (Q : Exit → T → BS → Prop) : Exit → T → BS → Prop
  | .normal, t, bs => ∃ g g2, Sub t (T' g g2) ∧ ∃ l, bs.Perm l ∧ List.Sublist (B g g2) l
  | e, t, bs => Q e t bs
theorem jnG2.nn {T' : Nat → Nat → T} {B : Nat → Nat → BS} (g g2 : Nat) (hs : Sub t (T' g g2)) (hb : ∃ l, bs.Perm l ∧ List.Sublist (B g g2) l) : jnG2 T' B Q .normal t bs := ⟨g, g2, hs, hb⟩
theorem AW.joinG2 {x : Code} (T' : Nat → Nat → T) (B : Nat → Nat → BS) (hx : AW P N x (jnG2 T' B Q) t bs) (hk : ∀ g g2, Q .normal (T' g g2) (B g g2)) : AW P N x Q t bs := fun w0 Z0 a w hg he =>
  wp_mono (hx w0 Z0 a w hg he) fun e a' w' hq => by
    obtain ⟨t', bs', h1, h2, h3⟩ := hq
    cases e with
    | normal =>
      obtain ⟨g, g2, hs, l, hp, hl⟩ := h1
      have hz := zones_perm hp
      obtain ⟨q1, q2⟩ := (h2.bs.perm hp).less hl
      have h4 := h2.sub hs
      exact ⟨_, _, hk g g2, ⟨h4.defers, h4.size, fun i => ((h4.tmps i).less hz).less q2, q1⟩, (h3.perm hp).less q2⟩
    | _ => exact ⟨t', bs', h1, h2, h3⟩
/-- One step on; no test, no loop, no block. -/
theorem gl {G H : Prop} (s : H → G := by
    first
    | ((with_reducible show _ → AL _ _ _ _ (⟨_, _, _, _, _, some _⟩ :: _) _ _); first | exact fun h => AL.gTf (h := h) | exact fun h => AL.gFt (h := h) | exact fun h => AL.gTt (h := h) | exact fun h => AL.gFf (h := h) | exact fun h => AL.gd (h := h))
    | ((with_reducible show _ → AL _ _ _ _ (⟨_, .store _ _ _, _, _, _, _⟩ :: _) _ _); first | exact fun h => AL.store (h := h) | exact fun h => AL.store_all (h := h) | exact fun h => AL.store_row (h := h))
    | ((with_reducible show _ → AL _ _ _ _ (⟨_, .alloc _, _, _, _, _⟩ :: _) _ _); first | exact fun h => AL.alloc (h := h))
    | ((with_reducible show _ → AL _ _ _ _ (⟨_, .box _ _, _, _, _, _⟩ :: _) _ _); first | exact fun h => AL.box (h := h))
    | ((with_reducible show _ → AL _ _ _ _ (_ :: _) _ _); first | exact fun h => AL.s (h := h) | exact fun h => AL.s0 (h := h))
    | ((with_reducible show _ → AL _ _ _ _ [] _ _); first | exact fun h => AL.nil h)) (h : H) : G := s h
theorem gc {G H : Prop} (s : H → G := by
    first
    | ((with_reducible show _ → AW _ _ (.seq _ _) _ _ _); first | exact fun h => AW.seq h)
    | ((with_reducible show _ → AW _ _ .ret _ _ _); first | exact fun h => AW.ret h)
    | ((with_reducible show _ → AW _ _ .skip _ _ _); first | exact fun h => AW.skip h)
    | ((with_reducible show _ → AW _ _ (.exit _) _ _ _); first | exact fun h => AW.exit h)
    | ((with_reducible show _ → AW _ _ (.goto _) _ _ _); first | exact fun h => AW.goto h)
    | ((with_reducible show _ → thenQ _ _ .normal _ _); first | exact fun h => thenQ.n h)
    | ((with_reducible show _ → thenQ _ _ .ret _ _); first | exact fun h => thenQ.r h)
    | ((with_reducible show _ → thenQ _ _ (.exit _) _ _); first | exact fun h => thenQ.e h)
    | ((with_reducible show _ → thenQ _ _ (.goto _) _ _); first | exact fun h => thenQ.g h)
    | ((with_reducible show _ → blockQ _ _ .normal _ _); first | exact fun h => blockQ.n h)
    | ((with_reducible show _ → blockQ _ _ .ret _ _); first | exact fun h => blockQ.r h)
    | ((with_reducible show _ → blockQ _ _ (.exit _) _ _); first | exact fun h => blockQ.e h | exact fun h => blockQ.x rfl h)
    | ((with_reducible show _ → blockQ _ _ (.goto _) _ _); first | exact fun h => blockQ.g h)
    | ((with_reducible show _ → jnQ _ _ _ _ .ret _ _); first | exact fun h => jnQ.r h)
    | ((with_reducible show _ → jnQ _ _ _ _ (.exit _) _ _); first | exact fun h => jnQ.e h)) (h : H) : G := s h
end
end Go.Proofs.Ytnkkfmnpkgjabaa.X
