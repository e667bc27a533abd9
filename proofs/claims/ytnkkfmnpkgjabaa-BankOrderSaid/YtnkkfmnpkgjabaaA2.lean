/- The same logic: what the temporaries tell; one operation; a list of them; code; loops; calls. -/
import Derived.Test.YtnkkfmnpkgjabaaA1
namespace Go.Proofs.Ytnkkfmnpkgjabaa.X
open Go.RowKit
set_option linter.unusedVariables false
set_option linter.unusedSimpArgs false

abbrev T := List (Nat × A)
def look : T → Nat → A
  | [], _ => .junk
  | (j, x) :: r, i => match Nat.beq i j with
    | true => x
    | false => look r i
theorem look_cons (j : Nat) (x : A) (r : T) (i : Nat) : look ((j, x) :: r) i = if i = j then x else look r i := by
  rw [look]
  by_cases h : i = j
  · subst h; simp
  · have : Nat.beq i j = false := by
      cases hb : Nat.beq i j with
      | false => rfl
      | true => exact absurd (Nat.eq_of_beq_eq_true hb) h
    rw [this, if_neg h]
/-- What a constant tells. -/
def absC : Value → A
  | .slice none 0 0 => .nil
  | .tuple _ => .junk
  | .agg _ => .junk
  | u => .v u
def absV : Value → A
  | .agg cs => .agg (cs.toList.map absC)
  | u => absC u
def evA (t : T) : Operand → A
  | .tmp i => look t i
  | .const v => absV v
  | .func f => .fn (.func f) [] []
  | .global _ => .junk
theorem rep_absC (w : World) (Z : Zones) (u : Value) : Rep w Z u (absC u) := by
  unfold absC
  split
  · exact .nil
  · exact .junk
  · exact .junk
  · rename_i h1 h2 h3
    refine .v ?_
    cases u <;> first | rfl | exact absurd rfl (h2 _) | exact absurd rfl (h3 _)
structure Good (N : Nat) (t : T) (bs : BS) (a : Act) (w : World) : Prop where
  defers : a.defers = []
  size : a.tmps.size = N
  tmps : ∀ i, Rep w (zones bs) (a.tmps.getD i undef) (look t i)
  bs : BsOk w bs
/-- No constant of structs but of one-cell parts. -/
def okC : Operand → Bool
  | .const (.agg cs) => cs.toList.all fun u => u.oneCell'
  | _ => true
theorem rep_ev {N : Nat} {t : T} {bs : BS} {a : Act} {w : World} (h : ∀ i, Rep w (zones bs) (a.tmps.getD i undef) (look t i)) (x : Operand) (hx : okC x = true) : Rep w (zones bs) (a.eval x) (evA t x) := by
  cases x with
  | tmp i => exact h i
  | const v =>
    show Rep w (zones bs) v (absV v)
    cases v with
    | agg cs =>
      refine .agg (by simp) (fun k x hk => ?_) (fun k x hk => ?_)
      · simp only [List.getElem?_map, Array.getElem?_toList, Option.map_eq_some_iff] at hk
        obtain ⟨u, h1, rfl⟩ := hk
        rw [show cs.getD k undef = u by simp [h1]]
        exact rep_absC w _ u
      · simp only [List.getElem?_map, Array.getElem?_toList, Option.map_eq_some_iff] at hk
        obtain ⟨u, h1, rfl⟩ := hk
        rw [show cs.getD k undef = u by simp [h1]]
        have := List.all_eq_true.1 hx u (by simpa using Array.mem_of_getElem? h1)
        exact this
    | _ => exact rep_absC w _ _
  | global g => exact .junk
  | func f => exact .fn rfl rfl (by simp) (by simp)

/-- The operation is quiet: it tells y, nothing of one's own turns. -/
def OpQ (P : Program) (o : Oper) (t : T) (bs : BS) (y : A) : Prop :=
  ∀ (a : Act) (w : World), (∀ x ∈ o.op.operands, Rep w (zones bs) (a.eval x) (evA t x)) → BsOk w bs →
    ∀ (K : Act → World → Prop) (Q : Exit → Act → World → Prop), (∀ u w', Rep w' (zones bs) u y → BsOk w' bs → Ext w (zones bs) w' (zones bs) → K (a.put o.dst u) w') → o.wp P a w K Q
/-- It runs, and the world stays. -/
theorem OpQ.of_run {P : Program} {o : Oper} {t : T} {bs : BS} {y : A}
    (h : ∀ (a : Act) (w : World), (∀ x ∈ o.op.operands, Rep w (zones bs) (a.eval x) (evA t x)) → BsOk w bs → ∃ u, (execOp a.eval o).run P w = .ok (.value u) w ∧ Rep w (zones bs) u y) : OpQ P o t bs y := by
  intro a w hx hb K Q hK
  obtain ⟨u, hr, hu⟩ := h a w hx hb
  unfold Oper.wp
  rw [hr]
  exact hK u w hu hb (Ext.refl _ _)

/-- Each way out with what it tells then. -/
def QQ (N : Nat) (w0 : World) (Z0 : Zones) (Q : Exit → T → BS → Prop) (e : Exit) (a : Act) (w : World) : Prop :=
  ∃ t bs, Q e t bs ∧ Good N t bs a w ∧ Ext w0 Z0 w (zones bs)
def AL (P : Program) (N : Nat) (ops : Array Oper) (Q : Exit → T → BS → Prop) (l : List Oper) (t : T) (bs : BS) : Prop :=
  ∀ (w0 : World) (Z0 : Zones) (a : Act) (w : World), Good N t bs a w → Ext w0 Z0 w (zones bs) → wpList P ops (QQ N w0 Z0 Q) l a w
def AW (P : Program) (N : Nat) (c : Code) (Q : Exit → T → BS → Prop) (t : T) (bs : BS) : Prop :=
  ∀ (w0 : World) (Z0 : Zones) (a : Act) (w : World), Good N t bs a w → Ext w0 Z0 w (zones bs) → c.wp P (QQ N w0 Z0 Q) a w
def putA (t : T) : Option Tmp → A → T
  | some d, y => (d, y) :: t
  | none, _ => t
def okD (N : Nat) : Option Tmp → Bool
  | some d => Nat.blt d N
  | none => true
theorem getD_put {a : Act} {d : Nat} {u : Value} (i : Nat) (hd : d < a.tmps.size) : (a.put (some d) u).tmps.getD i undef = if i = d then u else a.tmps.getD i undef := by
  simp only [Act.put, Array.getD_eq_getD_getElem?, Array.getElem?_setIfInBounds]
  by_cases h : d = i
  · subst h; simp [hd]
  · rw [if_neg h, if_neg (Ne.symm h)]
theorem Good.put {N : Nat} {t : T} {bs bs' : BS} {a : Act} {w w' : World} (h : Good N t bs a w) (e : Ext w (zones bs) w' (zones bs')) (hb : BsOk w' bs') {d : Option Tmp} (hd : okD N d = true) {u : Value} {y : A} (hu : Rep w' (zones bs') u y) :
    Good N (putA t d y) bs' (a.put d u) w' := by
  cases d with
  | none => exact ⟨h.defers, h.size, fun i => (h.tmps i).ext e, hb⟩
  | some d =>
    have hlt : d < N := by simpa [okD, Nat.blt_eq] using hd
    refine ⟨h.defers, by simp [Act.put, h.size], fun i => ?_, hb⟩
    rw [getD_put i (by rw [h.size]; exact hlt)]
    show Rep w' (zones bs') _ (look ((d, y) :: t) i)
    rw [look_cons]
    by_cases hi : i = d
    · rw [if_pos hi, if_pos hi]; exact hu
    · rw [if_neg hi, if_neg hi]; exact (h.tmps i).ext e
def okOps (o : Oper) : Bool := o.op.operands.toList.all okC
theorem Good.operands {N : Nat} {t : T} {bs : BS} {a : Act} {w : World} (h : Good N t bs a w) {o : Oper} (ho : okOps o = true) : ∀ x ∈ o.op.operands, Rep w (zones bs) (a.eval x) (evA t x) :=
  fun x hx => rep_ev (N := N) h.tmps x (List.all_eq_true.1 ho x (by simpa using hx))
section
variable {P : Program} {N : Nat} {ops : Array Oper} {Q : Exit → T → BS → Prop} {rest : List Oper} {o : Oper} {t : T} {bs : BS} {y : A}
theorem AL.nil (h : Q .normal t bs) : AL P N ops Q [] t bs := fun _ _ _ _ hg he => ⟨t, bs, h, hg, he⟩
/-- A quiet operation. -/
theorem AL.q (hq : OpQ P o t bs y) (hg : o.guard = none) (hk : okOps o = true) (hd : okD N o.dst = true) (h : AL P N ops Q rest (putA t o.dst y) bs) : AL P N ops Q (o :: rest) t bs :=
  fun w0 Z0 a w hG hE => wpList_plain hg fun K hK =>
    hq a w (hG.operands hk) hG.bs K _ fun u w' hu hb he => hK _ _ (h w0 Z0 _ _ (hG.put he hb hd hu) (hE.trans he))
/-- An operation that turns what is one's own: any of these ways. -/
def OpW (P : Program) (o : Oper) (t : T) (bs : BS) (R : A → BS → Prop) : Prop :=
  ∀ (a : Act) (w : World), (∀ x ∈ o.op.operands, Rep w (zones bs) (a.eval x) (evA t x)) → BsOk w bs →
    ∀ (K : Act → World → Prop) (Q : Exit → Act → World → Prop), (∀ u w' y bs', R y bs' → Rep w' (zones bs') u y → BsOk w' bs' → Ext w (zones bs) w' (zones bs') → K (a.put o.dst u) w') → o.wp P a w K Q
theorem AL.w {R : A → BS → Prop} (hq : OpW P o t bs R) (hg : o.guard = none) (hk : okOps o = true) (hd : okD N o.dst = true) (h : ∀ y bs', R y bs' → AL P N ops Q rest (putA t o.dst y) bs') : AL P N ops Q (o :: rest) t bs :=
  fun w0 Z0 a w hG hE => wpList_plain hg fun K hK =>
    hq a w (hG.operands hk) hG.bs K _ fun u w' y bs' hR hu hb he => hK _ _ (h y bs' hR w0 Z0 _ _ (hG.put he hb hd hu) (hE.trans he))
theorem OpQ.w (h : OpQ P o t bs y) : OpW P o t bs fun y' bs' => y' = y ∧ bs' = bs :=
  fun a w hx hb K Q hK => h a w hx hb K Q fun u w' hu hb' he => hK u w' y bs ⟨rfl, rfl⟩ hu hb' he

/-! ### code -/
def thenQ (K : T → BS → Prop) (Q : Exit → T → BS → Prop) : Exit → T → BS → Prop
  | .normal, t, bs => K t bs
  | e, t, bs => Q e t bs
def blockQ (id : Nat) (Q : Exit → T → BS → Prop) : Exit → T → BS → Prop
  | .exit i, t, bs => if i = id then Q .normal t bs else Q (.exit i) t bs
  | e, t, bs => Q e t bs
variable {x z : Code}
theorem AW.mono {Q' : Exit → T → BS → Prop} (h : AW P N x Q t bs) (hq : ∀ e t bs, Q e t bs → Q' e t bs) : AW P N x Q' t bs :=
  fun w0 Z0 a w hg he => wp_mono (h w0 Z0 a w hg he) fun e a w ⟨t, bs, h1, h2⟩ => ⟨t, bs, hq _ _ _ h1, h2⟩
theorem AW.seq (h : AW P N x (thenQ (AW P N z Q) Q) t bs) : AW P N (.seq x z) Q t bs := fun w0 Z0 a w hg he =>
  wp_seq (wp_mono (h w0 Z0 a w hg he) fun e a' w' hq => by
    obtain ⟨t', bs', h1, h2, h3⟩ := hq
    cases e <;> first | exact h1 w0 Z0 a' w' h2 h3 | exact ⟨t', bs', h1, h2, h3⟩)
/-- The rest is proved once, from what is told where ways meet. -/
theorem AW.seq_k (h : ∀ K : T → BS → Prop, (∀ t bs, AW P N z Q t bs → K t bs) → AW P N x (thenQ K Q) t bs) : AW P N (.seq x z) Q t bs := AW.seq (h _ fun _ _ h => h)
theorem AW.skip (h : Q .normal t bs) : AW P N .skip Q t bs := fun w0 Z0 a w hg he => wp_skip ⟨t, bs, h, hg, he⟩
theorem AW.exit {id : Nat} (h : Q (.exit id) t bs) : AW P N (.exit id) Q t bs := fun w0 Z0 a w hg he => wp_exit ⟨t, bs, h, hg, he⟩
theorem AW.goto {id : Nat} (h : Q (.goto id) t bs) : AW P N (.goto id) Q t bs := fun w0 Z0 a w hg he => wp_goto ⟨t, bs, h, hg, he⟩
theorem AW.ret (h : Q .ret t bs) : AW P N .ret Q t bs := fun w0 Z0 a w hg he => wp_ret ⟨t, bs, h, hg, he⟩
theorem AW.block {id : Nat} (h : AW P N x (blockQ id Q) t bs) : AW P N (.block id x) Q t bs := fun w0 Z0 a w hg he =>
  wp_block (wp_mono (h w0 Z0 a w hg he) fun e a' w' hq => by
    obtain ⟨t', bs', h1, h2, h3⟩ := hq
    cases e with
    | exit i =>
      simp only [blockQ] at h1
      simp only [Exit.inBlock]
      by_cases hi : i = id
      · rw [if_pos hi] at h1 ⊢; exact ⟨t', bs', h1, h2, h3⟩
      · rw [if_neg hi] at h1 ⊢; exact ⟨t', bs', h1, h2, h3⟩
    | _ => exact ⟨t', bs', h1, h2, h3⟩)
theorem Rep.bool {w : World} {Z : Zones} {u : Value} {b : Bool} (h : Rep w Z u (.v (.bool b))) : u = .bool b := by cases h; rfl
theorem Rep.val {w : World} {Z : Zones} {u v : Value} (h : Rep w Z u (.v v)) : u = v := by cases h; rfl
theorem AW.cond {c : Operand} {b : Bool} (hc : evA t c = .v (.bool b)) (ht : b = true → AW P N x Q t bs) (hf : b = false → AW P N z Q t bs) : AW P N (.cond c x z) Q t bs := fun w0 Z0 a w hg he => by
  have hk : okC c = true := by
    cases c with
    | const v => cases v <;> first | rfl | (simp [evA, absV] at hc)
    | _ => rfl
  have h1 := rep_ev (N := N) hg.tmps c hk
  rw [hc] at h1
  exact wp_cond_split h1.bool (fun h => ht h w0 Z0 a w hg he) (fun h => hf h w0 Z0 a w hg he)
theorem AW.region {id : Nat} {l : List Oper} (h : AL P N l.toArray Q l t bs) : AW P N (.region id l.toArray false) Q t bs := fun w0 Z0 a w hg he => wp_region_lit (h w0 Z0 a w hg he)

/-! ### weakening, loops -/
/-- All that x tells is told by y, too. -/
inductive Wk : A → A → Prop where
  | refl (a : A) : Wk a a
  | junk (a : A) : Wk a .junk
  | nil : Wk .nil (.sl [])
  | clip (r : List (List A)) : Wk (.clip r) (.sl r)
  | tip (g c : Nat) (r : List (List A)) : Wk (.tip g c r) (.sl r)
  | gr (o : Option (Nat × Nat)) (r : List (List A)) : Wk (.gr o r) (.sl r)
  | nil_gr : Wk .nil (.gr none [])
  | opt (c : Bool) (a : A) (h : c = true) : Wk (.opt c a) a
  | trans {a b c : A} (h : Wk a b) (k : Wk b c) : Wk a c
  | agg (xs ys : List A) (l : xs.length = ys.length) (h : ∀ (k : Nat) (a b : A), xs[k]? = some a → ys[k]? = some b → Wk a b) (hc : ∀ y ∈ ys, y.isCell = true) : Wk (.agg xs) (.agg ys)
  | tup (xs ys : List A) (l : xs.length = ys.length) (h : ∀ (k : Nat) (a b : A), xs[k]? = some a → ys[k]? = some b → Wk a b) : Wk (.tup xs) (.tup ys)
theorem Wk.of_eq {x y : A} (h : x = y) : Wk x y := h ▸ .refl x
theorem Rep.nil_sl {w : World} {Z : Zones} : Rep w Z (.slice none 0 0) (.sl []) :=
  .sl rfl (Nat.le_refl _) (by decide) 0 0 0 (fun _ => undef) (by simp) (by simp) (by simp) (by simp) (by simp) (by simp)
theorem Rep.wk {w : World} {Z : Zones} {u : Value} {x y : A} (h : Rep w Z u x) (k : Wk x y) : Rep w Z u y := by
  induction k generalizing u with
  | refl => exact h
  | junk => exact .junk
  | nil => cases h; exact .nil_sl
  | clip => cases h; assumption
  | tip => cases h; assumption
  | gr =>
    cases h with
    | gr0 => exact .nil_sl
    | gr h => cases h; assumption
  | nil_gr => cases h; exact .gr0
  | trans _ _ ih1 ih2 => exact ih2 (ih1 h)
  | opt c a hc => cases h with | opt h1 h2 => exact h1 hc
  | agg xs ys l hk hc ih =>
    cases h with
    | agg l2 hr h1 =>
      have get : ∀ k y, ys[k]? = some y → ∃ x, xs[k]? = some x := fun k y hy => by
        have := (List.getElem?_eq_some_iff.1 hy).1
        exact ⟨_, List.getElem?_eq_getElem (by omega)⟩
      refine .agg (l2.trans l) (fun k y hy => ?_) (fun k y hy => ?_)
      · obtain ⟨x, hx⟩ := get k y hy
        exact ih k x y hx hy (hr k x hx)
      · obtain ⟨x, hx⟩ := get k y hy
        exact h1 k x hx
  | tup xs ys l hk ih =>
    cases h with
    | tup l2 hr =>
      refine .tup (l2.trans l) (fun k y hy => ?_)
      have := (List.getElem?_eq_some_iff.1 hy).1
      exact ih k _ y (List.getElem?_eq_getElem (by omega)) hy (hr k _ (List.getElem?_eq_getElem (by omega)))
/-- One list after the other. -/
inductive Wks : List A → List A → Prop where
  | nil : Wks [] []
  | cons {a b : A} {r s : List A} (h : Wk a b) (k : Wks r s) : Wks (a :: r) (b :: s)
theorem Wks.get {xs ys : List A} (h : Wks xs ys) : xs.length = ys.length ∧ ∀ (k : Nat) (a b : A), xs[k]? = some a → ys[k]? = some b → Wk a b := by
  induction h with
  | nil => exact ⟨rfl, by simp⟩
  | cons h _ ih =>
    refine ⟨by simp [ih.1], fun k a b ha hb => ?_⟩
    cases k with
    | zero => simp at ha hb; subst ha; subst hb; exact h
    | succ k => exact ih.2 k a b (by simpa using ha) (by simpa using hb)
theorem Wk.aggs {xs ys : List A} (h : Wks xs ys) (hc : ys.all A.isCell = true) : Wk (.agg xs) (.agg ys) := .agg _ _ h.get.1 h.get.2 (by simpa using hc)
theorem Wk.tups {xs ys : List A} (h : Wks xs ys) : Wk (.tup xs) (.tup ys) := .tup _ _ h.get.1 h.get.2
def Sub (t : T) : T → Prop
  | [] => True
  | (i, x) :: r => Wk (look t i) x ∧ Sub t r
theorem Sub.at_ {t t' : T} (h : Sub t t') (i : Nat) : Wk (look t i) (look t' i) := by
  induction t' with
  | nil => exact .junk _
  | cons x r ih =>
    obtain ⟨j, x⟩ := x
    rw [look_cons]
    by_cases hi : i = j
    · rw [if_pos hi]; subst hi; exact h.1
    · rw [if_neg hi]; exact ih h.2
theorem Good.sub {t' : T} {a : Act} {w : World} (h : Good N t bs a w) (k : Sub t t') : Good N t' bs a w :=
  ⟨h.defers, h.size, fun i => (h.tmps i).wk (k.at_ i), h.bs⟩
theorem AW.sub {t' : T} (k : Sub t t') (h : AW P N x Q t' bs) : AW P N x Q t bs := fun w0 Z0 a w hg he => h w0 Z0 a w (hg.sub k) he
theorem AL.sub {t' : T} {l : List Oper} (k : Sub t t') (h : AL P N ops Q l t' bs) : AL P N ops Q l t bs := fun w0 Z0 a w hg he => h w0 Z0 a w (hg.sub k) he
/-- What is not told any more: some blocks are given up. -/
theorem BsOk.less {w : World} {bs bs' : BS} (h : BsOk w bs) (k : List.Sublist bs' bs) : BsOk w bs' ∧ ∀ z' ∈ zones bs', ∃ z ∈ zones bs, z.1 = z'.1 ∧ z.2 ≤ z'.2 := by
  have hz : ∀ z' ∈ zones bs', ∃ z ∈ zones bs, z.1 = z'.1 ∧ z.2 ≤ z'.2 := fun z' hz' => by
    obtain ⟨x, hx, rfl⟩ := mem_zones.1 hz'
    exact ⟨_, mem_zones.2 ⟨x, k.subset hx, rfl⟩, rfl, Nat.le_refl _⟩
  refine ⟨⟨h.nodup.sublist (k.map _), fun x hx => ?_⟩, hz⟩
  have := h.ok x (k.subset hx)
  obtain ⟨g, b⟩ := x
  cases b with
  | cells cs =>
    obtain ⟨arr, t, h1, h2, h3⟩ := this
    exact ⟨arr, t, h1, h2, fun k x hk => ⟨(h3 k x hk).1.less hz, (h3 k x hk).2⟩⟩
  | tip => exact this
  | rows => obtain ⟨arr, h1, h2, h3, h4, h5, h6⟩ := this; exact ⟨arr, h1, h2, h3, h4, h5, fun k x hk => ⟨(h6 k x hk).1.less hz, (h6 k x hk).2⟩⟩
/-- A loop: what its slots and blocks tell at its head is a family over α. -/
theorem Ext.less {w w' : World} {Z Z' Z'' : Zones} (h : Ext w Z w' Z') (hz : ∀ z' ∈ Z'', ∃ z ∈ Z', z.1 = z'.1 ∧ z.2 ≤ z'.2) : Ext w Z w' Z'' :=
  ⟨h.os, h.tape, h.output, h.size, h.block, h.cell, fun z hz' => by
    obtain ⟨z1, h1, h2, h3⟩ := hz z hz'
    rcases h.zone z1 h1 with ⟨z2, h4, h5, h6⟩ | h4
    · exact .inl ⟨z2, h4, h5.trans h2, Nat.le_trans h6 h3⟩
    · exact .inr (h2 ▸ h4)⟩
def loopQ {α : Type} (T' : α → T) (B : α → BS) (p : α → Prop) (m : α → Nat) (s : α) (Q : Exit → T → BS → Prop) : Exit → T → BS → Prop
  | .normal, t, bs => ∃ s', p s' ∧ m s' < m s ∧ Sub t (T' s') ∧ List.Sublist (B s') bs
  | e, t, bs => Q e t bs
theorem AW.loop {α : Type} (T' : α → T) (B : α → BS) (p : α → Prop) (m : α → Nat) (s0 : α) (h0 : p s0) (ht : Sub t (T' s0)) (hb : bs = B s0)
    (round : ∀ s, p s → AW P N x (loopQ T' B p m s Q) (T' s) (B s)) : AW P N (.loop x) Q t bs := fun w0 Z0 a w hg he => by
  subst hb
  refine wp_loop_s (fun (a : Act) (w : World) (s : α) => p s ∧ Good N (T' s) (B s) a w ∧ Ext w0 Z0 w (zones (B s))) m s0 ⟨h0, hg.sub ht, he⟩ fun a w s ⟨hp, hG, hE⟩ => ?_
  refine wp_mono (round s hp w0 Z0 a w hG hE) fun e a' w' hq => ?_
  obtain ⟨t', bs', h1, h2, h3⟩ := hq
  cases e with
  | normal =>
    obtain ⟨s', hp', hm, hs, hl⟩ := h1
    obtain ⟨q1, q2⟩ := h2.bs.less hl
    have h4 := h2.sub hs
    exact ⟨s', ⟨hp', ⟨h4.defers, h4.size, fun i => (h4.tmps i).less q2, q1⟩, h3.less q2⟩, hm⟩
  | _ => exact ⟨t', bs', h1, h2, h3⟩
where
  wp_loop_s {P : Program} {c : Code} {Q : Exit → Act → World → Prop} {α : Type} (I : Act → World → α → Prop) (m : α → Nat) (s0 : α) {a : Act} {w : World} (h0 : I a w s0)
      (round : ∀ a w s, I a w s → c.wp P (Exit.then (fun a' w' => ∃ s', I a' w' s' ∧ m s' < m s) Q) a w) : (Code.loop c).wp P Q a w := by
    intro b k cs
    have key : ∀ n a w s, m s = n → I a w s →
        ∃ e a' w', Q e a' w' ∧ Arrives P (lone (b.at a (.code c :: .inLoop c :: k)) cs w) b k cs e a' w' := by
      intro n
      induction n using Nat.strongRecOn with
      | _ n ih =>
        intro a w s hn hI
        obtain ⟨e, a₁, w₁, hq, harr⟩ := round a w s hI b (.inLoop c :: k) cs
        cases e with
        | normal =>
          obtain ⟨s', hI₁, hlt⟩ := hq
          obtain ⟨e₂, a₂, w₂, hq₂, harr₂⟩ := ih (m s') (hn ▸ hlt) a₁ w₁ s' rfl hI₁
          exact ⟨e₂, a₂, w₂, hq₂, .of_steps (Steps.trans harr (.one step_inLoop)) harr₂⟩
        | exit id => exact ⟨_, a₁, w₁, hq, .pass (x := .inLoop c) rfl (fun _ _ => .inl (by simp)) harr⟩
        | goto l => exact ⟨_, a₁, w₁, hq, .pass (x := .inLoop c) rfl (fun _ _ => .inl (by simp)) harr⟩
        | ret => exact ⟨_, a₁, w₁, hq, .pass (x := .inLoop c) rfl (fun _ _ => .inl (by simp)) harr⟩
        | panic ch => exact ⟨_, a₁, w₁, hq, .pass (x := .inLoop c) rfl (fun _ _ => .inl (by simp)) harr⟩
        | outgrown => exact ⟨_, a₁, w₁, hq, .pass (x := .inLoop c) rfl (fun _ _ => .inl (by simp)) harr⟩
    obtain ⟨e, a', w', hq, harr⟩ := key _ a w s0 rfl h0
    exact ⟨e, a', w', hq, .of_steps (.one step_loop) harr⟩
end

/-! ### rows that grow from nothing -/
@[reducible] def gB (o : Option (Nat × Nat)) (n sz : Nat) (e : TypeId) (r : BS) : BS := match o with | none => r | some (g, c) => (g, .tip n c sz e) :: r
theorem mem_gB {x : Nat × Blk} {o : Option (Nat × Nat)} {n sz : Nat} {e : TypeId} {r : BS} (h : x ∈ r) : x ∈ gB o n sz e r := by
  cases o with
  | none => exact h
  | some y => exact List.mem_cons_of_mem _ h
theorem BUpd.gB {o : Option (Nat × Nat)} {n sz : Nat} {e : TypeId} {r r' : BS} {g g' : Nat} {b b' : Blk} (h : BUpd r g b g' b' r') : BUpd (X.gB o n sz e r) g b g' b' (X.gB o n sz e r') := by
  cases o with
  | none => exact h
  | some y => exact .tail h
theorem Sl.gB {o : Option (Nat × Nat)} {n sz : Nat} {e : TypeId} {s r : BS} (h : List.Sublist s r) : List.Sublist s (X.gB o n sz e r) := by
  cases o with
  | none => exact h
  | some y => exact .cons _ h
theorem Sl.gB2 {o : Option (Nat × Nat)} {n sz : Nat} {e : TypeId} {s r : BS} (h : List.Sublist s r) : List.Sublist (X.gB o n sz e s) (X.gB o n sz e r) := by
  cases o with
  | none => exact h
  | some y => exact .cons_cons _ h
/-! ### calls -/
/-- Function K, asked with what tells these, answers so, whatever is one's own then. -/
def ACalls (P : Program) (K : Nat) (args : List A) (bs : BS) (R : A → BS → Prop) : Prop :=
  ∀ (w : World) (us : Array Value), us.size = args.length → (∀ k x, args[k]? = some x → Rep w (zones bs) (us.getD k undef) x) → BsOk w bs →
    Calls P K us w fun e w' => ∃ u r bs', e = .returned u ∧ R r bs' ∧ Rep w' (zones bs') u r ∧ BsOk w' bs' ∧ Ext w (zones bs) w' (zones bs')
/-- A function that turns nothing. -/
def APure (P : Program) (K : Nat) (args : List A) (r : A) : Prop := ∀ bs, ACalls P K args bs fun y bs' => y = r ∧ bs' = bs
theorem ACalls.mono {P : Program} {K : Nat} {args : List A} {bs : BS} {R R' : A → BS → Prop} (h : ACalls P K args bs R) (hr : ∀ y b, R y b → R' y b) : ACalls P K args bs R' :=
  fun w us hs hu hb => (h w us hs hu hb).mono fun e w' ⟨u, r, bs', h1, h2, h3⟩ => ⟨u, r, bs', h1, hr _ _ h2, h3⟩
/-- What a result is: a temporary, a cell, a row of cells. -/
inductive RV (P : Program) (t : T) (bs : BS) : ResultVar → A → Prop where
  | tmp {i y} (h : look t i = y) : RV P t bs (.tmp i) y
  | cell {i ty g cs y d} (h : look t i = .ptr g 0) (hm : (g, .cells cs) ∈ bs) (hu : P.underlying ty = some d) (hd : d.isRow = false) (hc : cs = [y]) : RV P t bs (.cell i ty) y
  | row {i ty g cs d} (h : look t i = .ptr g 0) (hm : (g, .cells cs) ∈ bs) (hu : P.underlying ty = some d) (hd : d.isRow = true) (hi : (P.info? ty).map (·.size) = some cs.length) : RV P t bs (.cell i ty) (.agg cs)
/-- What the function hands back. -/
inductive RVs (P : Program) (t : T) (bs : BS) : Array ResultVar → A → Prop where
  | none : RVs P t bs #[] (.tup [])
  | one {x y} (h : RV P t bs x y) : RVs P t bs #[x] y
  | two {x1 x2 y1 y2} (h1 : RV P t bs x1 y1) (h2 : RV P t bs x2 y2) : RVs P t bs #[x1, x2] (.tup [y1, y2])
  | three {x1 x2 x3 y1 y2 y3} (h1 : RV P t bs x1 y1) (h2 : RV P t bs x2 y2) (h3 : RV P t bs x3 y3) : RVs P t bs #[x1, x2, x3] (.tup [y1, y2, y3])
def EndQ (P : Program) (res : Array ResultVar) (R : A → BS → Prop) : Exit → T → BS → Prop
  | .ret, t, bs | .normal, t, bs => ∃ r bs', RVs P t bs res r ∧ List.Sublist bs' bs ∧ R r bs'
  | _, _, _ => False
theorem Rep.ptr_inv {w : World} {Z : Zones} {u : Value} {g off : Nat} (h : Rep w Z u (.ptr g off)) : u = .pointer (some ⟨g, off, none⟩) := by cases h; rfl
theorem getD_toList {us : Array Value} {k : Nat} {v : Value} (h : us.toList[k]? = some v) : us.getD k undef = v := by
  simp only [Array.getElem?_toList] at h
  simp [h]
theorem blk_range {w : World} {Z : Zones} {g : Nat} {cs : List A} (h : BlkOk w Z g (.cells cs)) : ∃ arr : Array Value, arr.size = cs.length ∧ (∀ k, w.cell? ⟨g, k, none⟩ = arr[k]?) ∧ (∀ k, w.frozen? ⟨g, k, none⟩ = false) ∧ ∀ k x, cs[k]? = some x → Rep w Z (arr.getD k undef) x ∧ (arr.getD k undef).oneCell' = true := by
  obtain ⟨arr, t, h1, h2, h3⟩ := h
  refine ⟨arr, h2, fun k => cell_of_row w g k arr t (0, 0) h1, fun k => by simp [World.frozen?, h1], h3⟩
theorem RV.run {P : Program} {N : Nat} {t : T} {bs : BS} {x : ResultVar} {y : A} (h : RV P t bs x y) {a : Act} {w : World} (hg : Good N t bs a w) :
    ∃ u, (match x with | .tmp t => (pure (a.tmps.getD t undef) : Sem Value) | .cell p ty => do loadVar ty (← asAddr (a.tmps.getD p undef))).run P w = .ok u w ∧ Rep w (zones bs) u y := by
  cases h with
  | tmp h => exact ⟨_, rfl, h ▸ hg.tmps _⟩
  | @cell i ty g cs _ d h hm hu hd hc =>
    subst hc
    obtain ⟨arr, h1, h2, _, h3⟩ := blk_range (hg.bs.get hm)
    have hp := hg.tmps i
    rw [h] at hp
    refine ⟨arr.getD 0 undef, ?_, (h3 0 _ rfl).1⟩
    have hc0 := h2 0
    have h0 : arr[0]? = some (arr.getD 0 undef) := by
      have : 0 < arr.size := by simp [h1]
      simp [this]
    rw [h0] at hc0
    show (do loadVar ty (← asAddr (a.tmps.getD i undef)) : Sem Value).run P w = _
    rw [hp.ptr_inv]
    simp only [asAddr, Sem.run_bind, Sem.run_pure, Result.andThen_ok, loadVar, isAgg, run_underlying hu]
    cases d <;> first | (simp [Sem.run_bind, load, Sem.run, hc0]; done) | cases hd
  | @row i ty g cs d h hm hu hd hi =>
    obtain ⟨arr, h1, h2, _, h3⟩ := blk_range (hg.bs.get hm)
    have hp := hg.tmps i
    rw [h] at hp
    refine ⟨.agg arr, ?_, .agg h1 (fun k x hk => (h3 k x hk).1) (fun k x hk => (h3 k x hk).2)⟩
    show (do loadVar ty (← asAddr (a.tmps.getD i undef)) : Sem Value).run P w = _
    rw [hp.ptr_inv]
    simp only [asAddr, Sem.run_bind, Sem.run_pure, Result.andThen_ok]
    have := run_loadVar_mid (P := P) w g 0 _ arr.toList _ (fun j v hv => by rw [Nat.zero_add, h2]; simpa using hv) hu hd (by rw [hi]; simp [h1])
    simpa using this
theorem results_ext (fn : Func) (tmps : Array Value) : results fn tmps = (do
    let vs ← fn.results.mapM fun x => match x with | .tmp t => (pure (tmps.getD t undef) : Sem Value) | .cell p ty => do loadVar ty (← asAddr (tmps.getD p undef))
    pure (if h : vs.size = 1 then vs[0] else .tuple vs)) := rfl
theorem RVs.run {P : Program} {N : Nat} {t : T} {bs : BS} {fn : Func} {y : A} (h : RVs P t bs fn.results y) {a : Act} {w : World} (hg : Good N t bs a w) :
    ∃ u, (results fn a.tmps).run P w = .ok u w ∧ Rep w (zones bs) u y := by
  rw [results_ext]
  generalize fn.results = res at h
  cases h with
  | none => exact ⟨.tuple #[], by simp, .tup rfl (by simp)⟩
  | one h =>
    obtain ⟨u, h1, h2⟩ := h.run hg
    refine ⟨u, ?_, h2⟩
    simp only [List.mapM_toArray, List.mapM_cons, List.mapM_nil, Sem.run_bind, Sem.run_map, h1, Result.andThen_ok, Sem.run_pure]
    simp
  | two ha hb =>
    obtain ⟨u, h1, h2⟩ := ha.run hg
    obtain ⟨v, h3, h4⟩ := hb.run hg
    refine ⟨.tuple #[u, v], ?_, .tup rfl fun k x hk => ?_⟩
    · simp only [List.mapM_toArray, List.mapM_cons, List.mapM_nil, Sem.run_bind, Sem.run_map, h1, h3, Result.andThen_ok, Sem.run_pure]
      simp
    · match k, hk with
      | 0, hk => cases hk; exact h2
      | 1, hk => cases hk; exact h4
  | three ha hb hc =>
    obtain ⟨u, h1, h2⟩ := ha.run hg
    obtain ⟨v, h3, h4⟩ := hb.run hg
    obtain ⟨q, h5, h6⟩ := hc.run hg
    refine ⟨.tuple #[u, v, q], ?_, .tup rfl fun k x hk => ?_⟩
    · simp only [List.mapM_toArray, List.mapM_cons, List.mapM_nil, Sem.run_bind, Sem.run_map, h1, h3, h5, Result.andThen_ok, Sem.run_pure]
      simp
    · match k, hk with
      | 0, hk => cases hk; exact h2
      | 1, hk => cases hk; exact h4
      | 2, hk => cases hk; exact h6
def argsT : List A → Nat → T
  | [], _ => []
  | x :: r, k => (k, x) :: argsT r (k + 1)
theorem look_argsT : ∀ (l : List A) (k i : Nat), look (argsT l k) i = if k ≤ i then (l[i - k]?).getD .junk else .junk
  | [], k, i => by simp [argsT, look]
  | x :: r, k, i => by
    rw [argsT, look_cons, look_argsT r (k + 1) i]
    by_cases h : i = k
    · subst h; simp
    · rw [if_neg h]
      by_cases h2 : k ≤ i
      · rw [if_pos (by omega), if_pos h2, show i - k = (i - (k + 1)) + 1 by omega]; simp
      · rw [if_neg (by omega), if_neg h2]
theorem ACalls.enter {P : Program} {K : Nat} {fn : Func} {c : Code} {args : List A} {bs : BS} {R : A → BS → Prop} {N : Nat} (hf : P.funcs[K]? = some fn) (hb : fn.body = some c) (hn : fn.ntmps = N) (hl : args.length ≤ N)
    (h : AW P N c (EndQ P fn.results R) (argsT args 0) bs) : ACalls P K args bs R := by
  intro w us hs hu hbs
  refine calls_of_wp hf hb ?_
  have hG : Good N (argsT args 0) bs { tmps := us ++ Array.replicate (fn.ntmps - us.size) undef, defers := [] } w := by
    refine ⟨rfl, ?_, fun i => ?_, hbs⟩
    · show (us ++ Array.replicate (fn.ntmps - us.size) undef).size = N
      simp only [Array.size_append, Array.size_replicate]; omega
    · rw [look_argsT, if_pos (Nat.zero_le _), Nat.sub_zero]
      cases hk : args[i]? with
      | none => exact .junk
      | some x =>
        have hlt : i < us.size := by rw [hs]; exact (List.getElem?_eq_some_iff.1 hk).1
        have := hu i x hk
        have e : (us ++ Array.replicate (fn.ntmps - us.size) undef).getD i undef = us.getD i undef := by
          simp [Array.getElem?_append_left hlt]
        show Rep w (zones bs) ((us ++ Array.replicate (fn.ntmps - us.size) undef).getD i undef) _
        rw [e]; exact this
  refine wp_mono (h w (zones bs) _ w hG (Ext.refl _ _)) fun e a' w' hq => ?_
  obtain ⟨t', bs', h1, h2, h3⟩ := hq
  cases e with
  | normal =>
    obtain ⟨r, bs2, hr, hsub, hR⟩ := h1
    obtain ⟨u, hrun, hrep⟩ := hr.run h2
    obtain ⟨hb2, hz⟩ := h2.bs.less hsub
    exact ⟨h2.defers, u, hrun, u, r, bs2, rfl, hR, hrep.less hz, hb2, h3.less hz⟩
  | ret =>
    obtain ⟨r, bs2, hr, hsub, hR⟩ := h1
    obtain ⟨u, hrun, hrep⟩ := hr.run h2
    obtain ⟨hb2, hz⟩ := h2.bs.less hsub
    exact ⟨h2.defers, u, hrun, u, r, bs2, rfl, hR, hrep.less hz, hb2, h3.less hz⟩
  | exit => exact h1.elim
  | goto => exact h1.elim
  | panic => exact h1.elim
  | outgrown => exact h1.elim
end Go.Proofs.Ytnkkfmnpkgjabaa.X
