/- Lifted code: what a run computes as a partial function; loops; ways that meet; rows that grow. -/
import Derived.Test.YtnkkfmnpkgjabaaTy
namespace Go.Proofs.Ytnkkfmnpkgjabaa.X
open Go.RowKit
set_option linter.unusedVariables false
set_option linter.unusedSimpArgs false

/-! ### partial functions -/
theorem bnd {α β : Type} {o : Option α} {f : α → Option β} {r : β} (h : o.bind f = some r) : ∃ a, o = some a ∧ f a = some r := by
  cases o with
  | none => cases h
  | some a => exact ⟨a, rfl, h⟩
def ensure (p : Prop) [Decidable p] : Option Unit := if p then some () else none
theorem ens {β : Type} {p : Prop} [Decidable p] {f : Unit → Option β} {r : β} (h : (ensure p).bind f = some r) : p ∧ f () = some r := by
  unfold ensure at h
  by_cases hp : p
  · rw [if_pos hp] at h; exact ⟨hp, h⟩
  · rw [if_neg hp] at h; cases h
@[simp] theorem ensure_bind {β : Type} {p : Prop} [Decidable p] (h : p) (f : Unit → Option β) : (ensure p).bind f = f () := by
  unfold ensure; rw [if_pos h]; rfl
def idxO {α : Type} (l : List α) (i : Int) : Option α := if 0 ≤ i then l[i.toNat]? else none
theorem idxO_some {α : Type} {l : List α} {i : Int} {x : α} (h : idxO l i = some x) : 0 ≤ i ∧ l[i.toNat]? = some x := by
  unfold idxO at h
  by_cases hi : 0 ≤ i
  · rw [if_pos hi] at h; exact ⟨hi, h⟩
  · rw [if_neg hi] at h; cases h
theorem idx_b {α β : Type} {l : List α} {i : Int} {f : α → Option β} {r : β} (h : (idxO l i).bind f = some r) : ∃ x, 0 ≤ i ∧ l[i.toNat]? = some x ∧ f x = some r := by
  obtain ⟨x, h1, h2⟩ := bnd h
  exact ⟨x, (idxO_some h1).1, (idxO_some h1).2, h2⟩
@[simp] theorem idxO_nat {α : Type} (l : List α) (k : Nat) : idxO l (k : Int) = l[k]? := by unfold idxO; rw [if_pos (by omega)]; simp
def grd {α : Type} [Inhabited α] (c : Bool) (o : Option α) : Option α := match c with | true => o | false => some default
theorem grd_some {α : Type} [Inhabited α] {c : Bool} {o : Option α} {x : α} (h : grd c o = some x) (hc : c = true) : o = some x := by subst hc; exact h
theorem grd_b {α β : Type} [Inhabited α] {c : Bool} {o : Option α} {f : α → Option β} {r : β} (h : (grd c o).bind f = some r) : ∃ x, (c = true → o = some x) ∧ f x = some r := by
  obtain ⟨x, h1, h2⟩ := bnd h
  exact ⟨x, grd_some h1, h2⟩
theorem cnd_t {α : Type} {c : Bool} {x y : α} {r : α} (h : c = true) (k : cond c x y = r) : x = r := by subst h; exact k
theorem cnd_f {α : Type} {c : Bool} {x y : α} {r : α} (h : c = false) (k : cond c x y = r) : y = r := by subst h; exact k
theorem some_inj {α : Type} {a b : α} (h : some a = some b) : b = a := (Option.some.inj h).symm

/-! ### loops -/
inductive LoopN {σ τ : Type} (body : σ → Option (σ ⊕ τ)) : Nat → σ → τ → Prop
  | done {s o} (h : body s = some (.inr o)) : LoopN body 0 s o
  | step {n s s' o} (h : body s = some (.inl s')) (k : LoopN body n s' o) : LoopN body (n + 1) s o
theorem LoopN.det {σ τ : Type} {body : σ → Option (σ ⊕ τ)} {n m : Nat} {s : σ} {o o' : τ} (h : LoopN body n s o) (k : LoopN body m s o') : o = o' := by
  induction h generalizing m with
  | done h =>
    cases k with
    | done h' => rw [h] at h'; injection h' with h'; injection h'
    | step h' => rw [h] at h'; cases h'
  | step h _ ih =>
    cases k with
    | done h' => rw [h] at h'; cases h'
    | step h' k' => rw [h] at h'; injection h' with h'; injection h' with h'; subst h'; exact ih k'
open Classical in
noncomputable def loopF {σ τ : Type} (body : σ → Option (σ ⊕ τ)) (s : σ) : Option τ := if h : ∃ o n, LoopN body n s o then some (Classical.choose h) else none
theorem loopF_some {σ τ : Type} {body : σ → Option (σ ⊕ τ)} {s : σ} {o : τ} (h : loopF body s = some o) : ∃ n, LoopN body n s o := by
  unfold loopF at h
  split at h
  · rename_i h1; injection h with h; subst h; exact Classical.choose_spec h1
  · cases h
theorem loopF_of {σ τ : Type} {body : σ → Option (σ ⊕ τ)} {n : Nat} {s : σ} {o : τ} (h : LoopN body n s o) : loopF body s = some o := by
  unfold loopF
  have hex : ∃ o n, LoopN body n s o := ⟨o, n, h⟩
  rw [dif_pos hex]
  obtain ⟨m, hm⟩ := Classical.choose_spec hex
  rw [hm.det h]
theorem loopF_inr {σ τ : Type} {body : σ → Option (σ ⊕ τ)} {s : σ} {o : τ} (h : body s = some (.inr o)) : loopF body s = some o := loopF_of (.done h)
theorem loopF_inl {σ τ : Type} {body : σ → Option (σ ⊕ τ)} {s s' : σ} (h : body s = some (.inl s')) : loopF body s = loopF body s' := by
  cases h2 : loopF body s' with
  | some o => obtain ⟨n, hn⟩ := loopF_some h2; exact loopF_of (.step h hn)
  | none =>
    cases h3 : loopF body s with
    | none => rfl
    | some o =>
      obtain ⟨n, hn⟩ := loopF_some h3
      cases hn with
      | done h4 => rw [h] at h4; cases h4
      | step h4 h5 => rw [h] at h4; injection h4 with h4; injection h4 with h4; subst h4; rw [loopF_of h5] at h2; cases h2
section
variable {P : Program} {N : Nat} {x : Code} {Q : Exit → T → BS → Prop} {t : T} {bs : BS}
def lpQ {σ τ α : Type} (T' : σ → α → T) (B : σ → α → BS) (p : σ → α → Prop) (v : σ ⊕ τ) (o : τ) (Q : Exit → T → BS → Prop) : Exit → T → BS → Prop
  | .normal, t, bs => ∃ s' a', v = .inl s' ∧ p s' a' ∧ Sub t (T' s' a') ∧ List.Sublist (B s' a') bs
  | e, t, bs => (∃ o', v = .inr o') ∧ (v = .inr o → Q e t bs)
theorem AW.loopF {σ τ α : Type} {body : σ → Option (σ ⊕ τ)} {s0 : σ} {o : τ} (hL : loopF body s0 = some o) (T' : σ → α → T) (B : σ → α → BS) (p : σ → α → Prop) (a0 : α) (h0 : p s0 a0) (ht : Sub t (T' s0 a0)) (hb : bs = B s0 a0)
    (round : ∀ s a v, p s a → body s = some v → AW P N x (lpQ T' B p v o Q) (T' s a) (B s a)) : AW P N (.loop x) Q t bs := by
  obtain ⟨n, hn⟩ := loopF_some hL
  refine AW.loop (fun s : σ × α × Nat => T' s.1 s.2.1) (fun s => B s.1 s.2.1) (fun s => p s.1 s.2.1 ∧ LoopN body s.2.2 s.1 o) (fun s => s.2.2) (s0, a0, n) ⟨h0, hn⟩ ht hb fun ⟨s, a, n⟩ ⟨hp, hl⟩ => ?_
  cases hl with
  | done hd =>
    refine AW.mono (round s a _ hp hd) fun e t bs hq => ?_
    cases e with
    | normal => obtain ⟨s', a', h1, _⟩ := hq; cases h1
    | _ => exact hq.2 rfl
  | @step n _ s1 _ hd hk =>
    refine AW.mono (round s a _ hp hd) fun e t bs hq => ?_
    cases e with
    | normal => obtain ⟨s', a', h1, h2, h3, h4⟩ := hq; cases h1; exact ⟨(s1, a', n), ⟨h2, hk⟩, Nat.lt_succ_self _, h3, h4⟩
    | _ => obtain ⟨_, h1⟩ := hq.1; cases h1
section
variable {σ τ α : Type} {T' : σ → α → T} {B : σ → α → BS} {p : σ → α → Prop} {v : σ ⊕ τ} {o : τ}
theorem lpQ.n (s' : σ) (a' : α) (h : v = .inl s') (hp : p s' a') (hs : Sub t (T' s' a')) (hb : List.Sublist (B s' a') bs) : lpQ T' B p v o Q .normal t bs := ⟨s', a', h, hp, hs, hb⟩
theorem lpQ.e {i : Nat} (o' : τ) (h : v = .inr o') (k : o = o' → Q (.exit i) t bs) : lpQ T' B p v o Q (.exit i) t bs := ⟨⟨o', h⟩, fun h2 => k (by rw [h] at h2; injection h2 with h2; exact h2.symm)⟩
theorem lpQ.r (o' : τ) (h : v = .inr o') (k : o = o' → Q .ret t bs) : lpQ T' B p v o Q .ret t bs := ⟨⟨o', h⟩, fun h2 => k (by rw [h] at h2; injection h2 with h2; exact h2.symm)⟩
/-- Ways that meet. -/
def jnQ (T' : σ → α → T) (B : σ → α → BS) (p : σ → α → Prop) (Q : Exit → T → BS → Prop) : Exit → T → BS → Prop
  | .normal, t, bs => ∃ s a, p s a ∧ Sub t (T' s a) ∧ List.Sublist (B s a) bs
  | e, t, bs => Q e t bs
theorem AW.join (T' : σ → α → T) (B : σ → α → BS) (p : σ → α → Prop) (hx : AW P N x (jnQ T' B p Q) t bs) (hk : ∀ s a, p s a → Q .normal (T' s a) (B s a)) : AW P N x Q t bs := fun w0 Z0 a w hg he =>
  wp_mono (hx w0 Z0 a w hg he) fun e a' w' hq => by
    obtain ⟨t', bs', h1, h2, h3⟩ := hq
    cases e with
    | normal =>
      obtain ⟨s, a2, hp, hs, hl⟩ := h1
      obtain ⟨q1, q2⟩ := h2.bs.less hl
      have h4 := h2.sub hs
      exact ⟨_, _, hk s a2 hp, ⟨h4.defers, h4.size, fun i => (h4.tmps i).less q2, q1⟩, h3.less q2⟩
    | _ => exact ⟨t', bs', h1, h2, h3⟩
theorem jnQ.n (s : σ) (a : α) (hp : p s a) (hs : Sub t (T' s a)) (hb : List.Sublist (B s a) bs) : jnQ T' B p Q .normal t bs := ⟨s, a, hp, hs, hb⟩
theorem jnQ.e {i : Nat} (h : Q (.exit i) t bs) : jnQ T' B p Q (.exit i) t bs := h
theorem jnQ.r (h : Q .ret t bs) : jnQ T' B p Q .ret t bs := h
end
/-- How long a row may be. -/
theorem AW.len_le {rows : List (List A)} (i : Nat) (hx : Wk (look t i) (.sl rows)) (h : rows.length ≤ 9223372036854775807 → AW P N x Q t bs) : AW P N x Q t bs := fun w0 Z0 a w hg he => by
  refine h ?_ w0 Z0 a w hg he
  have := (hg.tmps i).wk hx
  generalize a.tmps.getD i undef = u at this
  cases this with
  | sl hn hc hm => exact Nat.le_trans (by omega) (Nat.le_trans hm (by decide))
theorem AW.len_map {α : Type} {R : α → List A} {l : List α} (i : Nat) (hx : Wk (look t i) (.sl (l.map R))) (h : l.length ≤ 9223372036854775807 → AW P N x Q t bs) : AW P N x Q t bs := AW.len_le i hx fun hl => h (by simpa using hl)
end
theorem ACalls.wk {P : Program} {K : Nat} {args : List A} {bs : BS} {r : A} (h : ACalls P K args bs fun y b => Wk y r ∧ b = bs) : ACalls P K args bs fun y b => y = r ∧ b = bs :=
  fun w us hs hu hb => (h w us hs hu hb).mono fun e w' ⟨u, y, bs', h1, ⟨h2, h3⟩, h4, h5⟩ => ⟨u, r, bs', h1, ⟨rfl, h3⟩, h4.wk h2, h5⟩

/-! ### blocks in another order -/
theorem zones_perm {bs bs' : BS} (h : bs.Perm bs') : ∀ z' ∈ zones bs', ∃ z ∈ zones bs, z.1 = z'.1 ∧ z.2 ≤ z'.2 := fun z' hz' => by
  obtain ⟨x, hx, rfl⟩ := mem_zones.1 hz'
  exact ⟨_, mem_zones.2 ⟨x, h.symm.subset hx, rfl⟩, rfl, Nat.le_refl _⟩
theorem BsOk.perm {w : World} {bs bs' : BS} (h : BsOk w bs) (k : bs.Perm bs') : BsOk w bs' := by
  have hz := zones_perm k
  refine ⟨((k.map _).nodup_iff).1 h.nodup, fun x hx => ?_⟩
  have := h.ok x (k.symm.subset hx)
  obtain ⟨g, b⟩ := x
  cases b with
  | cells cs =>
    obtain ⟨arr, t, h1, h2, h3⟩ := this
    exact ⟨arr, t, h1, h2, fun k x hk => ⟨(h3 k x hk).1.less hz, (h3 k x hk).2⟩⟩
  | tip => exact this
  | rows => obtain ⟨arr, h1, h2, h3, h4, h5, h6⟩ := this; exact ⟨arr, h1, h2, h3, h4, h5, fun k x hk => ⟨(h6 k x hk).1.less hz, (h6 k x hk).2⟩⟩
theorem Ext.perm {w w' : World} {Z : Zones} {bs bs' : BS} (h : Ext w Z w' (zones bs)) (k : bs.Perm bs') : Ext w Z w' (zones bs') := h.less (zones_perm k)
theorem Ext.perm_l {w w' : World} {Z : Zones} {bs bs' : BS} (h : Ext w (zones bs) w' Z) (k : bs.Perm bs') : Ext w (zones bs') w' Z := by
  have hz := zones_perm k
  have hz2 := zones_perm k.symm
  have hst : ∀ {g i}, Stable (zones bs') g i → Stable (zones bs) g i := fun hs z hz1 e => by
    obtain ⟨z', h1, h2, h3⟩ := hz2 z hz1
    exact Nat.lt_of_lt_of_le (hs z' h1 (h2.trans e)) h3
  refine ⟨h.os, h.tape, h.output, h.size, fun i hi hn => h.block i hi fun z hz1 => ?_, fun g i hg hs => h.cell g i hg (hst hs), fun z' hz' => ?_⟩
  · obtain ⟨z', h1, h2, _⟩ := hz2 z hz1
    rw [← h2]; exact hn z' h1
  · rcases h.zone z' hz' with ⟨z, h1, h2, h3⟩ | h1
    · obtain ⟨z2, h4, h5, h6⟩ := hz2 z h1
      exact .inl ⟨z2, h4, h5.trans h2, Nat.le_trans h6 h3⟩
    · exact .inr h1
/-- An operation under blocks in another order. -/
theorem OpW.perm {P : Program} {o : Oper} {t : T} {bs bs1 : BS} {R R' : A → BS → Prop} (h : OpW P o t bs1 R) (k : bs.Perm bs1) (hr : ∀ y b, R y b → ∃ b', R' y b' ∧ b.Perm b') : OpW P o t bs R' := by
  intro a w hx hb K Q hK
  refine h a w (fun x hx1 => (hx x hx1).less (zones_perm k)) (hb.perm k) K Q fun u w' y b hR hu hb' he => ?_
  obtain ⟨b', h1, h2⟩ := hr y b hR
  exact hK u w' y b' h1 (hu.less (zones_perm h2)) (hb'.perm h2) ((he.perm h2).perm_l k.symm)
theorem ACalls.perm {P : Program} {K : Nat} {args : List A} {bs bs1 : BS} {R R' : A → BS → Prop} (h : ACalls P K args bs1 R) (k : bs.Perm bs1) (hr : ∀ y b, R y b → ∃ b', R' y b' ∧ b.Perm b') : ACalls P K args bs R' := by
  intro w us hs hu hb
  refine (h w us hs (fun i x hx => (hu i x hx).less (zones_perm k)) (hb.perm k)).mono fun e w' ⟨u, y, b, h1, hR, h2, h3, h4⟩ => ?_
  obtain ⟨b', h5, h6⟩ := hr y b hR
  exact ⟨u, y, b', h1, h5, h2.less (zones_perm h6), h3.perm h6, (h4.perm h6).perm_l k.symm⟩

/-! ### rows that grow from nothing -/
/-- The layer of a row that grows, among all blocks; the blocks when it has grown. -/
inductive GU : BS → Option (Nat × Nat) → Nat → Nat → TypeId → Nat → (Option (Nat × Nat) → BS) → Prop where
  | here {o n sz e n' r} : GU (gB o n sz e r) o n sz e n' (fun o' => gB o' n' sz e r)
  | cons {x r o n sz e n' B} (h : GU r o n sz e n' B) : GU (x :: r) o n sz e n' (fun o' => x :: B o')
  | gB {o2 n2 s2 e2 r o n sz e n' B} (h : GU r o n sz e n' B) : GU (gB o2 n2 s2 e2 r) o n sz e n' (fun o' => gB o2 n2 s2 e2 (B o'))
theorem GU.new {r : BS} {sz : Nat} {e : TypeId} {n' : Nat} : GU r none 0 sz e n' (fun o' => X.gB o' n' sz e r) := .here (o := .none)
theorem GU.upd {bs : BS} {g c n sz : Nat} {e : TypeId} {n' : Nat} {B : Option (Nat × Nat) → BS} (h : GU bs (some (g, c)) n sz e n' B) : ∀ g' c', BUpd bs g (.tip n c sz e) g' (.tip n' c' sz e) (B (some (g', c'))) := by
  intro g' c'
  generalize ho : some (g, c) = o at h
  induction h with
  | here => subst ho; exact .head
  | cons _ ih => exact .tail (ih ho)
  | gB _ ih => exact BUpd.gB (ih ho)
theorem GU.none {bs : BS} {n sz : Nat} {e : TypeId} {n' : Nat} {B : Option (Nat × Nat) → BS} (h : GU bs .none n sz e n' B) : B .none = bs ∧ ∀ g c, (B (some (g, c))).Perm ((g, .tip n' c sz e) :: bs) := by
  generalize ho : (Option.none : Option (Nat × Nat)) = o at h
  induction h with
  | here => subst ho; exact ⟨rfl, fun g c => .refl _⟩
  | cons _ ih =>
    obtain ⟨h1, h2⟩ := ih ho
    subst ho
    exact ⟨congrArg _ h1, fun g c => ((h2 g c).cons _).trans (.swap _ _ _)⟩
  | @gB o2 n2 s2 e2 r o n sz e n' B _ ih =>
    obtain ⟨h1, h2⟩ := ih ho
    subst ho
    cases o2 with
    | none => exact ⟨h1, h2⟩
    | some y => exact ⟨congrArg _ h1, fun g c => ((h2 g c).cons _).trans (.swap _ _ _)⟩
theorem GU.keeps {bs : BS} {o : Option (Nat × Nat)} {n n' sz : Nat} {e : TypeId} {B : Option (Nat × Nat) → BS} (h : GU bs o n sz e n' B) (q : Option (Nat × Nat)) : ∀ g cs, (g, Blk.cells cs) ∈ bs → (g, Blk.cells cs) ∈ B q := by
  induction h with
  | @here o n sz e n' r =>
    intro g cs hm
    have h2 : (g, Blk.cells cs) ∈ r := by
      cases o with
      | none => exact hm
      | some y =>
        rcases List.mem_cons.1 hm with e | hm
        · cases e
        · exact hm
    exact mem_gB h2
  | cons _ ih =>
    intro g cs hm
    rcases List.mem_cons.1 hm with e | hm
    · exact e ▸ List.mem_cons_self
    · exact List.mem_cons_of_mem _ (ih g cs hm)
  | @gB o2 n2 s2 e2 r o n sz e n' B _ ih =>
    intro g cs hm
    cases o2 with
    | none => exact ih g cs hm
    | some y =>
      rcases List.mem_cons.1 hm with e | hm
      · cases e
      · exact List.mem_cons_of_mem _ (ih g cs hm)
theorem GU.same {bs : BS} {o : Option (Nat × Nat)} {n n' sz : Nat} {e : TypeId} {B : Option (Nat × Nat) → BS} (h : GU bs o n sz e n' B) (this : n' = n) : B o = bs := by
  induction h with
  | here => subst this; rfl
  | cons _ ih => exact congrArg _ (ih this)
  | gB _ ih => exact congrArg _ (ih this)
end Go.Proofs.Ytnkkfmnpkgjabaa.X
