/- The same logic: a region that draws its order: what is quiet is claimed ahead, what is not comes in its own order. -/
import Derived.Test.YtnkkfmnpkgjabaaA8
namespace Go.Proofs.Ytnkkfmnpkgjabaa.X
open Go.RowKit
set_option linter.unusedVariables false
set_option linter.unusedSimpArgs false

/-- The operations that must stand ahead of one. -/
def edgesOf (ops : Array Oper) (i : Nat) : List Nat :=
  match ops[i]? with
  | some o => (o.after.toList.filter fun e => Region.binds .any e).map (·.on)
  | none => []
def depB (ops : Array Oper) : Nat → Nat → Nat → Bool
  | 0, _, _ => false
  | f + 1, i, j => (edgesOf ops i).any fun e => e == j || depB ops f e j
/-- The temporaries that one reads: its operands', its guard's. -/
def readsOf (ops : Array Oper) (o : Oper) : List Tmp := o.looksAt ops
def dstOf (ops : Array Oper) (i : Nat) : Option Tmp := (ops[i]?).bind (·.dst)
/-- Each edge goes back; no temporary is written twice. -/
def okAny (ops : Array Oper) : Bool :=
  (List.range ops.size).all fun i =>
    (edgesOf ops i).all (fun e => Nat.blt e i) &&
    (List.range ops.size).all fun j => (i == j) ||
      match dstOf ops i with
      | none => true
      | some d => dstOf ops j != some d
/-- Who reads what it writes stands behind it. -/
def strictI (ops : Array Oper) (i : Nat) : Bool :=
  (List.range ops.size).all fun j => (i == j) ||
    match dstOf ops i with
    | none => true
    | some d => match ops[j]? with | some oj => !(readsOf ops oj).contains d || (edgesOf ops j).contains i | none => true
def okSelf (ops : Array Oper) : Bool :=
  (List.range ops.size).all fun i => match ops[i]? with
    | some o => okOps o && (match o.dst with | some d => !(readsOf ops o).contains d | none => true)
    | none => true

section
variable {P : Program} {N : Nat} {ops : Array Oper} {Q : Exit → T → BS → Prop} {o : Oper} {t : T} {bs : BS} {y : A}
/-- An operation with its guard, quiet. -/
def OpS (P : Program) (N : Nat) (ops : Array Oper) (o : Oper) (t : T) (bs : BS) (y : A) : Prop :=
  ∀ (a : Act) (w : World), a.tmps.size = N → (∀ u ∈ readsOf ops o, Rep w (zones bs) (a.tmps.getD u undef) (look t u)) → BsOk w bs →
    ∀ (K : Act → World → Prop) (Q : Exit → Act → World → Prop), (∀ u w', Rep w' (zones bs) u y → BsOk w' bs → Ext w (zones bs) w' (zones bs) → K (a.put o.dst u) w') →
      if Region.wanted o (yielded ops a.tmps) then o.wp P a w K Q else K (a.put o.dst undef) w
theorem reads_op {o : Oper} {u : Tmp} (h : Operand.tmp u ∈ o.op.operands) : u ∈ readsOf ops o := by
  unfold readsOf Oper.looksAt
  refine List.mem_append_left _ (List.mem_filterMap.2 ⟨.tmp u, by simpa using h, rfl⟩)
theorem reads_rep {a : Act} {w : World} (hk : okOps o = true) (h : ∀ u ∈ readsOf ops o, Rep w (zones bs) (a.tmps.getD u undef) (look t u)) : ∀ x ∈ o.op.operands, Rep w (zones bs) (a.eval x) (evA t x) := fun x hx => by
  have hkx : okC x = true := List.all_eq_true.1 hk x (by simpa using hx)
  cases x with
  | tmp u => exact h u (reads_op hx)
  | const v => exact rep_ev (N := 0) (t := []) (a := { tmps := #[], defers := [] }) (fun i => .junk) (.const v) hkx
  | global g => exact .junk
  | func f => exact .fn rfl rfl (by simp) (by simp)
theorem OpQ.s (h : OpQ P o t bs y) (hg : o.guard = none) (hk : okOps o = true) : OpS P N ops o t bs y := fun a w hN hr hb K Q hK => by
  rw [if_pos (by simp [Region.wanted, hg])]
  exact h a w (reads_rep hk hr) hb K Q hK
theorem reads_guard {o : Oper} {j dj : Nat} {oj : Oper} {c : Bool} (hg : o.guard = some (j, c)) (hj : ops[j]? = some oj) (hd : oj.dst = some dj) : dj ∈ readsOf ops o := by
  unfold readsOf Oper.looksAt
  refine List.mem_append_right _ ?_
  simp [hg, hj, hd]
theorem OpS.guard {j dj : Nat} {oj : Oper} {want bc : Bool} (hg : o.guard = some (j, want)) (hj : ops[j]? = some oj) (hd : oj.dst = some dj) (hl : GB t dj want bc) (hlt : dj < N) (hq : bc = true → OpQ P o t bs y) (hk : okOps o = true) : OpS P N ops o t bs (.opt bc y) := fun a w hN hr hb K Q hK => by
  have hy := hl.yields hN (hr dj (reads_guard hg hj hd)) hj hd hlt
  have hw : Region.wanted o (yielded ops a.tmps) = bc := by simp only [Region.wanted, hg]; exact hy
  rw [hw]
  cases bc with
  | true =>
    rw [if_pos rfl]
    exact hq rfl a w (reads_rep hk hr) hb K Q fun u w' hu => hK u w' (.opt (fun _ => hu) (fun h => by cases h))
  | false =>
    rw [if_neg (by simp)]
    exact hK undef w (.opt (fun h => by cases h) fun _ => rfl) hb (Ext.refl _ _)
/-- What was claimed: which operation, what it tells, on which blocks that hangs (none: on all that there are). -/
structure Clm where
  i : Nat
  y : A
  need : Option (List (Nat × List A))
def needs (L : List (Nat × List A)) (bs : BS) : Prop := ∀ x ∈ L, (x.1, Blk.cells x.2) ∈ bs
def claimed (cl : List Clm) (i : Nat) : Bool := cl.any fun c => Nat.beq c.i i
inductive AD (P : Program) (N : Nat) (ops : Array Oper) (Q : Exit → T → BS → Prop) : List Clm → T → BS → Prop where
  | done {cl t bs} (h : (List.range ops.size).all (claimed cl) = true) (hq : Q .normal t bs) : AD P N ops Q cl t bs
  | free {cl t bs} (i : Nat) {o y} (hi : ops[i]? = some o) (hn : claimed cl i = false) (hx : strictI ops i = true) (hd : (edgesOf ops i).all (claimed cl) = true) (hdn : okD N o.dst = true) (L : List (Nat × List A)) (hL : needs L bs) (hq : ∀ bs, needs L bs → OpS P N ops o t bs y) (h : AD P N ops Q (⟨i, y, some L⟩ :: cl) (putA t o.dst y) bs) : AD P N ops Q cl t bs
  | q {cl t bs} (i : Nat) {o y} (hi : ops[i]? = some o) (hn : claimed cl i = false) (hx : strictI ops i = true) (hd : (edgesOf ops i).all (claimed cl) = true) (hdn : okD N o.dst = true) (hq : OpS P N ops o t bs y) (h : AD P N ops Q (⟨i, y, none⟩ :: cl) (putA t o.dst y) bs) : AD P N ops Q cl t bs
  | w {cl t bs} (i : Nat) {o R} (hi : ops[i]? = some o) (hn : claimed cl i = false) (hx : strictI ops i = true) (hd : (edgesOf ops i).all (claimed cl) = true) (hdn : okD N o.dst = true) (hg : o.guard = none) (hk : okOps o = true) (hq : OpW P o t bs R)
      (ha : (List.range ops.size).all (fun j => claimed cl j || j == i || depB ops ops.size j i) = true)
      (hv : ∀ y bs', R y bs' → ∀ c ∈ cl, c.need = none → depB ops ops.size i c.i = false → ∀ oc, ops[c.i]? = some oc → OpS P N ops oc (putA t o.dst y) bs' c.y)
      (hm : ∀ y bs', R y bs' → ∀ c ∈ cl, ∀ L, c.need = some L → depB ops ops.size i c.i = false → needs L bs')
      (h : ∀ y bs', R y bs' → AD P N ops Q (⟨i, y, some []⟩ :: cl) (putA t o.dst y) bs') : AD P N ops Q cl t bs
  | last {cl t bs} (i : Nat) {o R} (hi : ops[i]? = some o) (hn : claimed cl i = false) (hall : (List.range ops.size).all (fun j => claimed cl j || j == i) = true) (hdep : (List.range ops.size).all (fun j => j == i || depB ops ops.size i j) = true) (hdn : okD N o.dst = true) (hg : o.guard = none) (hk : okOps o = true) (hq : OpW P o t bs R)
      (h : ∀ y bs', R y bs' → Q .normal (putA t o.dst y) bs') : AD P N ops Q cl t bs
  | alt {cl t bs} (i0 : Nat) {o0} (hi0 : ops[i0]? = some o0) (hn0 : claimed cl i0 = false) (R : Nat → A → BS → Prop)
      (hr : ∀ i o, ops[i]? = some o → claimed cl i = false → (edgesOf ops i).all (claimed cl) = true → strictI ops i = true ∧ okD N o.dst = true ∧ o.guard = none ∧ okOps o = true ∧ OpW P o t bs (R i) ∧
        (∀ y bs', R i y bs' → ∀ c ∈ cl, c.need = none → depB ops ops.size i c.i = false → ∀ oc, ops[c.i]? = some oc → OpS P N ops oc (putA t o.dst y) bs' c.y) ∧
        (∀ y bs', R i y bs' → ∀ c ∈ cl, ∀ L, c.need = some L → depB ops ops.size i c.i = false → needs L bs'))
      (h : ∀ i o y bs', ops[i]? = some o → claimed cl i = false → (edgesOf ops i).all (claimed cl) = true → R i y bs' → AD P N ops Q (⟨i, y, some []⟩ :: cl) (putA t o.dst y) bs') : AD P N ops Q cl t bs
theorem edge_lt (h : okAny ops = true) {i e : Nat} (hi : i < ops.size) (he : e ∈ edgesOf ops i) : e < i := by
  have := List.all_eq_true.1 h i (by simpa using hi)
  simp only [Bool.and_eq_true] at this
  have := List.all_eq_true.1 this.1 e he
  simpa [Nat.blt_eq] using this
theorem ok_dst (h : okAny ops = true) {i j d : Nat} (hi : i < ops.size) (hj : j < ops.size) (hij : i ≠ j) (hd : dstOf ops i = some d) : dstOf ops j ≠ some d := by
  have := List.all_eq_true.1 h i (by simpa using hi)
  simp only [Bool.and_eq_true] at this
  have := List.all_eq_true.1 this.2 j (by simpa using hj)
  simpa only [Bool.or_eq_true, beq_iff_eq, hij, false_or, hd, bne_iff_ne] using this
theorem ok_rd {i j d : Nat} (h : strictI ops i = true) (hj : j < ops.size) (hij : i ≠ j) (hd : dstOf ops i = some d) : ∀ oj, ops[j]? = some oj → d ∈ readsOf ops oj → i ∈ edgesOf ops j := by
  have h2 := List.all_eq_true.1 h j (by simpa using hj)
  simp only [Bool.or_eq_true, beq_iff_eq, hij, false_or, hd] at h2
  intro oj hoj hr
  rw [hoj] at h2
  simp only [Bool.or_eq_true, Bool.not_eq_true', List.contains_iff_mem] at h2
  rcases h2 with h2 | h2
  · have hc : (readsOf ops oj).contains d = true := List.contains_iff_mem.2 hr
    rw [hc] at h2; cases h2
  · exact h2
/-- A set of operations that holds all that must stand ahead. -/
def Closed (ops : Array Oper) (S : Nat → Prop) : Prop := ∀ i, S i → ∀ e ∈ edgesOf ops i, S e
theorem depB_in {S : Nat → Prop} (hS : Closed ops S) : ∀ (f i j : Nat), (∀ e ∈ edgesOf ops i, S e) → depB ops f i j = true → S j
  | 0, _, _, _, h => by cases h
  | f + 1, i, j, hi, h => by
    simp only [depB, List.any_eq_true, Bool.or_eq_true, beq_iff_eq] at h
    obtain ⟨e, he, h | h⟩ := h
    · subst h; exact hi e he
    · exact depB_in hS f e j (fun q hq => hS e (hi e he) q hq) h
/-- How far the run has come, seen from what is claimed. -/
structure Lag (N : Nat) (P : Program) (ops : Array Oper) (t0 : T) (cl : List Clm) (t : T) (bs : BS) (listed : Array Bool) (a : Act) (w : World) : Prop where
  size : listed.size = ops.size
  defers : a.defers = []
  tsize : a.tmps.size = N
  bsok : BsOk w bs
  sub : ∀ i, listed.getD i false = true → claimed cl i = true
  closed : Closed ops fun i => listed.getD i false = true
  clm : ∀ c ∈ cl, c.i < ops.size ∧ (∀ d, dstOf ops c.i = some d → look t d = c.y)
  uniq : ∀ c ∈ cl, ∀ c' ∈ cl, c.i = c'.i → c = c'
  cldown : ∀ c ∈ cl, ∀ e ∈ edgesOf ops c.i, claimed cl e = true
  done : ∀ c ∈ cl, listed.getD c.i false = true → ∀ d, dstOf ops c.i = some d → Rep w (zones bs) (a.tmps.getD d undef) c.y
  other : ∀ u, (∀ c ∈ cl, dstOf ops c.i ≠ some u) → Rep w (zones bs) (a.tmps.getD u undef) (look t u)
  str : ∀ c ∈ cl, strictI ops c.i = true
  pend : ∀ c ∈ cl, listed.getD c.i false = false → ∀ oc, ops[c.i]? = some oc → (∀ L, c.need = some L → ∀ bs, needs L bs → OpS P N ops oc t bs c.y) ∧ OpS P N ops oc t bs c.y
  dsts : ∀ i, i < ops.size → ∀ d, dstOf ops i = some d → d < N ∨ claimed cl i = false
theorem claimed_iff {cl : List Clm} {i : Nat} : claimed cl i = true ↔ ∃ c ∈ cl, c.i = i := by
  unfold claimed
  rw [List.any_eq_true]
  exact ⟨fun ⟨c, h1, h2⟩ => ⟨c, h1, Nat.eq_of_beq_eq_true h2⟩, fun ⟨c, h1, h2⟩ => ⟨c, h1, by subst h2; exact Nat.beq_refl _⟩⟩
/-- What one reads is there, once all that must stand ahead is listed. -/
theorem Lag.reads {t0 : T} {cl : List Clm} {listed : Array Bool} {a : Act} {w : World} (h : Lag N P ops t0 cl t bs listed a w) (hA : okAny ops = true) (hS : okSelf ops = true) {i : Nat} (hi : ops[i]? = some o) (he : ∀ e ∈ edgesOf ops i, listed.getD e false = true) :
    ∀ u ∈ readsOf ops o, Rep w (zones bs) (a.tmps.getD u undef) (look t u) := fun u hu => by
  have hlt : i < ops.size := (Array.getElem?_eq_some_iff.1 hi).1
  by_cases hex : ∃ c ∈ cl, dstOf ops c.i = some u
  · obtain ⟨c, hc, hd⟩ := hex
    have hne : c.i ≠ i := fun e => by
      have := List.all_eq_true.1 hS i (by simpa using hlt)
      rw [hi] at this
      have hd' : o.dst = some u := by rw [e] at hd; simpa [dstOf, hi] using hd
      simp only [hd', Bool.and_eq_true, Bool.not_eq_true'] at this
      have hc : (readsOf ops o).contains u = true := List.contains_iff_mem.2 hu
      rw [hc] at this; cases this.2
    have hedge := ok_rd (h.str c hc) hlt hne hd o hi hu
    have hl := he c.i hedge
    have := h.done c hc hl u hd
    rw [(h.clm c hc).2 u hd]; exact this
  · exact h.other u fun c hc hd => hex ⟨c, hc, hd⟩
theorem getD_set {listed : Array Bool} {i j : Nat} (hi : i < listed.size) : (listed.setIfInBounds i true).getD j false = if j = i then true else listed.getD j false := by
  simp only [Array.getD_eq_getD_getElem?, Array.getElem?_setIfInBounds]
  by_cases h : i = j
  · subst h; simp [hi]
  · rw [if_neg h, if_neg (Ne.symm h)]
/-- What stays told when a temporary is written that it does not read. -/
theorem OpS.frame {d : Option Tmp} {v : A} (h : OpS P N ops o t bs y) (hd : ∀ u, d = some u → u ∉ readsOf ops o) : OpS P N ops o (putA t d v) bs y := fun a w hN hr hb K Q hK => by
  refine h a w hN (fun u hu => ?_) hb K Q hK
  have := hr u hu
  cases d with
  | none => exact this
  | some d =>
    have hne : u ≠ d := fun e => hd d rfl (e ▸ hu)
    show Rep w (zones bs) _ (look t u)
    rw [show look (putA t (some d) v) u = look t u by show look ((d, v) :: t) u = _; rw [look_cons, if_neg hne]] at this
    exact this
theorem mem_ready_iff {listed : Array Bool} {j : Nat} (hs : listed.size = ops.size) : j ∈ Region.ready .any ops listed ↔ j < ops.size ∧ listed.getD j false = false ∧ ∀ e ∈ edgesOf ops j, listed.getD e false = true := by
  unfold Region.ready
  rw [List.mem_filter, List.mem_range]
  constructor
  · rintro ⟨h1, h2⟩
    have hj : ops[j]? = some ops[j] := Array.getElem?_eq_getElem h1
    simp only [Bool.and_eq_true, Bool.not_eq_true', hj, Option.map_some, Option.getD_some, Array.all_eq_true_iff_forall_mem] at h2
    refine ⟨h1, ?_, fun e he => ?_⟩
    · have h3 : j < listed.size := by omega
      have := h2.1
      simp only [Array.getD_eq_getD_getElem?, Array.getElem?_eq_getElem h3, Option.getD_some] at this ⊢
      exact this
    · simp only [edgesOf, hj, List.mem_map, List.mem_filter] at he
      obtain ⟨q, ⟨hq, hb⟩, rfl⟩ := he
      have := h2.2 q (by simpa using hq)
      simpa [hb] using this
  · rintro ⟨h1, h2, h3⟩
    have hj : ops[j]? = some ops[j] := Array.getElem?_eq_getElem h1
    refine ⟨h1, ?_⟩
    simp only [Bool.and_eq_true, Bool.not_eq_true', hj, Option.map_some, Option.getD_some, Array.all_eq_true_iff_forall_mem]
    refine ⟨?_, fun q hq => ?_⟩
    · have h4 : j < listed.size := by omega
      simp only [Array.getD_eq_getD_getElem?, Array.getElem?_eq_getElem h4, Option.getD_some] at h2 ⊢
      exact h2
    · by_cases hb : Region.binds .any q = true
      · have := h3 q.on (by simp only [edgesOf, hj, List.mem_map, List.mem_filter]; exact ⟨q, ⟨by simpa using hq, hb⟩, rfl⟩)
        simp [this]
      · simp [hb]
/-- Nothing is ready: all is listed. -/
theorem all_listed (hA : okAny ops = true) {listed : Array Bool} (hs : listed.size = ops.size) (hr : Region.ready .any ops listed = []) : ∀ i, i < ops.size → listed.getD i false = true := by
  intro i
  induction i using Nat.strongRecOn with
  | _ i ih =>
    intro hi
    cases hl : listed.getD i false with
    | true => rfl
    | false =>
      have : i ∈ Region.ready .any ops listed := (mem_ready_iff hs).2 ⟨hi, hl, fun e he => ih e (edge_lt hA hi he) (Nat.lt_trans (edge_lt hA hi he) hi)⟩
      rw [hr] at this; cases this
def unl (listed : Array Bool) : Nat := listed.toList.countP (· == false)
theorem unl_set {listed : Array Bool} {i : Nat} (hi : i < listed.size) (h : listed.getD i false = false) : unl (listed.setIfInBounds i true) + 1 = unl listed := by
  unfold unl
  have hg : listed.toList[i]? = some false := by
    simp only [Array.getElem?_toList]
    simp only [Array.getD_eq_getD_getElem?, Array.getElem?_eq_getElem hi, Option.getD_some] at h
    rw [Array.getElem?_eq_getElem hi, h]
  rw [Array.toList_setIfInBounds]
  generalize listed.toList = l at hg
  clear h hi listed
  induction l generalizing i with
  | nil => simp at hg
  | cons b r ih =>
    cases i with
    | zero => simp at hg; subst hg; simp
    | succ i =>
      rw [List.set_cons_succ, List.countP_cons, List.countP_cons]
      have := ih (i := i) (by simpa using hg)
      omega
theorem AD.sound (hA : okAny ops = true) (hS : okSelf ops = true) (w0 : World) (Z0 : Zones) (t0 : T) : ∀ (fuel : Nat) (cl : List Clm) (t : T) (bs : BS) (listed : Array Bool) (a : Act) (w : World),
    AD P N ops Q cl t bs → unl listed ≤ fuel → Lag N P ops t0 cl t bs listed a w → Ext w0 Z0 w (zones bs) → wpAny P .any ops (QQ N w0 Z0 Q) fuel listed a w := by
  have hend : ∀ (cl : List Clm) (t : T) (bs : BS) (listed : Array Bool) (a : Act) (w : World), AD P N ops Q cl t bs → Lag N P ops t0 cl t bs listed a w → Ext w0 Z0 w (zones bs) → Region.ready .any ops listed = [] → QQ N w0 Z0 Q .normal a w := by
    intro cl t bs listed a w hD hL hE hr
    have hall := all_listed hA hL.size hr
    cases hD with
    | done h hq =>
      refine ⟨t, bs, hq, ⟨hL.defers, hL.tsize, fun u => ?_, hL.bsok⟩, hE⟩
      by_cases hex : ∃ c ∈ cl, dstOf ops c.i = some u
      · obtain ⟨c, hc, hd⟩ := hex
        rw [(hL.clm c hc).2 u hd]
        exact hL.done c hc (hall _ (hL.clm c hc).1) u hd
      · exact hL.other u fun c hc hd => hex ⟨c, hc, hd⟩
    | free i hi hn => rw [hL.sub i (hall i (Array.getElem?_eq_some_iff.1 hi).1)] at hn; cases hn
    | q i hi hn => rw [hL.sub i (hall i (Array.getElem?_eq_some_iff.1 hi).1)] at hn; cases hn
    | w i hi hn => rw [hL.sub i (hall i (Array.getElem?_eq_some_iff.1 hi).1)] at hn; cases hn
    | last i hi hn => rw [hL.sub i (hall i (Array.getElem?_eq_some_iff.1 hi).1)] at hn; cases hn
    | alt i hi hn => rw [hL.sub i (hall i (Array.getElem?_eq_some_iff.1 hi).1)] at hn; cases hn
  intro fuel
  induction fuel with
  | zero =>
    intro cl t bs listed a w hD hu hL hE
    have hr : Region.ready .any ops listed = [] := by
      apply List.eq_nil_iff_forall_not_mem.2
      intro i hi
      obtain ⟨h1, h2, _⟩ := (mem_ready_iff hL.size).1 hi
      have := unl_set (i := i) (by rw [hL.size]; exact h1) h2
      omega
    exact ⟨hr, hend cl t bs listed a w hD hL hE hr⟩
  | succ fuel ih =>
    intro cl t bs listed a w hD hu hL hE
    refine ⟨hend cl t bs listed a w hD hL hE, fun i hi => ?_⟩
    obtain ⟨h1, h2, h3⟩ := (mem_ready_iff hL.size).1 hi
    have hu' : unl (listed.setIfInBounds i true) ≤ fuel := by
      have := unl_set (i := i) (by rw [hL.size]; exact h1) h2
      omega
    obtain ⟨oi, hoi⟩ : ∃ oi, ops[i]? = some oi := ⟨_, Array.getElem?_eq_getElem h1⟩
    have hli : i < listed.size := by rw [hL.size]; exact h1
    unfold wpOp
    rw [hoi]
    simp only
    -- one that is claimed
    have pending : ∀ (cl : List Clm) (t : T), AD P N ops Q cl t bs → Lag N P ops t0 cl t bs listed a w → claimed cl i = true → (if Region.wanted oi (yielded ops a.tmps) = true then oi.wp P a w (wpAny P .any ops (QQ N w0 Z0 Q) fuel (listed.setIfInBounds i true)) (QQ N w0 Z0 Q) ∨ oi.asks P a w ∧ LetsOut (QQ N w0 Z0 Q) else wpAny P .any ops (QQ N w0 Z0 Q) fuel (listed.setIfInBounds i true) (a.put oi.dst undef) w) := by
      intro cl t hD hL hcl
      obtain ⟨c, hc, e⟩ := claimed_iff.1 hcl
      clear hcl
      subst e
      have hp := (hL.pend c hc h2 oi hoi).2
      have hstep := hp a w hL.tsize (hL.reads hA hS hoi h3) hL.bsok (wpAny P .any ops (QQ N w0 Z0 Q) fuel (listed.setIfInBounds c.i true)) (QQ N w0 Z0 Q) fun u w' hu2 hb' he' => by
        refine ih cl t bs _ _ _ hD hu' ?_ (hE.trans he')
        have hdi : dstOf ops c.i = oi.dst := by simp [dstOf, hoi]
        have hget : ∀ q, (∀ d, oi.dst = some d → q ≠ d) → (a.put oi.dst u).tmps.getD q undef = a.tmps.getD q undef := fun q hq => by
          cases hdd : oi.dst with
          | none => rfl
          | some d =>
            simp only [Act.put, Array.getD_eq_getD_getElem?, Array.getElem?_setIfInBounds]
            rw [if_neg (fun e => hq d hdd e.symm)]
        refine ⟨by simp [hL.size], by cases hdd : oi.dst <;> exact hL.defers, by cases hdd : oi.dst <;> simp [Act.put, hL.tsize], hb', fun j hj => ?_, fun j hj e he => ?_, hL.clm, hL.uniq, hL.cldown, fun c2 hc2 hl2 d hd => ?_, fun q hq => ?_, hL.str, fun c2 hc2 hl2 => ?_, hL.dsts⟩
        · rw [getD_set hli] at hj
          split at hj
          · rename_i e; subst e; exact claimed_iff.2 ⟨c, hc, rfl⟩
          · exact hL.sub j hj
        · dsimp only at hj ⊢
          rw [getD_set hli] at hj ⊢
          by_cases e1 : e = c.i
          · rw [if_pos e1]
          · rw [if_neg e1]
            by_cases e2 : j = c.i
            · subst e2; exact h3 e he
            · rw [if_neg e2] at hj; exact hL.closed j hj e he
        · by_cases e : c2.i = c.i
          · have := hL.uniq c2 hc2 c hc e
            subst this
            have hdo : oi.dst = some d := by rw [← hdi]; exact hd
            have hdN : d < N := by
              rcases hL.dsts c2.i h1 d hd with h | h
              · exact h
              · rw [claimed_iff.2 ⟨c2, hc2, rfl⟩] at h; cases h
            rw [hdo, getD_put d (by rw [hL.tsize]; exact hdN), if_pos rfl]
            exact hu2
          · rw [getD_set hli, if_neg e] at hl2
            have hne : ∀ d', oi.dst = some d' → d ≠ d' := fun d' hd' ee => by
              subst ee
              exact ok_dst hA (hL.clm c2 hc2).1 h1 e hd (hdi.trans hd')
            rw [hget d hne]
            exact (hL.done c2 hc2 hl2 d hd).ext he'
        · rw [hget q fun d hd e => hq c hc (by rw [hdi, hd, e])]
          exact (hL.other q hq).ext he'
        · rw [getD_set hli] at hl2
          split at hl2
          · cases hl2
          · exact hL.pend c2 hc2 hl2
      split
      · rename_i hw; rw [if_pos hw] at hstep; exact .inl hstep
      · rename_i hw; rw [if_neg hw] at hstep; exact hstep
    have loud : ∀ (cl : List Clm) (t : T) (R : A → BS → Prop), Lag N P ops t0 cl t bs listed a w → claimed cl i = false → strictI ops i = true → (edgesOf ops i).all (claimed cl) = true → okD N oi.dst = true → oi.guard = none → okOps oi = true → OpW P oi t bs R →
        (∀ y bs', R y bs' → ∀ c ∈ cl, c.need = none → depB ops ops.size i c.i = false → ∀ oc, ops[c.i]? = some oc → OpS P N ops oc (putA t oi.dst y) bs' c.y) → (∀ y bs', R y bs' → ∀ c ∈ cl, ∀ L, c.need = some L → depB ops ops.size i c.i = false → needs L bs') →
        (∀ y bs', R y bs' → AD P N ops Q (⟨i, y, some []⟩ :: cl) (putA t oi.dst y) bs') → (if Region.wanted oi (yielded ops a.tmps) = true then oi.wp P a w (wpAny P .any ops (QQ N w0 Z0 Q) fuel (listed.setIfInBounds i true)) (QQ N w0 Z0 Q) ∨ oi.asks P a w ∧ LetsOut (QQ N w0 Z0 Q) else wpAny P .any ops (QQ N w0 Z0 Q) fuel (listed.setIfInBounds i true) (a.put oi.dst undef) w) := by
      intro cl t R hL hn hx hdep hdn hg hk hq hv hm h
      rw [if_pos (by simp [Region.wanted, hg])]
      refine .inl (hq a w (reads_rep hk (hL.reads hA hS hoi h3)) hL.bsok _ _ fun u w' y bs' hR hu2 hb' he' => ?_)
      refine ih (⟨i, y, some []⟩ :: cl) (putA t oi.dst y) bs' _ _ _ (h y bs' hR) hu' ?_ (hE.trans he')
      have hdi : dstOf ops i = oi.dst := by simp [dstOf, hoi]
      have hcn : ∀ c ∈ cl, c.i ≠ i := fun c hc e => by rw [claimed_iff.2 ⟨c, hc, e⟩] at hn; cases hn
      have hget : ∀ q, (∀ d, oi.dst = some d → q ≠ d) → (a.put oi.dst u).tmps.getD q undef = a.tmps.getD q undef := fun q hq => by
        cases hdd : oi.dst with
        | none => rfl
        | some d =>
          simp only [Act.put, Array.getD_eq_getD_getElem?, Array.getElem?_setIfInBounds]
          rw [if_neg (fun e => hq d hdd e.symm)]
      have hlk : ∀ q, (∀ d, oi.dst = some d → q ≠ d) → look (putA t oi.dst y) q = look t q := fun q hq => by
        cases hdd : oi.dst with
        | none => rfl
        | some d => show look ((d, y) :: t) q = _; rw [look_cons, if_neg (hq d hdd)]
      have hdN : ∀ d, oi.dst = some d → d < N := fun d hd => by rw [hd] at hdn; simpa [okD, Nat.blt_eq] using hdn
      have hne : ∀ c ∈ cl, ∀ d, dstOf ops c.i = some d → ∀ d', oi.dst = some d' → d ≠ d' := fun c hc d hd d' hd' ee => by
        subst ee
        exact ok_dst hA (hL.clm c hc).1 h1 (hcn c hc) hd (hdi.trans hd')
      refine ⟨by simp [hL.size], by cases hdd : oi.dst <;> exact hL.defers, by cases hdd : oi.dst <;> simp [Act.put, hL.tsize], hb', fun q hq => ?_, fun q hq e he => ?_, fun c hc => ?_, fun c hc c' hc' e => ?_, fun c hc e he => ?_, fun c hc hl d hd => ?_, fun q hq => ?_, fun c hc => ?_, fun c hc hl oc hoc => ?_, fun q hq d hd => ?_⟩
      · rw [getD_set hli] at hq
        split at hq
        · rename_i e; subst e; exact claimed_iff.2 ⟨⟨_, y, some []⟩, List.mem_cons_self, rfl⟩
        · obtain ⟨c, hc, e⟩ := claimed_iff.1 (hL.sub q hq)
          exact claimed_iff.2 ⟨c, by simp [hc], e⟩
      · dsimp only at hq ⊢
        rw [getD_set hli] at hq ⊢
        by_cases e1 : e = i
        · rw [if_pos e1]
        · rw [if_neg e1]
          by_cases e2 : q = i
          · subst e2; exact h3 e he
          · rw [if_neg e2] at hq; exact hL.closed q hq e he
      · rcases List.mem_cons.1 hc with rfl | hc
        · refine ⟨h1, fun d hd => ?_⟩
          have hdo : oi.dst = some d := by rw [← hdi]; exact hd
          rw [hdo]; show look ((d, y) :: t) d = y; rw [look_cons, if_pos rfl]
        · exact ⟨(hL.clm c hc).1, fun d hd => by rw [hlk d (hne c hc d hd)]; exact (hL.clm c hc).2 d hd⟩
      · rcases List.mem_cons.1 hc with rfl | hc
        · rcases List.mem_cons.1 hc' with rfl | hc'
          · rfl
          · exact absurd e.symm (hcn c' hc')
        · rcases List.mem_cons.1 hc' with rfl | hc'
          · exact absurd e (hcn c hc)
          · exact hL.uniq c hc c' hc' e
      · have key : claimed cl e = true := by
          rcases List.mem_cons.1 hc with rfl | hc
          · exact List.all_eq_true.1 hdep e he
          · exact hL.cldown c hc e he
        obtain ⟨c2, hc2, e2⟩ := claimed_iff.1 key
        exact claimed_iff.2 ⟨c2, by simp [hc2], e2⟩
      · rcases List.mem_cons.1 hc with rfl | hc
        · have hdo : oi.dst = some d := by rw [← hdi]; exact hd
          rw [hdo, getD_put d (by rw [hL.tsize]; exact hdN d hdo), if_pos rfl]
          exact hu2
        · rw [getD_set hli, if_neg (hcn c hc)] at hl
          rw [hget d (hne c hc d hd)]
          exact (hL.done c hc hl d hd).ext he'
      · have hqi : ∀ d, oi.dst = some d → q ≠ d := fun d hd e => hq ⟨i, y, some []⟩ List.mem_cons_self (by show dstOf ops i = _; rw [hdi, hd, e])
        rw [hget q hqi, hlk q hqi]
        exact (hL.other q fun c hc => hq c (by simp [hc])).ext he'
      · rcases List.mem_cons.1 hc with rfl | hc
        · exact hx
        · exact hL.str c hc
      · rcases List.mem_cons.1 hc with rfl | hc
        · rw [getD_set hli, if_pos rfl] at hl; cases hl
        · rw [getD_set hli, if_neg (hcn c hc)] at hl
          have hp := hL.pend c hc hl oc hoc
          have hnr : ∀ d, oi.dst = some d → d ∉ readsOf ops oc := fun d hd hr => by
            have hedge := ok_rd hx (hL.clm c hc).1 (Ne.symm (hcn c hc)) (hdi.trans hd) oc hoc hr
            rw [hL.cldown c hc i hedge] at hn; cases hn
          have hfree : ∀ L, c.need = some L → ∀ bs, needs L bs → OpS P N ops oc (putA t oi.dst y) bs c.y := fun L hf bs hnb => (hp.1 L hf bs hnb).frame hnr
          refine ⟨hfree, ?_⟩
          have hdf : depB ops ops.size i c.i = false := by
            cases hb : depB ops ops.size i c.i with
            | false => rfl
            | true =>
              have := depB_in (S := fun i => listed.getD i false = true) hL.closed _ i c.i h3 hb
              rw [hl] at this; cases this
          cases hcn2 : c.need with
          | some L => exact hfree L hcn2 bs' (hm y bs' hR c hc L hcn2 hdf)
          | none => exact hv y bs' hR c hc hcn2 hdf oc hoc
      · by_cases e : q = i
        · subst e
          exact .inl (hdN d (by rw [← hdi]; exact hd))
        · rcases hL.dsts q hq d hd with h | h
          · exact .inl h
          · refine .inr ?_
            cases hcl : claimed (⟨i, y, some []⟩ :: cl) q with
            | false => rfl
            | true =>
              obtain ⟨c, hc, e'⟩ := claimed_iff.1 hcl
              rcases List.mem_cons.1 hc with rfl | hc
              · exact absurd e'.symm e
              · rw [claimed_iff.2 ⟨c, hc, e'⟩] at h; cases h
    -- the claims go on until this one is among them, or its turn has come
    clear hu hend
    induction hD with
    | @done cl t bs h hq => exact pending cl t (.done h hq) hL (List.all_eq_true.1 h i (by simpa using h1))
    | @free cl t bs j oj y hj hn hx hd hdn L hN hq h ihD =>
      by_cases hc : claimed cl i = true
      · exact pending cl t (.free j hj hn hx hd hdn L hN hq h) hL hc
      · exact ihD (advance hA hS hL hj hn hx hd hdn (fun L' e => by cases e; exact hq) (hq bs hN)) hE pending loud
    | @q cl t bs j oj y hj hn hx hd hdn hq h ihD =>
      by_cases hc : claimed cl i = true
      · exact pending cl t (.q j hj hn hx hd hdn hq h) hL hc
      · exact ihD (advance hA hS hL hj hn hx hd hdn (fun _ h => by cases h) hq) hE pending loud
    | @w cl t bs j oj R hj hn hx hdep hdn hg hk hq ha hv hm h ihD =>
      by_cases hc : claimed cl i = true
      · exact pending cl t (.w j hj hn hx hdep hdn hg hk hq ha hv hm h) hL hc
      · have hji : i = j := by
          have := List.all_eq_true.1 ha i (by simpa using h1)
          simp only [Bool.or_eq_true, hc, beq_iff_eq, false_or, Bool.false_eq_true] at this
          rcases this with h4 | h4
          · exact h4
          · have := depB_in (S := fun i => listed.getD i false = true) hL.closed _ i j h3 h4
            rw [hL.sub j this] at hn; cases hn
        subst hji
        rw [hoi] at hj
        injection hj with hj
        subst hj
        exact loud cl t R hL hn hx hdep hdn hg hk hq hv hm h
    | @alt cl t bs j oj hj hn R hr h ihD =>
      by_cases hc : claimed cl i = true
      · exact pending cl t (.alt j hj hn R hr h) hL hc
      · have hc' : claimed cl i = false := by simpa using hc
        have hed : (edgesOf ops i).all (claimed cl) = true := List.all_eq_true.2 fun e he => hL.sub e (h3 e he)
        obtain ⟨k1, k2, k3, k4, k5, k6, k7⟩ := hr i oi hoi hc' hed
        exact loud cl t (R i) hL hc' k1 hed k2 k3 k4 k5 k6 k7 fun y bs' hR => h i oi y bs' hoi hc' hed hR
    | @last cl t bs j oj R hj hn hall hdep hdn hg hk hq h =>
      by_cases hc : claimed cl i = true
      · exact pending cl t (.last j hj hn hall hdep hdn hg hk hq h) hL hc
      · have hji : i = j := by
          have := List.all_eq_true.1 hall i (by simpa using h1)
          simpa only [Bool.or_eq_true, hc, beq_iff_eq, false_or, Bool.false_eq_true] using this
        subst hji
        rw [hoi] at hj
        injection hj with hj
        subst hj
        rw [if_pos (by simp [Region.wanted, hg])]
        refine .inl (hq a w (reads_rep hk (hL.reads hA hS hoi h3)) hL.bsok _ _ fun u w' y bs' hR hu2 hb' he' => ?_)
        have hl2 : ∀ q, q < ops.size → (listed.setIfInBounds i true).getD q false = true := fun q hq2 => by
          rw [getD_set hli]
          by_cases e : q = i
          · rw [if_pos e]
          · rw [if_neg e]
            have := List.all_eq_true.1 hdep q (by simpa using hq2)
            simp only [Bool.or_eq_true, beq_iff_eq, e, false_or] at this
            exact depB_in (S := fun i => listed.getD i false = true) hL.closed _ i q h3 this
        have hrd : Region.ready .any ops (listed.setIfInBounds i true) = [] := by
          apply List.eq_nil_iff_forall_not_mem.2
          intro q hq2
          obtain ⟨k1, k2, _⟩ := (mem_ready_iff (by simp [hL.size])).1 hq2
          rw [hl2 q k1] at k2; cases k2
        have hdi : dstOf ops i = oi.dst := by simp [dstOf, hoi]
        have hdN : ∀ d, oi.dst = some d → d < N := fun d hd => by rw [hd] at hdn; simpa [okD, Nat.blt_eq] using hdn
        have hfin : QQ N w0 Z0 Q .normal (a.put oi.dst u) w' := by
          refine ⟨putA t oi.dst y, bs', h y bs' hR, ⟨by cases hdd : oi.dst <;> exact hL.defers, by cases hdd : oi.dst <;> simp [Act.put, hL.tsize], fun q => ?_, hb'⟩, hE.trans he'⟩
          by_cases hqd : oi.dst = some q
          · rw [hqd, getD_put q (by rw [hL.tsize]; exact hdN q hqd), if_pos rfl]
            show Rep w' (zones bs') u (look ((q, y) :: t) q)
            rw [look_cons, if_pos rfl]; exact hu2
          · have hget : (a.put oi.dst u).tmps.getD q undef = a.tmps.getD q undef := by
              cases hdd : oi.dst with
              | none => rfl
              | some d =>
                simp only [Act.put, Array.getD_eq_getD_getElem?, Array.getElem?_setIfInBounds]
                rw [if_neg (fun e => hqd (by rw [hdd, e]))]
            have hlk : look (putA t oi.dst y) q = look t q := by
              cases hdd : oi.dst with
              | none => rfl
              | some d => show look ((d, y) :: t) q = _; rw [look_cons, if_neg (fun e => hqd (by rw [hdd, e]))]
            rw [hget, hlk]
            by_cases hex : ∃ c ∈ cl, dstOf ops c.i = some q
            · obtain ⟨c, hc2, hd⟩ := hex
              rw [(hL.clm c hc2).2 q hd]
              have hci : c.i ≠ i := fun e => hc (claimed_iff.2 ⟨c, hc2, e⟩)
              have := hl2 c.i (hL.clm c hc2).1
              rw [getD_set hli, if_neg hci] at this
              exact (hL.done c hc2 this q hd).ext he'
            · exact (hL.other q fun c hc2 hd => hex ⟨c, hc2, hd⟩).ext he'
        cases fuel with
        | zero => exact ⟨hrd, hfin⟩
        | succ fuel => exact ⟨fun _ => hfin, fun q hq2 => by rw [hrd] at hq2; cases hq2⟩
where
  advance {t0 : T} {cl : List Clm} {listed : Array Bool} {a : Act} {w : World} {bs : BS} {t : T} {j : Nat} {oj : Oper} {y : A} {f : Option (List (Nat × List A))} (hA : okAny ops = true) (hS : okSelf ops = true) (hL : Lag N P ops t0 cl t bs listed a w) (hj : ops[j]? = some oj) (hn : claimed cl j = false) (hx : strictI ops j = true) (hdep : (edgesOf ops j).all (claimed cl) = true) (hdn : okD N oj.dst = true)
      (hfq : ∀ L, f = some L → ∀ bs, needs L bs → OpS P N ops oj t bs y) (hq : OpS P N ops oj t bs y) : Lag N P ops t0 (⟨j, y, f⟩ :: cl) (putA t oj.dst y) bs listed a w := by
    have h1 : j < ops.size := (Array.getElem?_eq_some_iff.1 hj).1
    have hdi : dstOf ops j = oj.dst := by simp [dstOf, hj]
    have hcn : ∀ c ∈ cl, c.i ≠ j := fun c hc e => by rw [claimed_iff.2 ⟨c, hc, e⟩] at hn; cases hn
    have hlj : listed.getD j false = false := by
      cases hb : listed.getD j false with
      | false => rfl
      | true => rw [hL.sub j hb] at hn; cases hn
    have hlk : ∀ q, (∀ d, oj.dst = some d → q ≠ d) → look (putA t oj.dst y) q = look t q := fun q hq => by
      cases hdd : oj.dst with
      | none => rfl
      | some d => show look ((d, y) :: t) q = _; rw [look_cons, if_neg (hq d hdd)]
    have hne : ∀ c ∈ cl, ∀ d, dstOf ops c.i = some d → ∀ d', oj.dst = some d' → d ≠ d' := fun c hc d hd d' hd' ee => by
      subst ee
      exact ok_dst hA (hL.clm c hc).1 h1 (hcn c hc) hd (hdi.trans hd')
    have hself : ∀ d, oj.dst = some d → d ∉ readsOf ops oj := fun d hd hr => by
      have := List.all_eq_true.1 hS j (by simpa using h1)
      rw [hj] at this
      simp only [hd, Bool.and_eq_true, Bool.not_eq_true'] at this
      have hc : (readsOf ops oj).contains d = true := List.contains_iff_mem.2 hr
      rw [hc] at this; cases this.2
    refine ⟨hL.size, hL.defers, hL.tsize, hL.bsok, fun q hq => ?_, hL.closed, fun c hc => ?_, fun c hc c' hc' e => ?_, fun c hc e he => ?_, fun c hc hl d hd => ?_, fun q hq => ?_, fun c hc => ?_, fun c hc hl oc hoc => ?_, fun q hq d hd => ?_⟩
    · obtain ⟨c, hc, e⟩ := claimed_iff.1 (hL.sub q hq)
      exact claimed_iff.2 ⟨c, by simp [hc], e⟩
    · rcases List.mem_cons.1 hc with rfl | hc
      · refine ⟨h1, fun d hd => ?_⟩
        have hdo : oj.dst = some d := by rw [← hdi]; exact hd
        rw [hdo]; show look ((d, y) :: t) d = y; rw [look_cons, if_pos rfl]
      · exact ⟨(hL.clm c hc).1, fun d hd => by rw [hlk d (hne c hc d hd)]; exact (hL.clm c hc).2 d hd⟩
    · rcases List.mem_cons.1 hc with rfl | hc
      · rcases List.mem_cons.1 hc' with rfl | hc'
        · rfl
        · exact absurd e.symm (hcn c' hc')
      · rcases List.mem_cons.1 hc' with rfl | hc'
        · exact absurd e (hcn c hc)
        · exact hL.uniq c hc c' hc' e
    · have key : claimed cl e = true := by
        rcases List.mem_cons.1 hc with rfl | hc
        · exact List.all_eq_true.1 hdep e he
        · exact hL.cldown c hc e he
      obtain ⟨c2, hc2, e2⟩ := claimed_iff.1 key
      exact claimed_iff.2 ⟨c2, by simp [hc2], e2⟩
    · rcases List.mem_cons.1 hc with rfl | hc
      · rw [hlj] at hl; cases hl
      · exact hL.done c hc hl d hd
    · rw [hlk q fun d hd e => hq ⟨j, y, f⟩ List.mem_cons_self (by show dstOf ops j = _; rw [hdi, hd, e])]
      exact hL.other q fun c hc => hq c (by simp [hc])
    · rcases List.mem_cons.1 hc with rfl | hc
      · exact hx
      · exact hL.str c hc
    · rcases List.mem_cons.1 hc with rfl | hc
      · rw [hj] at hoc
        injection hoc with hoc
        subst hoc
        exact ⟨fun L hf bs hnb => (hfq L hf bs hnb).frame hself, hq.frame hself⟩
      · have hp := hL.pend c hc hl oc hoc
        have hnr : ∀ d, oj.dst = some d → d ∉ readsOf ops oc := fun d hd hr => by
          have hedge := ok_rd hx (hL.clm c hc).1 (Ne.symm (hcn c hc)) (hdi.trans hd) oc hoc hr
          rw [hL.cldown c hc j hedge] at hn; cases hn
        exact ⟨fun L hf bs hnb => (hp.1 L hf bs hnb).frame hnr, hp.2.frame hnr⟩
    · by_cases e : q = j
      · subst e
        refine .inl ?_
        have hdo : oj.dst = some d := by rw [← hdi]; exact hd
        rw [hdo] at hdn; simpa [okD, Nat.blt_eq] using hdn
      · rcases hL.dsts q hq d hd with h | h
        · exact .inl h
        · refine .inr ?_
          cases hcl : claimed (⟨j, y, f⟩ :: cl) q with
          | false => rfl
          | true =>
            obtain ⟨c, hc, e'⟩ := claimed_iff.1 hcl
            rcases List.mem_cons.1 hc with rfl | hc
            · exact absurd e'.symm e
            · rw [claimed_iff.2 ⟨c, hc, e'⟩] at h; cases h
end
/-- A region that draws its order. -/
theorem AW.draw {P : Program} {N id : Nat} {l : List Oper} {Q : Exit → T → BS → Prop} {t : T} {bs : BS} (hm : P.follows .mixedOrders = true) (hA : okAny l.toArray = true) (hS : okSelf l.toArray = true) (h : AD P N l.toArray Q [] t bs) : AW P N (.region id l.toArray true) Q t bs := fun w0 Z0 a w hg he => by
  refine wp_region_any hm ?_
  have hd : BsOk { w with drawn := w.drawn + 1 } bs ∧ Ext w (zones bs) { w with drawn := w.drawn + 1 } (zones bs) := hg.bs.keep rfl rfl rfl (Nat.le_refl _) fun _ _ => rfl
  refine AD.sound hA hS w0 Z0 t _ [] t bs _ a _ h ?_ ?_ (he.trans hd.2)
  · unfold unl; exact Nat.le_trans List.countP_le_length (by simp)
  · refine ⟨by simp, hg.defers, hg.size, hd.1, fun i hi => ?_, fun i hi => ?_, by simp, by simp, by simp, by simp, fun u _ => (hg.tmps u).ext hd.2, by simp, by simp, fun i _ d _ => .inr rfl⟩
    all_goals
      exfalso
      simp only [Array.getD_eq_getD_getElem?, Array.getElem?_replicate] at hi
      split at hi <;> simp at hi
end Go.Proofs.Ytnkkfmnpkgjabaa.X
