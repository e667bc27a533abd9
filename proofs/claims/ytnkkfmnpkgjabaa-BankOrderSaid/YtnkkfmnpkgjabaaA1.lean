/- A logic of calls over values that are told as trees: what a value says, what memory is one's own, what a call keeps. -/
import Derived.Test.YtnkkfmnpkgjabaaRows
import Derived.WalkKit
import Derived.WalkLawsBesides
import Derived.ProofKit
import Derived.Deep.MidRow
import Derived.Laws.ResultCell
import Derived.Maps.AppendAt
import Derived.ArgAppend
import Derived.OwnWalk
import Derived.Orders
import Derived.IntWalk
import Derived.Lib.Hide
namespace Go.Proofs.Ytnkkfmnpkgjabaa.X
open Go.RowKit
set_option linter.unusedVariables false
set_option linter.unusedSimpArgs false

/-- What a value says: a scalar; a slice that is read only (nil; of any capacity; full; the tip of a growing block g of capacity c; nil or such a tip); a pointer into a block of one's own (or to cell j of row i there, rows of s cells), a slice of such cells; a pointer into what is read only; a function; a struct or an array as its cells; results; what is so if c. -/
inductive A where
  | v (u : Value)
  | nil
  | sl (rows : List (List A))
  | clip (rows : List (List A))
  | tip (g c : Nat) (rows : List (List A))
  | gr (o : Option (Nat × Nat)) (rows : List (List A))
  | ptr (g off : Nat)
  | rp (g s i j : Nat)
  | ms (g off len cap : Nat)
  | ep (xs : List A)
  | fn (f : Fn) (first caps : List A)
  | agg (xs : List A)
  | tup (xs : List A)
  | opt (c : Bool) (x : A)
  | junk
def A.isCell : A → Bool
  | .agg _ | .tup _ | .opt .. | .junk => false
  | _ => true
abbrev Zones := List (Nat × Nat)
/-- Nobody writes this cell: it lies in no zone. -/
def Stable (Z : Zones) (g k : Nat) : Prop := ∀ z ∈ Z, z.1 = g → k < z.2

inductive Rep (w : World) (Z : Zones) : Value → A → Prop where
  | v {u : Value} (h : u.oneCell' = true) : Rep w Z u (.v u)
  | nil : Rep w Z (.slice none 0 0) .nil
  | sl {Ad : Option Addr} {n c : Nat} {rows : List (List A)} (hn : rows.length = n) (hc : n ≤ c) (hm : c ≤ maxLen) (sz g o : Nat) (us : Nat → Value)
      (hs : ∀ r ∈ rows, r.length = sz) (ha : 0 < n → Ad = some ⟨g, o, none⟩)
      (hcell : ∀ k x, rows.flatten[k]? = some x → w.cell? ⟨g, o + k, none⟩ = some (us k)) (hst : ∀ k x, rows.flatten[k]? = some x → Stable Z g (o + k)) (h1 : ∀ k x, rows.flatten[k]? = some x → (us k).oneCell' = true)
      (hr : ∀ k x, rows.flatten[k]? = some x → Rep w Z (us k) x) : Rep w Z (.slice Ad n c) (.sl rows)
  | clip {Ad : Option Addr} {n : Nat} {rows : List (List A)} (h : Rep w Z (.slice Ad n n) (.sl rows)) : Rep w Z (.slice Ad n n) (.clip rows)
  | tip {g n c : Nat} {rows : List (List A)} (h : Rep w Z (.slice (some ⟨g, 0, none⟩) n c) (.sl rows)) : Rep w Z (.slice (some ⟨g, 0, none⟩) n c) (.tip g c rows)
  | gr0 : Rep w Z (.slice none 0 0) (.gr none [])
  | gr {u : Value} {g c : Nat} {rows : List (List A)} (h : Rep w Z u (.tip g c rows)) : Rep w Z u (.gr (some (g, c)) rows)
  | ptr {g off : Nat} : Rep w Z (.pointer (some ⟨g, off, none⟩)) (.ptr g off)
  | rp {g s i j : Nat} : Rep w Z (.pointer (some ⟨g, i * s + j, none⟩)) (.rp g s i j)
  | ms {g off len cap : Nat} : Rep w Z (.slice (some ⟨g, off, none⟩) len cap) (.ms g off len cap)
  | ep {xs : List A} {g o : Nat} (us : Nat → Value) (hcell : ∀ k x, xs[k]? = some x → w.cell? ⟨g, o + k, none⟩ = some (us k)) (hst : ∀ k x, xs[k]? = some x → Stable Z g (o + k)) (h1 : ∀ k x, xs[k]? = some x → (us k).oneCell' = true)
      (hr : ∀ k x, xs[k]? = some x → Rep w Z (us k) x) : Rep w Z (.pointer (some ⟨g, o, none⟩)) (.ep xs)
  | fn {f : Fn} {u1 u2 : Array Value} {x1 x2 : List A} (l1 : u1.size = x1.length) (l2 : u2.size = x2.length)
      (h1 : ∀ k x, x1[k]? = some x → Rep w Z (u1.getD k undef) x) (h2 : ∀ k x, x2[k]? = some x → Rep w Z (u2.getD k undef) x) : Rep w Z (.func f u1 u2) (.fn f x1 x2)
  | agg {us : Array Value} {xs : List A} (l : us.size = xs.length) (hr : ∀ k x, xs[k]? = some x → Rep w Z (us.getD k undef) x) (h1 : ∀ k x, xs[k]? = some x → (us.getD k undef).oneCell' = true) : Rep w Z (.agg us) (.agg xs)
  | tup {us : Array Value} {xs : List A} (l : us.size = xs.length) (hr : ∀ k x, xs[k]? = some x → Rep w Z (us.getD k undef) x) : Rep w Z (.tuple us) (.tup xs)
  | opt {u : Value} {c : Bool} {x : A} (h : c = true → Rep w Z u x) (h0 : c = false → u = undef) : Rep w Z u (.opt c x)
  | junk {u : Value} : Rep w Z u .junk

/-- A block of one's own: cells; a block of element type e that grows, of which n rows are told, and stay; one that grows and may turn. -/
inductive Blk where
  | cells (cs : List A)
  | tip (n cap sz : Nat) (e : TypeId)
  | rows (rs : List (List A)) (cap sz : Nat) (e : TypeId)
abbrev BS := List (Nat × Blk)
def Blk.from_ : Blk → Nat
  | .cells _ => 0
  | .tip n _ sz _ => n * sz
  | .rows .. => 0
def zones (bs : BS) : Zones := bs.map fun x => (x.1, x.2.from_)
def CellsRep (w : World) (Z : Zones) (arr : Array Value) (cs : List A) : Prop :=
  arr.size = cs.length ∧ ∀ k x, cs[k]? = some x → Rep w Z (arr.getD k undef) x ∧ (arr.getD k undef).oneCell' = true
def BlkOk (w : World) (Z : Zones) (g : Nat) : Blk → Prop
  | .cells cs => ∃ arr t, w.heap[g]? = some (.cells arr t (0, 0)) ∧ CellsRep w Z arr cs
  | .tip n cap sz e => ∃ arr, w.heap[g]? = some (.cells arr e (0, 0)) ∧ n ≤ cap ∧ cap ≤ maxLen ∧ arr.size = cap * sz
  | .rows rs cap sz e => ∃ arr, w.heap[g]? = some (.cells arr e (0, 0)) ∧ rs.length ≤ cap ∧ cap ≤ maxLen ∧ arr.size = cap * sz ∧ (∀ r ∈ rs, r.length = sz) ∧ ∀ k x, rs.flatten[k]? = some x → Rep w Z (arr.getD k undef) x ∧ (arr.getD k undef).oneCell' = true
structure BsOk (w : World) (bs : BS) : Prop where
  nodup : (bs.map (·.1)).Nodup
  ok : ∀ x ∈ bs, BlkOk w (zones bs) x.1 x.2
/-- What has become of a world in which one has turned one's own. -/
structure Ext (w : World) (Z : Zones) (w' : World) (Z' : Zones) : Prop where
  os : w'.os = w.os
  tape : w'.tape = w.tape
  output : w'.output = w.output
  size : w.heap.size ≤ w'.heap.size
  block : ∀ k, k < w.heap.size → (∀ z ∈ Z, z.1 ≠ k) → w'.heap[k]? = w.heap[k]?
  cell : ∀ g k, g < w.heap.size → Stable Z g k → w'.cell? ⟨g, k, none⟩ = w.cell? ⟨g, k, none⟩
  zone : ∀ z' ∈ Z', (∃ z ∈ Z, z.1 = z'.1 ∧ z.2 ≤ z'.2) ∨ w.heap.size ≤ z'.1

section
variable {w w' w'' : World} {Z Z' Z'' : Zones} {u : Value} {a : A}
theorem Ext.refl (w : World) (Z : Zones) : Ext w Z w Z := ⟨rfl, rfl, rfl, Nat.le_refl _, fun _ _ _ => rfl, fun _ _ _ _ => rfl, fun z h => .inl ⟨z, h, rfl, Nat.le_refl _⟩⟩
theorem Stable.ext {g k : Nat} (h : Ext w Z w' Z') (hg : g < w.heap.size) (hs : Stable Z g k) : Stable Z' g k := fun z' hz' e => by
  rcases h.zone z' hz' with ⟨z, hz, h1, h2⟩ | h1
  · exact Nat.lt_of_lt_of_le (hs z hz (h1.trans e)) h2
  · omega
theorem Ext.trans (h : Ext w Z w' Z') (k : Ext w' Z' w'' Z'') : Ext w Z w'' Z'' where
  os := k.os.trans h.os
  tape := k.tape.trans h.tape
  output := k.output.trans h.output
  size := Nat.le_trans h.size k.size
  block g hg hz := by
    rw [k.block g (Nat.lt_of_lt_of_le hg h.size) ?_, h.block g hg hz]
    intro z' hz' e
    rcases h.zone z' hz' with ⟨z, hz1, h1, _⟩ | h1
    · exact hz z hz1 (h1.trans e)
    · omega
  cell g o hg hs := by rw [k.cell g o (Nat.lt_of_lt_of_le hg h.size) (hs.ext h hg), h.cell g o hg hs]
  zone z'' hz'' := by
    rcases k.zone z'' hz'' with ⟨z', hz', h1, h2⟩ | h1
    · rcases h.zone z' hz' with ⟨z, hz, h3, h4⟩ | h3
      · exact .inl ⟨z, hz, h3.trans h1, Nat.le_trans h4 h2⟩
      · exact .inr (by omega)
    · exact .inr (Nat.le_trans h.size h1)
/-- What is read stays, where stable cells do. -/
theorem Rep.mono (h : Rep w Z u a) (hc : ∀ g k v, w.cell? ⟨g, k, none⟩ = some v → Stable Z g k → w'.cell? ⟨g, k, none⟩ = some v ∧ Stable Z' g k) : Rep w' Z' u a := by
  induction h with
  | v h => exact .v h
  | nil => exact .nil
  | sl hn hc2 hm sz g o us hs ha hcell hst h1 hr ih =>
    exact .sl hn hc2 hm sz g o us hs ha (fun k x hk => (hc _ _ _ (hcell k x hk) (hst k x hk)).1) (fun k x hk => (hc _ _ _ (hcell k x hk) (hst k x hk)).2) h1 ih
  | clip h ih => exact .clip ih
  | tip h ih => exact .tip ih
  | gr0 => exact .gr0
  | gr h ih => exact .gr ih
  | ptr => exact .ptr
  | rp => exact .rp
  | ms => exact .ms
  | ep us hcell hst h1 hr ih => exact .ep us (fun k x hk => (hc _ _ _ (hcell k x hk) (hst k x hk)).1) (fun k x hk => (hc _ _ _ (hcell k x hk) (hst k x hk)).2) h1 ih
  | fn l1 l2 h1 h2 ih1 ih2 => exact .fn l1 l2 ih1 ih2
  | agg l hr h1 ih => exact .agg l ih h1
  | tup l hr ih => exact .tup l ih
  | opt h h0 ih => exact .opt ih h0
  | junk => exact .junk
theorem Rep.ext (h : Rep w Z u a) (e : Ext w Z w' Z') : Rep w' Z' u a :=
  h.mono fun g k v hv hs => by
    have hg := World.block_lt_of_cell? w ⟨g, k, none⟩ hv
    exact ⟨by rw [e.cell g k hg hs]; exact hv, hs.ext e hg⟩
/-- Fewer zones, no less is read. -/
theorem Rep.less (h : Rep w Z u a) (hz : ∀ z' ∈ Z', ∃ z ∈ Z, z.1 = z'.1 ∧ z.2 ≤ z'.2) : Rep w Z' u a :=
  h.mono fun g k v hv hs => ⟨hv, fun z' hz' e => by
    obtain ⟨z, h1, h2, h3⟩ := hz z' hz'
    exact Nat.lt_of_lt_of_le (hs z h1 (h2.trans e)) h3⟩
theorem CellsRep.ext {arr : Array Value} {cs : List A} (h : CellsRep w Z arr cs) (e : Ext w Z w' Z') : CellsRep w' Z' arr cs :=
  ⟨h.1, fun k x hk => ⟨(h.2 k x hk).1.ext e, (h.2 k x hk).2⟩⟩
theorem BlkOk.lt {g : Nat} {b : Blk} (h : BlkOk w Z g b) : g < w.heap.size := by
  have key : ∀ o, w.heap[g]? = some o → g < w.heap.size := fun o ho => by
    rcases Nat.lt_or_ge g w.heap.size with hl | hl
    · exact hl
    · rw [Array.getElem?_eq_none hl] at ho; cases ho
  cases b with
  | cells cs => obtain ⟨arr, t, h1, _⟩ := h; exact key _ h1
  | tip => obtain ⟨arr, h1, _⟩ := h; exact key _ h1
  | rows => obtain ⟨arr, h1, _⟩ := h; exact key _ h1
/-- A block that has stayed, whatever else has turned. -/
theorem BlkOk.stay {g : Nat} {b : Blk} (h : BlkOk w Z g b) (e : Ext w Z w' Z') (hs : w'.heap[g]? = w.heap[g]?) : BlkOk w' Z' g b := by
  cases b with
  | cells cs => obtain ⟨arr, t, h1, h2⟩ := h; exact ⟨arr, t, hs.trans h1, h2.ext e⟩
  | tip => obtain ⟨arr, h1, h2⟩ := h; exact ⟨arr, hs.trans h1, h2⟩
  | rows => obtain ⟨arr, h1, h2, h3, h4, h5, h6⟩ := h; exact ⟨arr, hs.trans h1, h2, h3, h4, h5, fun k x hk => ⟨(h6 k x hk).1.ext e, (h6 k x hk).2⟩⟩
end
theorem zones_cons (g : Nat) (b : Blk) (bs : BS) : zones ((g, b) :: bs) = (g, b.from_) :: zones bs := rfl
theorem mem_zones {bs : BS} {z : Nat × Nat} : z ∈ zones bs ↔ ∃ x ∈ bs, z = (x.1, x.2.from_) := by
  unfold zones; rw [List.mem_map]; constructor
  · rintro ⟨x, h1, rfl⟩; exact ⟨x, h1, rfl⟩
  · rintro ⟨x, h1, rfl⟩; exact ⟨x, h1, rfl⟩

/-- Block g of a list of blocks is another one. -/
inductive BUpd : BS → Nat → Blk → Nat → Blk → BS → Prop where
  | head {g b g' b' r} : BUpd ((g, b) :: r) g b g' b' ((g', b') :: r)
  | tail {x r g b g' b' r'} (h : BUpd r g b g' b' r') : BUpd (x :: r) g b g' b' (x :: r')
theorem BUpd.mem {bs bs' : BS} {g g' : Nat} {b b' : Blk} (h : BUpd bs g b g' b' bs') : (g, b) ∈ bs := by
  induction h with
  | head => simp
  | tail _ ih => simp [ih]
theorem BUpd.mem' {bs bs' : BS} {g g' : Nat} {b b' : Blk} (h : BUpd bs g b g' b' bs') : (g', b') ∈ bs' := by
  induction h with
  | head => simp
  | tail _ ih => simp [ih]
theorem BUpd.of_mem' {bs bs' : BS} {g g' : Nat} {b b' : Blk} (h : BUpd bs g b g' b' bs') : ∀ x ∈ bs', x = (g', b') ∨ x ∈ bs := by
  induction h with
  | head => intro x hx; rcases List.mem_cons.1 hx with h | h; exact .inl h; exact .inr (by simp [h])
  | tail _ ih =>
    intro x hx; rcases List.mem_cons.1 hx with h | h
    · exact .inr (by simp [h])
    · exact (ih x h).imp id fun h => by simp [h]
/-- With another number the list has no number twice, if the number is new. -/
theorem BUpd.nodup {bs bs' : BS} {g g' : Nat} {b b' : Blk} (h : BUpd bs g b g' b' bs') (hn : (bs.map (·.1)).Nodup) (hg : g' = g ∨ g' ∉ bs.map (·.1)) : (bs'.map (·.1)).Nodup ∧ (∀ x ∈ bs', x.1 ≠ g' → x ∈ bs ∧ x.1 ≠ g) ∧ ∀ x ∈ bs', x.1 = g' → x = (g', b') := by
  induction h with
  | head =>
    rename_i g b g' b' r
    simp only [List.map_cons, List.nodup_cons] at hn ⊢
    have hnew : g' ∉ r.map (·.1) := by
      rcases hg with rfl | hg
      · exact hn.1
      · simp at hg ⊢; exact hg.2
    refine ⟨⟨hnew, hn.2⟩, ?_, ?_⟩
    · intro x hx hne
      rcases List.mem_cons.1 hx with rfl | hx
      · exact absurd rfl hne
      · exact ⟨by simp [hx], fun e => hn.1 (List.mem_map.2 ⟨x, hx, e⟩)⟩
    · intro x hx he
      rcases List.mem_cons.1 hx with rfl | hx
      · rfl
      · exact absurd (List.mem_map.2 ⟨x, hx, he⟩) hnew
  | tail h ih =>
    rename_i x0 r g b g' b' r'
    simp only [List.map_cons, List.nodup_cons] at hn ⊢
    obtain ⟨h1, h2, h3⟩ := ih hn.2 (hg.imp id fun hg => by simp at hg ⊢; exact hg.2)
    have hx0 : x0.1 ≠ g := fun e => hn.1 (List.mem_map.2 ⟨(g, b), h.mem, e.symm⟩)
    have hx0' : x0.1 ≠ g' := by
      rcases hg with rfl | hg
      · exact hx0
      · intro e; simp [e] at hg
    refine ⟨⟨?_, h1⟩, ?_, ?_⟩
    · intro hm
      obtain ⟨y, hy, he⟩ := List.mem_map.1 hm
      by_cases hyg : y.1 = g'
      · exact hx0' (he.symm.trans hyg)
      · exact hn.1 (List.mem_map.2 ⟨y, (h2 y hy hyg).1, he⟩)
    · intro x hx hne
      rcases List.mem_cons.1 hx with rfl | hx
      · exact ⟨by simp, hx0⟩
      · exact ⟨by simp [(h2 x hx hne).1], (h2 x hx hne).2⟩
    · intro x hx he
      rcases List.mem_cons.1 hx with rfl | hx
      · exact absurd he hx0'
      · exact h3 x hx he
section
variable {w w' : World} {bs bs' : BS}
theorem BsOk.get (h : BsOk w bs) {g : Nat} {b : Blk} (hm : (g, b) ∈ bs) : BlkOk w (zones bs) g b := h.ok _ hm
theorem BsOk.ne (h : BsOk w bs) {g : Nat} {b : Blk} (hm : (g, b) ∈ bs) {x : Nat × Blk} (hx : x ∈ bs) (he : x.1 = g) : x = (g, b) := by
  have h1 := h.nodup
  clear h
  induction bs with
  | nil => cases hm
  | cons y r ih =>
    simp only [List.map_cons, List.nodup_cons] at h1
    rcases List.mem_cons.1 hm with rfl | hm2
    · rcases List.mem_cons.1 hx with rfl | hx2
      · rfl
      · exact absurd (List.mem_map.2 ⟨x, hx2, he⟩) h1.1
    · rcases List.mem_cons.1 hx with rfl | hx2
      · exact absurd (List.mem_map.2 ⟨(g, b), hm2, he.symm⟩) h1.1
      · exact ih hm2 hx2 h1.2
/-- A new block. -/
theorem BsOk.alloc (h : BsOk w bs) (arr : Array Value) (t : TypeId) (cs : List A) (hc : CellsRep w (zones bs) arr cs) :
    BsOk (w.alloc (.cells arr t)) ((w.heap.size, .cells cs) :: bs) ∧ Ext w (zones bs) (w.alloc (.cells arr t)) (zones ((w.heap.size, .cells cs) :: bs)) := by
  have he : Ext w (zones bs) (w.alloc (.cells arr t)) (zones ((w.heap.size, .cells cs) :: bs)) := by
    refine ⟨rfl, rfl, rfl, by simp, fun k hk _ => Below.heap_alloc w _ k hk, fun g k hg _ => World.cell?_alloc_lt _ _ _ hg, fun z hz => ?_⟩
    rw [zones_cons] at hz
    rcases List.mem_cons.1 hz with rfl | hz
    · exact .inr (Nat.le_refl _)
    · exact .inl ⟨z, hz, rfl, Nat.le_refl _⟩
  refine ⟨⟨?_, ?_⟩, he⟩
  · simp only [List.map_cons, List.nodup_cons]
    refine ⟨fun hm => ?_, h.nodup⟩
    obtain ⟨x, hx, e⟩ := List.mem_map.1 hm
    have := (h.ok x hx).lt
    omega
  · intro x hx
    rcases List.mem_cons.1 hx with rfl | hx
    · exact ⟨arr, t, heap_alloc_new w _, hc.ext he⟩
    · exact (h.ok x hx).stay he (Below.heap_alloc w _ _ (h.ok x hx).lt)
/-- Another block of one's own is laid in the place of one, all else stays. -/
theorem BsOk.upd (h : BsOk w bs) {g g' : Nat} {b b' : Blk} (hu : BUpd bs g b g' b' bs') (hos : w'.os = w.os) (htape : w'.tape = w.tape) (hout : w'.output = w.output) (hsize : w.heap.size ≤ w'.heap.size)
    (hg' : g' = g ∧ b.from_ ≤ b'.from_ ∨ w.heap.size ≤ g') (hb : ∀ k, k < w.heap.size → k ≠ g → w'.heap[k]? = w.heap[k]?) (hcell : ∀ k, k < b.from_ → w'.cell? ⟨g, k, none⟩ = w.cell? ⟨g, k, none⟩)
    (hok : Ext w (zones bs) w' (zones bs') → BlkOk w' (zones bs') g' b') : BsOk w' bs' ∧ Ext w (zones bs) w' (zones bs') := by
  have hnew : g' = g ∨ g' ∉ bs.map (·.1) := by
    rcases hg' with ⟨h1, _⟩ | h1
    · exact .inl h1
    · refine .inr fun hm => ?_
      obtain ⟨x, hx, e⟩ := List.mem_map.1 hm
      have := (h.ok x hx).lt
      omega
  obtain ⟨n1, n2, n3⟩ := hu.nodup h.nodup hnew
  have hin : (g, b.from_) ∈ zones bs := mem_zones.2 ⟨_, hu.mem, rfl⟩
  have he : Ext w (zones bs) w' (zones bs') := by
    refine ⟨hos, htape, hout, hsize, fun k hk hz => hb k hk (fun e => hz _ hin (by simp [e])), fun q k hq hs => ?_, fun z hz => ?_⟩
    · by_cases e : q = g
      · subst e; exact hcell k (hs _ hin rfl)
      · exact World.cell?_of_block (w := w) (a := ⟨q, k, none⟩) (hb q hq e)
    · obtain ⟨x, hx, rfl⟩ := mem_zones.1 hz
      by_cases e : x.1 = g'
      · have := n3 x hx e
        subst this
        rcases hg' with ⟨h1, h2⟩ | h1
        · exact .inl ⟨_, hin, by simp [h1], h2⟩
        · exact .inr h1
      · exact .inl ⟨_, mem_zones.2 ⟨x, (n2 x hx e).1, rfl⟩, rfl, Nat.le_refl _⟩
  refine ⟨⟨n1, fun x hx => ?_⟩, he⟩
  by_cases e : x.1 = g'
  · have := n3 x hx e
    subst this
    exact hok he
  · obtain ⟨h1, h2⟩ := n2 x hx e
    exact (h.ok x h1).stay he (hb _ (h.ok x h1).lt h2)
end
end Go.Proofs.Ytnkkfmnpkgjabaa.X
