/- slices.Sort, slices.Compact of texts, on rows of one's own. -/
import Derived.Test.YtnkkfmnpkgjabaaC7
import Derived.Test.YtnkkfmnpkgjabaaF3
import Derived.Test.YtnkkfmnpkgjabaaShelf
namespace Go.Proofs.Ytnkkfmnpkgjabaa.X
open Go.RowKit
open Go.Sort (Holds putRow grow putCells mapBlock onCells)
set_option linter.unusedVariables false
set_option linter.unusedSimpArgs false
set_option maxRecDepth 10000

abbrev tS : TypeId := 9
def dat (s : Txt) : List UInt8 := s.data.toList
def undat (l : List UInt8) : Txt := ⟨l.toArray⟩
theorem undat_dat (s : Txt) : undat (dat s) = s := rfl
theorem dat_undat (l : List UInt8) : dat (undat l) = l := rfl
theorem strs_flat (l : List Txt) : (l.map strR).flatten = l.map fun s => A.v (.string s) := by
  induction l with
  | nil => rfl
  | cons x r ih => simp [strR, ih]
theorem put_rows {w : World} {bs b2 : BS} {g c : Nat} {l l2 : List Txt} {e : TypeId} (hb : BsOk w bs) (hlen : l2.length = l.length) (hu : BUpd bs g (.rows (l.map strR) c 1 e) g (.rows (l2.map strR) c 1 e) b2) (n : Nat) (os : Array Obj) :
    BsOk (grow (putRow encStr (Go.Sort.ahead w n) g 0 (l2.map dat).toArray) os) b2 ∧ Ext w (zones bs) (grow (putRow encStr (Go.Sort.ahead w n) g 0 (l2.map dat).toArray) os) (zones b2) := by
  obtain ⟨arr, ha1, ha2, ha3, ha4, ha5, ha6⟩ := hb.get hu.mem
  have hg : g < w.heap.size := (hb.get hu.mem).lt
  have hold : ∀ k, k < w.heap.size → (grow (putRow encStr (Go.Sort.ahead w n) g 0 (l2.map dat).toArray) os).heap[k]? = (putRow encStr (Go.Sort.ahead w n) g 0 (l2.map dat).toArray).heap[k]? := fun k hk =>
    Go.Sort.heap_grow_old _ os (by simpa [putRow, mapBlock, Go.Sort.ahead] using hk)
  have hne : ∀ k, k ≠ g → (putRow encStr (Go.Sort.ahead w n) g 0 (l2.map dat).toArray).heap[k]? = w.heap[k]? := fun k hk => by
    simp [putRow, mapBlock, Go.Sort.ahead, Array.getElem?_modify, Ne.symm hk]
  have hgg : (putRow encStr (Go.Sort.ahead w n) g 0 (l2.map dat).toArray).heap[g]? = some (.cells (putCells encStr 0 (l2.map dat).toArray arr) e (0, 0)) := by
    simp [putRow, mapBlock, Go.Sort.ahead, Array.getElem?_modify, ha1, onCells]
  refine hb.upd hu rfl rfl rfl (by simp [grow, putRow, mapBlock, Go.Sort.ahead]) (.inl ⟨rfl, Nat.le_refl _⟩) (fun k hk hkg => by rw [hold k hk, hne k hkg]) (fun k hk => absurd hk (Nat.not_lt_zero k)) fun he => ?_
  refine ⟨putCells encStr 0 (l2.map dat).toArray arr, by rw [hold g hg]; exact hgg, by simpa [hlen] using ha2, ha3, by simpa [putCells] using ha4, fun r hr => by obtain ⟨x, _, rfl⟩ := List.mem_map.1 hr; rfl, fun k x hk => ?_⟩
  rw [strs_flat, List.getElem?_map] at hk
  obtain ⟨s, hs, rfl⟩ := Option.map_eq_some_iff.1 hk
  have hkl := (List.getElem?_eq_some_iff.1 hs).1
  have hka : k < arr.size := by rw [ha4]; simp at ha2; omega
  have : (putCells encStr 0 (l2.map dat).toArray arr).getD k undef = .string s := by
    have h1 : (putCells encStr 0 (l2.map dat).toArray arr)[k]? = some (.string s) := by
      unfold putCells
      rw [Array.getElem?_mapIdx, Array.getElem?_eq_getElem hka]
      simp only [Option.map_some, Nat.zero_le, true_and, Nat.zero_add, Nat.sub_zero, List.size_toArray, List.length_map, hkl, if_true]
      rw [getElem!_pos _ k (by simpa using hkl)]
      have : (l2[k]) = s := by rw [List.getElem?_eq_getElem hkl] at hs; exact Option.some.inj hs
      simp [this, dat]
    simp [h1]
  rw [this]
  exact ⟨.v rfl, rfl⟩
theorem holds_rows {w : World} {bs : BS} {g c : Nat} {l : List Txt} {e : TypeId} (hb : BsOk w bs) (hm : (g, .rows (l.map strR) c 1 e) ∈ bs) : Holds encStr w g 0 (l.map dat).toArray := by
  obtain ⟨arr, ha1, ha2, ha3, ha4, ha5, ha6⟩ := hb.get hm
  intro j hj
  have hjl : j < l.length := by simpa using hj
  refine ⟨?_, by simp [World.frozen?, ha1]⟩
  rw [cell_of_row w g (0 + j) arr e (0, 0) ha1, Nat.zero_add]
  have hx := (ha6 j (.v (.string l[j])) (by rw [strs_flat, List.getElem?_map, List.getElem?_eq_getElem hjl]; rfl)).1.val
  have hja : j < arr.size := by rw [ha4]; simp at ha2; omega
  rw [Array.getElem?_eq_getElem hja]
  have : arr[j] = .string l[j] := by simpa [hja] using hx
  rw [this, getElem!_pos _ j (by simpa using hjl)]
  simp [dat]
theorem arg1 {us : Array Value} {v : Value} (hs : us.size = 1) (h : us.getD 0 undef = v) : us = #[v] := by
  apply Array.ext
  · simpa using hs
  · intro i h1 h2
    have : i = 0 := by omega
    subst this
    simpa [h1] using h
/-- The texts in order. -/
def sortT (l : List Txt) : List Txt := ((l.map dat).mergeSort fun x y => decide (x ≤ y)).map undat
theorem sortT_len (l : List Txt) : (sortT l).length = l.length := by simp [sortT]
theorem sortT_dat (l : List Txt) : (sortT l).map dat = (l.map dat).mergeSort fun x y => decide (x ≤ y) := by
  unfold sortT; rw [List.map_map]
  have : dat ∘ undat = id := rfl
  rw [this, List.map_id]
theorem sort_a {g c : Nat} {l : List Txt} {bs b2 : BS} (hu : BUpd bs g (.rows (l.map strR) c 1 tS) g (.rows ((sortT l).map strR) c 1 tS) b2) (hl : l.length ≤ 1000000) :
    ACalls Try.prog 56 [.ms g 0 l.length c] bs fun y b => y = .tup [] ∧ b = b2 := by
  intro w us hs hx hb
  have h0 := hx 0 _ rfl
  have hus : us = #[.slice (some ⟨g, 0, none⟩) l.length c] := arg1 hs (by
    generalize us.getD 0 undef = u at h0
    cases h0; rfl)
  subst hus
  have hH := holds_rows hb hu.mem
  have hg : g < w.heap.size := (hb.get hu.mem).lt
  have hc := Try.slices_Sort_string g 0 c (l.map dat) w hH hg (by simp; omega)
  rw [List.length_map] at hc
  refine hc.mono fun e w' ⟨he, n, os, hw⟩ => ?_
  subst he; subst hw
  rw [← sortT_dat]
  obtain ⟨h1, h2⟩ := put_rows hb (sortT_len l) hu n os
  exact ⟨_, _, _, rfl, ⟨rfl, rfl⟩, .tup rfl (by simp), h1, h2⟩
/-- Each run of alike texts once. -/
def compT (l : List Txt) : List Txt := (Lib.compact (l.map dat)).map undat
def compR (l : List Txt) : List Txt := compT l ++ List.replicate (l.length - (compT l).length) ⟨#[]⟩
theorem compT_le (l : List Txt) : (compT l).length ≤ l.length := by
  unfold compT
  have := Lib.compact_length_le (l.map dat)
  simpa using this
theorem compR_len (l : List Txt) : (compR l).length = l.length := by
  have := compT_le l
  simp [compR]; omega
theorem compR_dat (l : List Txt) : (compR l).map dat = Lib.compact (l.map dat) ++ List.replicate ((l.map dat).length - (Lib.compact (l.map dat)).length) [] := by
  unfold compR compT
  rw [List.map_append, List.map_map, List.map_replicate]
  have : dat ∘ undat = id := rfl
  rw [this, List.map_id]
  simp [dat]
theorem compact_a {g c : Nat} {l : List Txt} {bs b2 : BS} (hu : BUpd bs g (.rows (l.map strR) c 1 tS) g (.rows ((compR l).map strR) c 1 tS) b2) (hl : l.length ≤ 1000000) (hc : l.length ≤ c) :
    ACalls Try.prog 57 [.ms g 0 l.length c] bs fun y b => y = .ms g 0 (compT l).length c ∧ b = b2 := by
  intro w us hs hx hb
  have h0 := hx 0 _ rfl
  have hus : us = #[.slice (some ⟨g, 0, none⟩) l.length c] := arg1 hs (by
    generalize us.getD 0 undef = u at h0
    cases h0; rfl)
  subst hus
  have hH := holds_rows hb hu.mem
  have hcc := Try.slices_Compact_string g 0 c (l.map dat) w hH (by simp; omega) (by simpa using hc)
  rw [List.length_map] at hcc
  refine hcc.mono fun e w' ⟨he, n, hw⟩ => ?_
  subst he; subst hw
  have hcl : (Lib.compact (l.map dat)).length = (compT l).length := by simp [compT]
  obtain ⟨h1, h2⟩ := put_rows hb (compR_len l) hu n #[]
  rw [Go.Sort.grow_empty, compR_dat, List.length_map] at h1 h2
  refine ⟨_, _, _, rfl, ⟨rfl, rfl⟩, ?_, h1, h2⟩
  rw [hcl]; exact .ms
theorem empties_a (K : Nat) (n : Nat) : True := trivial
end Go.Proofs.Ytnkkfmnpkgjabaa.X
