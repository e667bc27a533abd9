/- The bag of messages: what each of its methods does to the ring. -/
import Derived.Test.YthociaoflpdeaaaLib
namespace Go.Proofs.Ythociaoflpdeaaa
open Go.RowKit
set_option linter.unusedVariables false
set_option linter.unusedSimpArgs false

def zmsg : List Value := [.int .i64 0, .int .i64 0, .int .i64 0, .int .i64 0, .int .i64 0, .int .i64 0, .bool false, .int .i64 0, .slice none 0 0, .string ⟨#[]⟩]

theorem info28 : (Try.prog.info? 28).map (·.size) = some 10 := by kernel_rfl

/-- A message's cells. -/
structure Cells10 (m : List Value) : Prop where
  len : m.length = 10
  ones : ∀ v ∈ m, v.oneCell' = true
  typed : ∃ (k f t r i p : Int) (y : Bool) (c : Int) (A : Option Addr) (n cap : Nat) (s : ByteArray),
    m = [.int .i64 k, .int .i64 f, .int .i64 t, .int .i64 r, .int .i64 i, .int .i64 p, .bool y, .int .i64 c, .slice A n cap, .string s]
theorem Cells10.mk_ (k f t r i p : Int) (y : Bool) (c : Int) (A : Option Addr) (n cap : Nat) (s : ByteArray) :
    Cells10 [.int .i64 k, .int .i64 f, .int .i64 t, .int .i64 r, .int .i64 i, .int .i64 p, .bool y, .int .i64 c, .slice A n cap, .string s] :=
  ⟨rfl, by simp [Value.oneCell'], ⟨_, _, _, _, _, _, _, _, _, _, _, _, rfl⟩⟩
theorem cells_zmsg : Cells10 zmsg := Cells10.mk_ _ _ _ _ _ _ _ _ _ _ _ _

/-- Block b is a bag: f its first place, n messages, lost lost; S j: what lies j places behind the first. -/
structure Ring (w : World) (b f n : Nat) (lost : Nat) (S : Nat → List Value) : Prop where
  hf : f < 200
  hn : n ≤ 200
  there : w.there b 0 2003
  cf : w.cell? ⟨b, 2000, none⟩ = some (.int .i64 f)
  cn : w.cell? ⟨b, 2001, none⟩ = some (.int .i64 n)
  cl : w.cell? ⟨b, 2002, none⟩ = some (.int .i64 lost)
  ms : ∀ j, j < 200 → Cells10 (S j)
  at_ : ∀ j, j < 200 → w.rangeAt b (((f + j) % 200) * 10) (S j)

section
variable {X : List Nat} {w w' : World} {b f n lost : Nat} {S : Nat → List Value}
theorem Ring.lt (h : Ring w b f n lost S) : b < w.heap.size := World.block_lt_of_cell? w _ h.cf
theorem Ring.keep (h : Ring w b f n lost S) (k : Kp X w w') (hb : b ∉ X) : Ring w' b f n lost S :=
  ⟨h.hf, h.hn, k.there h.there hb, k.cell h.cf hb, k.cell h.cn hb, k.cell h.cl hb, h.ms, fun j hj => k.range (h.at_ j hj) hb⟩
def upd (S : Nat → List Value) (j : Nat) (m : List Value) : Nat → List Value := fun i => if i = j then m else S i
theorem Ring.slot (h : Ring w b f n lost S) {j : Nat} (hj : j < 200) {m : List Value} (hm : Cells10 m) : Ring (w.setCells b (((f + j) % 200) * 10) m) b f n lost (upd S j m) := by
  have hml := hm.1
  have hlt : ((f + j) % 200) * 10 + 10 ≤ 2000 := by omega
  refine ⟨h.hf, h.hn, World.there_setCells h.there _ _ _, ?_, ?_, ?_, fun i hi => ?_, fun i hi => ?_⟩
  · rw [setCells_head (by right; right; simp only; omega)]; exact h.cf
  · rw [setCells_head (by right; right; simp only; omega)]; exact h.cn
  · rw [setCells_head (by right; right; simp only; omega)]; exact h.cl
  · unfold upd; split
    · exact hm
    · exact h.ms i hi
  · unfold upd
    split
    · rename_i e; subst e
      exact World.rangeAt_setCells_same _ _ _ _ (fun k hk => by
        have := h.there ((f + i) % 200 * 10 + k) (by omega)
        simpa using this)
    · rename_i e
      have hS := (h.ms i hi).1
      have hf := h.hf
      exact World.rangeAt_setCells_apart (h.at_ i hi) _ _ _ (by right; rw [hS, hml]; omega)
theorem there_setCell {w : World} {b o n : Nat} (h : w.there b o n) (c p : Nat) (v : Value) : (w.setCell ⟨c, p, none⟩ v).there b o n := World.there_setCells h c p [v]
theorem Ring.setF (h : Ring w b f n lost S) {f' : Nat} (hf : f' < 200) (v : Value) (hv : v = .int .i64 f') : Ring (w.setCell ⟨b, 2000, none⟩ v) b f' n lost (fun j => S ((f' + j + (200 - f)) % 200)) := by
  subst hv
  have h0 := h.hf
  refine ⟨hf, h.hn, there_setCell h.there _ _ _, World.cell?_setCell_same _ _ _ h.cf, ?_, ?_, fun j _ => h.ms _ (by omega), fun j hj => ?_⟩
  · rw [World.cell?_setCell_other _ _ _ _ (by simp)]; exact h.cn
  · rw [World.cell?_setCell_other _ _ _ _ (by simp)]; exact h.cl
  · have := h.at_ ((f' + j + (200 - f)) % 200) (by omega)
    rw [show (f + (f' + j + (200 - f)) % 200) % 200 = (f' + j) % 200 by omega] at this
    have hl := (h.ms ((f' + j + (200 - f)) % 200) (by omega)).1
    intro k v hv
    rw [World.cell?_setCell_other _ _ _ _ (by
      have := (List.getElem?_eq_some_iff.1 hv).1
      simp <;> omega)]
    exact this k v hv
theorem Ring.setN (h : Ring w b f n lost S) {n' : Nat} (hn : n' ≤ 200) (v : Value) (hv : v = .int .i64 n') : Ring (w.setCell ⟨b, 2001, none⟩ v) b f n' lost S := by
  subst hv
  refine ⟨h.hf, hn, there_setCell h.there _ _ _, ?_, World.cell?_setCell_same _ _ _ h.cn, ?_, h.ms, fun j hj => ?_⟩
  · rw [World.cell?_setCell_other _ _ _ _ (by simp)]; exact h.cf
  · rw [World.cell?_setCell_other _ _ _ _ (by simp)]; exact h.cl
  · have hl := (h.ms j hj).1
    intro k v hv
    rw [World.cell?_setCell_other _ _ _ _ (by
      have := (List.getElem?_eq_some_iff.1 hv).1
      simp <;> omega)]
    exact h.at_ j hj k v hv
theorem Ring.setL (h : Ring w b f n lost S) {l' : Nat} (v : Value) (hv : v = .int .i64 l') : Ring (w.setCell ⟨b, 2002, none⟩ v) b f n l' S := by
  subst hv
  refine ⟨h.hf, h.hn, there_setCell h.there _ _ _, ?_, ?_, World.cell?_setCell_same _ _ _ h.cl, h.ms, fun j hj => ?_⟩
  · rw [World.cell?_setCell_other _ _ _ _ (by simp)]; exact h.cf
  · rw [World.cell?_setCell_other _ _ _ _ (by simp)]; exact h.cn
  · have hl := (h.ms j hj).1
    intro k v hv
    rw [World.cell?_setCell_other _ _ _ _ (by
      have := (List.getElem?_eq_some_iff.1 hv).1
      simp <;> omega)]
    exact h.at_ j hj k v hv
end

theorem len_any (b : Nat) (n : Int) (w : World) (h : w.cell? ⟨b, 2001, none⟩ = some (.int .i64 n)) :
    Calls Try.prog 9 #[.pointer (some ⟨b, 0, none⟩)] w fun e w' => e = .returned (.int .i64 n) ∧ w = w' := by
  go_enter Try.func9, Try.ntmps9
  go_wp2
  go_ret
  exact ⟨rfl, rfl⟩
theorem lost_any (b : Nat) (n : Int) (w : World) (h : w.cell? ⟨b, 2002, none⟩ = some (.int .i64 n)) :
    Calls Try.prog 10 #[.pointer (some ⟨b, 0, none⟩)] w fun e w' => e = .returned (.int .i64 n) ∧ w = w' := by
  go_enter Try.func10, Try.ntmps10
  go_wp2
  go_ret
  exact ⟨rfl, rfl⟩

theorem at_int (b : Nat) (f i : Int) (w : World) (h : w.cell? ⟨b, 2000, none⟩ = some (.int .i64 f)) (hf0 : 0 ≤ f) (hf : f < 200) (hi0 : 0 ≤ i) (hi : i ≤ 200) :
    Calls Try.prog 20 #[.pointer (some ⟨b, 0, none⟩), .int .i64 i] w fun e w' => e = .returned (.pointer (some ⟨b, ((f + i) % 200).toNat * 10, none⟩)) ∧ ∃ n, w' = w.drewN n := by
  go_enter Try.func20, Try.ntmps20
  go_wp2
  go_quiet (fail)
  go_wp2
  go_ret
  exact ⟨rfl, _, rfl⟩
/-- The place of j: the world stays but for draws. -/
theorem at_nat (b f j : Nat) (i : Int) (w : World) (h : w.cell? ⟨b, 2000, none⟩ = some (.int .i64 f)) (hf : f < 200) (hij : i = j) (hj : j ≤ 200) :
    Calls Try.prog 20 #[.pointer (some ⟨b, 0, none⟩), .int .i64 i] w fun e w' => e = .returned (.pointer (some ⟨b, (f + j) % 200 * 10, none⟩)) ∧ ∃ n, w' = w.drewN n := by
  refine (at_int b f i w h (by omega) (by omega) (by omega) (by omega)).mono ?_
  rintro e w' ⟨rfl, hw⟩
  refine ⟨?_, hw⟩
  rw [show ((f : Int) + i) % 200 = (((f + j) % 200 : Nat) : Int) by omega]
  rfl
end Go.Proofs.Ythociaoflpdeaaa
