/- Clone, Delete, Insert at slices of funds. -/
import Derived.Test.YtlgebdoadfljhaaAsk
namespace Go.Proofs.Ytlgebdoadfljhaa
open Go.RowKit
set_option linter.unusedVariables false
set_option linter.unusedSimpArgs false

theorem info41a : (Try.prog.info? 41).map (fun i => (i.zero, i.size, i.bytes)) = some (some (.agg #[.string ⟨#[]⟩, .string ⟨#[]⟩, .int .i64 0]), 3, 40) := by kernel_rfl
def rowsF (fs : List Fund) : List Value := (fs.map Fund.row).flatten
theorem rowsF_len (fs : List Fund) : (rowsF fs).length = fs.length * 3 := by
  unfold rowsF; rw [flat_length (size := 3) (by simp [Fund.row]), List.length_map]
theorem rowsF_ones (fs : List Fund) : ∀ v ∈ rowsF fs, v.oneCell' = true := flat_ones (by intro r hr; obtain ⟨f, _, rfl⟩ := List.mem_map.1 hr; exact f.row_ones)

theorem own_ne {w : World} {base g n size : Nat} {e : TypeId} {v : Value} {xs : List Value} (h : w.ownsRow base e size v n xs) (hb : g < base) : g ∉ v.ownBlock.toList := by
  rcases h.2 with ⟨rfl, _⟩ | ⟨g', cap, cur, rfl, hg, _⟩
  · simp [Value.ownBlock]
  · simp [Value.ownBlock]; omega
theorem own_ge {w : World} {base B n size : Nat} {e : TypeId} {v : Value} {xs : List Value} {X : List Nat} (h : w.ownsRow base e size v n xs) (hb : B ≤ base) : ∀ g ∈ v.ownBlock.toList, g ∈ X ∨ B ≤ g := by
  rcases h.2 with ⟨rfl, _⟩ | ⟨g', cap, cur, rfl, hg, _⟩
  · simp [Value.ownBlock]
  · simp [Value.ownBlock]; omega
/-- What a call hands back: a row of funds of its own. -/
def OwnF (B : Nat) (fs : List Fund) (e : Ending) (w' : World) : Prop := ∃ v, e = .returned v ∧ w'.ownsRow B 41 3 v fs.length (rowsF fs)
set_option maxRecDepth 10000 in
set_option maxHeartbeats 400000 in
theorem clone_any (X : List Nat) (A : Option Addr) (c : Nat) (fs : List Fund) (w : World) (hs : Sl w X A 3 (fs.map Fund.row)) (hn : fs.length ≤ 1000000) :
    Calls Try.prog 44 #[.slice A fs.length c] w fun e w' => OwnF w.heap.size fs e w' ∧ Kp [] w w' := by
  have HS := Lib.hid hs
  have HN := Lib.hid hn
  clear hs hn
  cases A with
  | none =>
    have hE : ∀ (w : World) (n : Nat), (binOp .eql 23 (.slice none n c) (.slice none 0 0)).run Try.prog w = .ok (.bool true) w := fun w n => Lib.run_eql_slice_nil (P := Try.prog) w 23 41 none n c 0 0 Try.underlying23
    have h0 : fs = [] := by
      rcases Nat.eq_zero_or_pos fs.length with h | h
      · exact List.eq_nil_of_length_eq_zero h
      · obtain ⟨g, o, h, _⟩ := HS.out.at_ (by simpa using h)
        cases h
    subst h0
    go_enter Try.func44, Try.ntmps44
    go_wp2
    go_ret
    exact ⟨⟨_, rfl, rfl, .inl ⟨rfl, rfl⟩⟩, Kp.refl _ _⟩
  | some ad =>
    have hE : ∀ (w : World) (n : Nat), (binOp .eql 23 (.slice (some ad) n c) (.slice none 0 0)).run Try.prog w = .ok (.bool false) w := fun w n => Lib.run_eql_slice_nil (P := Try.prog) w 23 41 (some ad) n c 0 0 Try.underlying23
    generalize hL : fs.length = n at *
    have HL := Lib.hid hL
    clear hL
    go_enter Try.func44, Try.ntmps44
    go_wp2_with (first
      | ((with_reducible refine at_dst (N := 5) rfl ?_); refine ev_value rfl (v := .slice (some ⟨w.heap.size, 0, none⟩) 0 0) (w1 := w.alloc (.cells #[] 41)) (by kernel_rfl) ?_)
      | (at_builtin
         have hown : (w.alloc (.cells #[] 41)).ownsRow w.heap.size 41 3 (.slice (some ⟨w.heap.size, 0, none⟩) 0 0) 0 [] := ⟨rfl, .inr ⟨w.heap.size, 0, #[], rfl, Nat.le_refl _, Blk.new w 41 [], Nat.le_refl _, Nat.zero_le _, rfl, rfl⟩⟩
         refine ev_append_any rfl (.tmp 5) (.tmp 6) 23 rfl w.heap.size 41 _ 3 40 Try.underlying23 info41a rfl (by omega) _ 0 [] rfl hown (some ad) n c rfl (rowsF fs) (by rw [rowsF_len, HL.out]) (fun hp => ?_) (rowsF_ones fs) (by have := HN.out; omega) (by have := HN.out; omega) (by simp) ?_
         · obtain ⟨g, o, hA, _, _, hr⟩ := HS.out.flat (by rw [List.length_map, HL.out]; exact hp)
           exact ⟨g, o, hA, (Kp.alloc (X := []) _ _).range hr (by simp)⟩
         intro v1 w1 hown1 hk1 hat1))
    go_ret
    exact ⟨⟨v1, rfl, by simpa [HL.out] using hown1⟩, (Kp.alloc _ _).then_ hk1 (own_ge hown (Nat.le_refl _))⟩
end Go.Proofs.Ytlgebdoadfljhaa
