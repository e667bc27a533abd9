/- Take, Give, Move, Balance at a book. -/
import Derived.Test.YtlgebdoadfljhaaPlain
namespace Go.Proofs.Ytlgebdoadfljhaa
open Go.RowKit
set_option linter.unusedVariables false
set_option linter.unusedSimpArgs false

structure Fit (b : Bank) : Prop where
  sorted : Sorted b.funds
  smalls : Smalls b.funds
  funds : b.funds.length ≤ 1000
  accs : b.accs.length ≤ 1000
def setB (b : Bank) (t : Key) (n : Int) : Bank := { b with funds := setF b.funds t n }
theorem amtF_small {fs : List Fund} (h : Smalls fs) (t : Key) : 0 ≤ amtF fs t ∧ amtF fs t ≤ 1125899906842624 := by
  unfold amtF amtAt
  cases hq : fs[posF fs t]? with
  | none => simp
  | some f =>
    have := h f (List.mem_of_getElem? hq)
    simp only
    split <;> omega
section
variable {X : List Nat} {b : Bank} {A1 A : Option Addr} {c1 c : Nat} {w : World}
theorem put_bk (who ast : ByteArray) (by_ : Int) (hb : Bk w X b A1 c1 A c) (hX : ∀ x ∈ X, x < w.heap.size) (hf : Fit b) (h1 : -2305843009213693952 ≤ by_ ∧ by_ ≤ 2305843009213693952) :
    Calls Try.prog 27 #[.agg (bkCells b A1 c1 A c).toArray, .string who, .string ast, .int .i64 by_] w fun e w' => (∃ A' c', e = .returned (.agg (bkCells (setB b (who, ast) (amtF b.funds (who, ast) + by_)) A1 c1 A' c').toArray) ∧ Bk w' X (setB b (who, ast) (amtF b.funds (who, ast) + by_)) A1 c1 A' c') ∧ Kp [] w w' := by
  have ha := amtF_small hf.smalls (who, ast)
  refine (put_any X b.num b.tm by_ A1 none A b.accs.length c1 0 0 c (posF b.funds (who, ast)) b.funds who ast w hb.funds (posF_parts hf.sorted _) (by have := hf.funds; omega) ⟨by unfold amtF at ha; omega, by unfold amtF at ha; omega⟩).mono ?_
  rintro e w' ⟨⟨v, rfl, hown⟩, hk⟩
  refine ⟨?_, hk⟩
  have hA := hb.accs.keep0 hk
  change w'.ownsRow w.heap.size 41 3 v (setB b (who, ast) (amtF b.funds (who, ast) + by_)).funds.length (rowsF (setB b (who, ast) (amtF b.funds (who, ast) + by_)).funds) at hown
  rcases hown.2 with ⟨hv, h0⟩ | ⟨g, cap, cur, hv, _⟩
  · subst hv
    refine ⟨none, 0, ?_, hA, ?_, hb.cap, hb.none⟩
    · unfold bkCells; rw [h0]; rfl
    · rw [show (setB b (who, ast) (amtF b.funds (who, ast) + by_)).funds = [] from List.eq_nil_of_length_eq_zero h0]
      exact Sl.nil _ _ _ _
  · subst hv
    exact ⟨_, cap, rfl, hA, Sl.of_own hown rfl (by simp) (fun r hr => by obtain ⟨f, _, rfl⟩ := List.mem_map.1 hr; rfl) (fun r hr => by obtain ⟨f, _, rfl⟩ := List.mem_map.1 hr; exact f.row_ones) hX, hb.cap, hb.none⟩
theorem has_bk (who ast : ByteArray) (hb : Bk w X b A1 c1 A c) (hf : Fit b) :
    Calls Try.prog 29 #[.agg (bkCells b A1 c1 A c).toArray, .string who, .string ast] w fun e w' => e = .returned (.int .i64 (amtF b.funds (who, ast))) ∧ Kp [] w w' :=
  has_any X b.num b.tm _ _ A c (posF b.funds (who, ast)) b.funds who ast w hb.funds (posF_parts hf.sorted _) (by have := hf.funds; omega)
theorem asks_bk (who ast : ByteArray) (n : Int) (hb : Bk w X b A1 c1 A c) (hf : Fit b) (ha : ast.size ≤ 9223372036854775807) :
    Calls Try.prog 25 #[.agg (bkCells b A1 c1 A c).toArray, .string who, .string ast, .int .i64 n] w fun e w' => e = .returned (.int .i64 (asksE b.accs who ast n)) ∧ Kp [] w w' :=
  asks_any X b.num b.tm n _ _ A1 c1 b.accs who ast w hb.accs (by have := hf.accs; omega) ha
theorem total_bk (ast : ByteArray) (hb : Bk w X b A1 c1 A c) (hf : Fit b) :
    Calls Try.prog 15 #[.agg (bkCells b A1 c1 A c).toArray, .string ast] w fun e w' => e = .returned (.int .i64 (sumA b.funds ast)) ∧ Kp [] w w' :=
  total_any X b.num b.tm _ A none c 0 b.funds ast w hb.funds hf.funds hf.smalls
theorem assets_bk (hb : Bk w X b A1 c1 A c) (hX : ∀ x ∈ X, x < w.heap.size) (hf : Fit b) :
    Calls Try.prog 26 #[.agg (bkCells b A1 c1 A c).toArray] w fun e w' => AstR X b.funds e w' ∧ Kp [] w w' :=
  assets_any X b.num b.tm _ A none c 0 b.funds w hb.funds hf.funds hX
end
theorem asks_zero {accs : List ByteArray} {who ast : ByteArray} {n : Int} (h : asksE accs who ast n = 0) : 1 ≤ n ∧ n ≤ 1125899906842624 := by
  unfold asksE maxAmount at h
  by_cases h1 : nameB ast = false ∨ n < 1 ∨ 1125899906842624 < n
  · rw [if_pos h1] at h; omega
  · omega
def balB (b : Bank) (who ast : ByteArray) : Int × Int := if asksE b.accs who ast 1 = 0 then (amtF b.funds (who, ast), 0) else (0, asksE b.accs who ast 1)
def takeB (b : Bank) (who ast : ByteArray) (n : Int) : Bank × Int :=
  if asksE b.accs who ast n = 0 then (if amtF b.funds (who, ast) < n then (b, 6) else (setB b (who, ast) (amtF b.funds (who, ast) - n), 0)) else (b, asksE b.accs who ast n)
set_option maxRecDepth 100000 in
set_option maxHeartbeats 1000000 in
theorem balance_any (X : List Nat) (b : Bank) (v : Value) (who ast : ByteArray) (w : World) (hb : BkV w X b v) (hf : Fit b) (ha : ast.size ≤ 9223372036854775807) :
    Calls Try.prog 16 #[v, .string who, .string ast] w fun e w' => e = .returned (.tuple #[.int .i64 (balB b who ast).1, .int .i64 (balB b who ast).2]) ∧ Kp [] w w' := by
  obtain ⟨A1, c1, A, c, rfl, hk⟩ := hb
  have HB := Lib.hid hk
  have HF := Lib.hid hf
  clear hk hf
  generalize hE : asksE b.accs who ast 1 = k at *
  have E := Lib.hid (show balB b who ast = if k = 0 then (amtF b.funds (who, ast), 0) else (0, k) by unfold balB; rw [hE])
  have EK := Lib.hid hE
  clear hE
  go_enter Try.func16, Try.ntmps16
  go_wp2_with (first
    | ((with_reducible refine at_dst (N := 3) rfl ?_); refine ev_box rfl 26 _ rfl _ rfl (bkCells b A1 c1 A c) rfl ?_; intro g3 w1 hg3 hb3 hk1; have HB3 := Lib.hid hb3; have HK1 := Lib.hid hk1; clear hb3 hk1)
    | ((with_reducible refine at_dst (N := 9) rfl ?_); refine ev_load rfl 26 _ rfl g3 0 rfl (bkCells b A1 c1 A c) HB3.out.range Try.underlying26 rfl info26 ?_)
    | (go_at_call 25; refine (asks_bk who ast 1 (HB.out.keep0 HK1.out) HF.out ha).mono ?_; rintro e w2 ⟨rfl, hk2⟩; rw [EK.out])
    | ((with_reducible refine at_dst (N := 16) rfl ?_); refine ev_load rfl 26 _ rfl g3 0 rfl (bkCells b A1 c1 A c) (HB3.out.keep hk2 (by simp)).range Try.underlying26 rfl info26 ?_)
    | (go_at_call 29; refine (has_bk who ast (HB.out.keep0 (HK1.out.trans hk2)) HF.out).mono ?_; rintro e w3 ⟨rfl, hk3⟩))
  · rename_i h
    go_ret2
    rw [E.out, if_neg (by simpa using h)]
    exact ⟨rfl, HK1.out.trans hk2⟩
  · rename_i h
    go_ret2
    rw [E.out, if_pos (by simpa using h)]
    exact ⟨rfl, (HK1.out.trans hk2).trans hk3⟩
theorem more_lt {w w' : World} {X : List Nat} (HX : Hid (∀ x ∈ X, x < w.heap.size)) (k : Kp [] w w') (g : Nat) (hg : g < w'.heap.size) : ∀ x ∈ g :: X, x < w'.heap.size := fun x hx => by
  rcases List.mem_cons.1 hx with rfl | hx
  · exact hg
  · exact Nat.lt_of_lt_of_le (HX.out x hx) k.size
theorem bk_more {w w' : World} {X : List Nat} {b : Bank} {A1 A : Option Addr} {c1 c g : Nat} (HB : Hid (Bk w X b A1 c1 A c)) (k : Kp [] w w') (hg : w.heap.size ≤ g) : Bk w' (g :: X) b A1 c1 A c :=
  (HB.out.more (Y := g :: X) (by simp +contextual [hg])).keep0 k
/-- A new book, in a new block. -/
theorem bk_new {w w5 w9 : World} {X : List Nat} {b : Bank} {A1 A : Option Addr} {c1 c g : Nat} (hb : Bk w5 (g :: X) b A1 c1 A c) (hk2 : Kp [] w w5) (hk : Kp [g] w5 w9) (hg : w.heap.size ≤ g) :
    BkE X (b, 0) (.returned (.tuple #[.agg (bkCells b A1 c1 A c).toArray, .int .i64 0])) w9 ∧ Kp [] w w9 :=
  ⟨⟨_, rfl, A1, c1, A, c, rfl, (hb.keep hk (by simp)).more (by simp +contextual)⟩, hk2.then_ hk (by simp [hg])⟩
/-- The book goes back as it came, in a new block. -/
theorem bk_same {w w2 w9 : World} {X : List Nat} {b : Bank} {A1 A : Option Addr} {c1 c g : Nat} {r : Bank × Int} {k : Int} (HB : Hid (Bk w X b A1 c1 A c)) (hk2 : Kp [] w w2) (hk : Kp [g] w2 w9) (hg : w.heap.size ≤ g)
    (hr : r = (b, k)) {v : Value} (hv : v = .tuple #[.agg (bkCells b A1 c1 A c).toArray, .int .i64 k]) : BkE X r (.returned v) w9 ∧ Kp [] w w9 := by
  subst hr; subst hv
  have hk2 : Kp [] w w9 := hk2.then_ hk (by simp [hg])
  exact ⟨⟨_, rfl, A1, c1, A, c, rfl, HB.out.keep0 hk2⟩, hk2⟩
set_option maxRecDepth 100000 in
set_option maxHeartbeats 1000000 in
theorem take_any (X : List Nat) (b : Bank) (v : Value) (who ast : ByteArray) (n : Int) (w : World) (hb : BkV w X b v) (hX : ∀ x ∈ X, x < w.heap.size) (hf : Fit b) (ha : ast.size ≤ 9223372036854775807) :
    Calls Try.prog 17 #[v, .string who, .string ast, .int .i64 n] w fun e w' => BkE X (takeB b who ast n) e w' ∧ Kp [] w w' := by
  obtain ⟨A1, c1, A, c, rfl, hk⟩ := hb
  have HB := Lib.hid hk
  have HF := Lib.hid hf
  have HX := Lib.hid hX
  clear hk hf hX
  generalize hE : asksE b.accs who ast n = k at *
  have E := Lib.hid (show takeB b who ast n = if k = 0 then (if amtF b.funds (who, ast) < n then (b, 6) else (setB b (who, ast) (amtF b.funds (who, ast) - n), 0)) else (b, k) by unfold takeB; rw [hE])
  have EK := Lib.hid hE
  by_cases h0 : k = 0
  · subst h0
    have hn := asks_zero hE
    have hwr : IntKind.i64.wrap (-n) = -n := IntWalk.i64_in _ ⟨by omega, by omega⟩
    clear hE
    go_enter Try.func17, Try.ntmps17
    go_wp2_with (first
      | ((with_reducible refine at_dst (N := 4) rfl ?_); refine ev_box rfl 26 _ rfl _ rfl (bkCells b A1 c1 A c) rfl ?_; intro g4 w1 hg4 hb4 hk1)
      | ((with_reducible refine at_dst (N := 8) rfl ?_); refine ev_alloc rfl 26 rfl _ bookZ Try.zeroValue26 rfl ?_; intro g8 w2 hg8 hb8 hk2; have HB4 := Lib.hid (hb4.keep hk2 (by simp)); have HB8 := Lib.hid hb8; have HK2 := Lib.hid (hk1.trans hk2); have gl8 : w.heap.size ≤ g8 := (by have := hk1.size; omega); have hl8 := hb8.lt; clear hb4 hb8 hk1 hk2)
      | ((with_reducible refine at_dst (N := 11) rfl ?_); refine ev_load rfl 26 _ rfl g4 0 rfl (bkCells b A1 c1 A c) HB4.out.range Try.underlying26 rfl info26 ?_)
      | (go_at_call 25; refine (asks_bk who ast n (HB.out.keep0 HK2.out) HF.out ha).mono ?_; rintro e w3 ⟨rfl, hk3⟩; rw [EK.out])
      | ((with_reducible refine at_dst (N := 22) rfl ?_); refine ev_load rfl 26 _ rfl g4 0 rfl (bkCells b A1 c1 A c) (HB4.out.keep hk3 (by simp)).range Try.underlying26 rfl info26 ?_)
      | (go_at_call 29; refine (has_bk who ast (HB.out.keep0 (HK2.out.trans hk3)) HF.out).mono ?_; rintro e w4 ⟨rfl, hk4⟩)
      | ((with_reducible refine at_dst (N := 28) rfl ?_); refine ev_load rfl 26 _ rfl g4 0 rfl (bkCells b A1 c1 A c) ((HB4.out.keep hk3 (by simp)).keep hk4 (by simp)).range Try.underlying26 rfl info26 ?_)
      | ((with_reducible refine at_dst (N := 29) rfl ?_); refine ev_load rfl 26 _ rfl g4 0 rfl (bkCells b A1 c1 A c) ((HB4.out.keep hk3 (by simp)).keep hk4 (by simp)).range Try.underlying26 rfl info26 ?_)
      | (go_at_call 27; refine (put_bk who ast (-n) (bk_more HB ((HK2.out.trans hk3).trans hk4) gl8) (more_lt HX ((HK2.out.trans hk3).trans hk4) g8 (Nat.lt_of_lt_of_le (Nat.lt_of_lt_of_le hl8 hk3.size) hk4.size)) HF.out (by omega)).mono ?_; rintro e w5 ⟨⟨A', c', rfl, hb5⟩, hk5⟩)
      | ((with_reducible refine at_store (p := 8) rfl ?_); refine ev_store_all rfl 26 _ _ rfl g8 rfl (bkCells (setB b (who, ast) (amtF b.funds (who, ast) + -n)) A1 c1 A' c') rfl 26 bookZ (((HB8.out.keep hk3 (by simp)).keep hk4 (by simp)).keep hk5 (by simp)) rfl info26 (bk_ones _ _ _ _ _) ?_; intro w9 hb9 hk9)
      | ((with_reducible refine at_store (p := 8) rfl ?_); refine ev_store_all rfl 26 _ _ rfl g8 rfl (bkCells b A1 c1 A c) rfl 26 bookZ ((HB8.out.keep hk3 (by simp)).keep hk4 (by simp)) rfl info26 (bk_ones _ _ _ _ _) ?_; intro w9 hb9 hk9))
    · rename_i h
      refine ret_cell_tmp rfl rfl rfl hb9.range Try.underlying26 rfl info26 ?_
      exact bk_same HB ((HK2.out.trans hk3).trans hk4) hk9 gl8 (by rw [E.out, if_pos trivial, if_pos (by simpa using h)]) rfl
    · rename_i h
      refine ret_cell_tmp rfl rfl rfl hb9.range Try.underlying26 rfl info26 ?_
      rw [E.out, if_pos trivial, if_neg (by simpa using h), Int.sub_eq_add_neg]
      exact bk_new hb5 (((HK2.out.trans hk3).trans hk4).trans hk5) hk9 gl8
  · have e1 : (k != 0) = true := by simpa using h0
    have E2 := Lib.hid (show takeB b who ast n = (b, k) by rw [E.out, if_neg h0])
    clear h0 hE
    go_enter Try.func17, Try.ntmps17
    go_wp2_with (first
      | ((with_reducible refine at_dst (N := 4) rfl ?_); refine ev_box rfl 26 _ rfl _ rfl (bkCells b A1 c1 A c) rfl ?_; intro g4 w1 hg4 hb4 hk1)
      | ((with_reducible refine at_dst (N := 8) rfl ?_); refine ev_alloc rfl 26 rfl _ bookZ Try.zeroValue26 rfl ?_; intro g8 w2 hg8 hb8 hk2; have HB4 := Lib.hid (hb4.keep hk2 (by simp)); have HB8 := Lib.hid hb8; have HK2 := Lib.hid (hk1.trans hk2); have gl8 : w.heap.size ≤ g8 := (by have := hk1.size; omega); clear hb4 hb8 hk1 hk2)
      | ((with_reducible refine at_dst (N := 11) rfl ?_); refine ev_load rfl 26 _ rfl g4 0 rfl (bkCells b A1 c1 A c) HB4.out.range Try.underlying26 rfl info26 ?_)
      | (go_at_call 25; refine (asks_bk who ast n (HB.out.keep0 HK2.out) HF.out ha).mono ?_; rintro e w3 ⟨rfl, hk3⟩; rw [EK.out])
      | ((with_reducible refine at_dst (N := 19) rfl ?_); refine ev_load rfl 26 _ rfl g4 0 rfl (bkCells b A1 c1 A c) (HB4.out.keep hk3 (by simp)).range Try.underlying26 rfl info26 ?_)
      | ((with_reducible refine at_store (p := 8) rfl ?_); refine ev_store_all rfl 26 _ _ rfl g8 rfl (bkCells b A1 c1 A c) rfl 26 bookZ (HB8.out.keep hk3 (by simp)) rfl info26 (bk_ones _ _ _ _ _) ?_; intro w9 hb9 hk9))
    refine ret_cell_tmp rfl rfl rfl hb9.range Try.underlying26 rfl info26 ?_
    exact bk_same HB (HK2.out.trans hk3) hk9 gl8 E2.out rfl
end Go.Proofs.Ytlgebdoadfljhaa
