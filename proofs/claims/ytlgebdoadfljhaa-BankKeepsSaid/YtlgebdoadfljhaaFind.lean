/- Where a fund stands: the binary search, and what an account has. -/
import Derived.Test.YtlgebdoadfljhaaStr
namespace Go.Proofs.Ytlgebdoadfljhaa
open Go.RowKit
set_option linter.unusedVariables false
set_option linter.unusedSimpArgs false

structure Fund where
  acc : ByteArray
  ast : ByteArray
  amt : Int
def Fund.row (f : Fund) : List Value := [.string f.acc, .string f.ast, .int .i64 f.amt]
def Fund.key (f : Fund) : ByteArray × ByteArray := (f.acc, f.ast)
theorem Fund.row_len (f : Fund) : f.row.length = 3 := rfl
theorem Fund.row_ones (f : Fund) : ∀ v ∈ f.row, v.oneCell' = true := by simp [Fund.row, Value.oneCell']
/-- All before p are less than t, no other one is. -/
structure Parts (fs : List Fund) (t : ByteArray × ByteArray) (p : Nat) : Prop where
  le : p ≤ fs.length
  lt : ∀ i f, fs[i]? = some f → i < p → fcmp f.key t < 0
  ge : ∀ i f, fs[i]? = some f → p ≤ i → 0 ≤ fcmp f.key t
def foundAt (fs : List Fund) (t : ByteArray × ByteArray) (p : Nat) : Bool := match fs[p]? with | some f => fcmp f.key t == 0 | none => false

theorem info41 : (Try.prog.info? 41).map (·.size) = some 3 := by kernel_rfl

set_option maxRecDepth 100000 in
set_option maxHeartbeats 1000000 in
theorem bsearch_any (X : List Nat) (A : Option Addr) (c p : Nat) (fs : List Fund) (t1 t2 : ByteArray) (tn : Int) (w : World) (hs : Sl w X A 3 (fs.map Fund.row)) (hp : Parts fs (t1, t2) p) (hn : fs.length ≤ 1000000) :
    Calls Try.prog 64 #[.slice A fs.length c, .agg #[.string t1, .string t2, .int .i64 tn], .func (.func 43) #[] #[]] w fun e w' => e = .returned (.tuple #[.int .i64 p, .bool (foundAt fs (t1, t2) p)]) ∧ Kp [] w w' := by
  have HS := Lib.hid hs
  have HP := Lib.hid hp
  have hple := hp.le
  clear hs hp
  generalize hL : fs.length = n at *
  have HL := Lib.hid hL
  clear hL
  go_enter Try.func64, Try.ntmps64
  go_wp2_with (first
    | ((with_reducible refine at_dst (N := 4) rfl ?_); refine ev_box rfl 41 _ rfl _ rfl [.string t1, .string t2, .int .i64 tn] rfl ?_; intro g1 w1 hg1 hb1 hk1))
  have HB1 := Lib.hid hb1
  have HK1 := Lib.hid hk1
  clear hb1 hk1
  go_loopw [9, 10] (fun v9 v10 wr => ∃ i j : Nat, i ≤ p ∧ p ≤ j ∧ j ≤ n ∧ v9 = .int .i64 i ∧ v10 = .int .i64 j ∧ Hid (Kp [] w1 wr)) (fun v9 v10 _ => (intOf v10 - intOf v9).toNat)
  case atStart => exact ⟨0, n, Nat.zero_le _, hple, Nat.le_refl _, rfl, rfl, Kp.refl _ _⟩
  case round =>
    obtain ⟨i, j, hip, hpj, hjn, rfl, rfl, HK⟩ := hrel
    by_cases hlt : i < j
    · go_wp2_with fail
      obtain ⟨h, hh⟩ : ∃ h, h = (i + j) / 2 := ⟨_, rfl⟩
      have hhi : i ≤ h ∧ h < j := by omega
      rw [show ((i : Int) + j) / 2 = (h : Int) by omega]
      obtain ⟨f, hf⟩ : ∃ f, fs[h]? = some f := ⟨_, List.getElem?_eq_getElem (by rw [HL.out]; omega)⟩
      obtain ⟨g, o, rfl, _, hgl, hr, _⟩ := HS.out.get (i := h) (r := f.row) (by rw [List.getElem?_map, hf]; rfl)
      have hkk : Kp [] w wr := HK1.out.trans HK.out
      have hrr := hkk.range hr (by simp)
      have c0 : wr.cell? ⟨g, o + h * 3, none⟩ = some (.string f.acc) := hrr 0 _ rfl
      have c1 : wr.cell? ⟨g, o + h * 3 + 1, none⟩ = some (.string f.ast) := hrr 1 _ rfl
      have c2 : wr.cell? ⟨g, o + h * 3 + 2, none⟩ = some (.int .i64 f.amt) := hrr 2 _ rfl
      have d0 : wr.cell? ⟨g1, 0, none⟩ = some (.string t1) := (HB1.out.keep HK.out (by simp)).cell 0
      have d1 : wr.cell? ⟨g1, 1, none⟩ = some (.string t2) := (HB1.out.keep HK.out (by simp)).cell 1
      have d2 : wr.cell? ⟨g1, 2, none⟩ = some (.int .i64 tn) := (HB1.out.keep HK.out (by simp)).cell 2
      have hlo := HP.out.lt h f hf
      have hge := HP.out.ge h f hf
      simp only [Fund.key] at hlo hge
      clear hr hrr hkk hf hh
      obtain ⟨hih, hhj⟩ := hhi
      have hhn : h < n := by omega
      have h0h : (0 : Int) ≤ h := by omega
      have hhn' : (h : Int) < n := by omega
      refine wp_region_still_tail 6 (by kernel_rfl) (by kernel_rfl) ?_
      simp only [List.take_succ_cons, List.take_zero, List.drop_succ_cons, List.drop_zero]
      iterate 6 still_step
      refine wpStill_nil ?_
      change wpList _ _ _ _ _ wr.drew
      clear c0 c1 c2 d0 d1 d2
      by_cases hhp : h < p
      · have hd : decide (fcmp (f.acc, f.ast) (t1, t2) < 0) = true := by simpa using hlo hhp
        clear hlo hge
        go_wp2_with (first | (go_at_call 43; refine (order_any f.acc f.ast t1 t2 f.amt tn _).mono ?_; rintro e w3 ⟨rfl, hk3⟩))
        exact ⟨⟨h + 1, j, by omega, hpj, hjn, by go_num, rfl, HK.out.trans ((Kp.drew _).trans hk3)⟩, by simp [intOf]; omega⟩
      · have hd : decide (fcmp (f.acc, f.ast) (t1, t2) < 0) = false := by have := hge (by omega); simp; omega
        clear hlo hge
        go_wp2_with (first | (go_at_call 43; refine (order_any f.acc f.ast t1 t2 f.amt tn _).mono ?_; rintro e w3 ⟨rfl, hk3⟩))
        exact ⟨⟨i, h, hip, by omega, by omega, rfl, rfl, HK.out.trans ((Kp.drew _).trans hk3)⟩, by simp [intOf]; omega⟩
    · obtain rfl : i = p := by omega
      obtain rfl : j = i := by omega
      have hkk : Kp [] w wr := HK1.out.trans HK.out
      have HKK := Lib.hid hkk
      by_cases hpn : j < n
      · obtain ⟨f, hf⟩ : ∃ f, fs[j]? = some f := ⟨_, List.getElem?_eq_getElem (by rw [HL.out]; omega)⟩
        have hfound := Lib.hid (show foundAt fs (t1, t2) j = (fcmp (f.acc, f.ast) (t1, t2) == 0) by unfold foundAt; rw [hf]; rfl)
        obtain ⟨g, o, rfl, _, hgl, hr, _⟩ := HS.out.get (i := j) (r := f.row) (by rw [List.getElem?_map, hf]; rfl)
        have hrr := hkk.range hr (by simp)
        have c0 : wr.cell? ⟨g, o + j * 3, none⟩ = some (.string f.acc) := hrr 0 _ rfl
        have c1 : wr.cell? ⟨g, o + j * 3 + 1, none⟩ = some (.string f.ast) := hrr 1 _ rfl
        have c2 : wr.cell? ⟨g, o + j * 3 + 2, none⟩ = some (.int .i64 f.amt) := hrr 2 _ rfl
        have d0 : wr.cell? ⟨g1, 0, none⟩ = some (.string t1) := (HB1.out.keep HK.out (by simp)).cell 0
        have d1 : wr.cell? ⟨g1, 1, none⟩ = some (.string t2) := (HB1.out.keep HK.out (by simp)).cell 1
        have d2 : wr.cell? ⟨g1, 2, none⟩ = some (.int .i64 tn) := (HB1.out.keep HK.out (by simp)).cell 2
        clear hr hrr hkk hf
        have hpn' : (j : Int) < n := by omega
        have h0h : (0 : Int) ≤ j := by omega
        have hdn : decide ((j : Int) < n) = true := by simpa using hpn'
        go_wp2_with fail
        go_region_held3 (fun w' => w'.cell? ⟨g, o + j * 3, none⟩ = some (.string f.acc) ∧ w'.cell? ⟨g, o + j * 3 + 1, none⟩ = some (.string f.ast) ∧ w'.cell? ⟨g, o + j * 3 + 2, none⟩ = some (.int .i64 f.amt) ∧ w'.cell? ⟨g1, 0, none⟩ = some (.string t1) ∧ w'.cell? ⟨g1, 1, none⟩ = some (.string t2) ∧ w'.cell? ⟨g1, 2, none⟩ = some (.int .i64 tn)) (first | exact ⟨c0, c1, c2, d0, d1, d2⟩ | exact ⟨hk3.cell c0 (by simp), hk3.cell c1 (by simp), hk3.cell c2 (by simp), hk3.cell d0 (by simp), hk3.cell d1 (by simp), hk3.cell d2 (by simp)⟩) (first | (go_at_call 43; refine (order_any f.acc f.ast t1 t2 f.amt tn _).mono ?_; rintro e w3 ⟨rfl, hk3⟩))
        all_goals clear c0 c1 c2 d0 d1 d2
        all_goals go_wp2_with fail
        all_goals go_ret2
        all_goals exact ⟨by rw [hfound.out]; rfl, HKK.out.trans ((Kp.drew _).trans hk3)⟩
      · have hfound := Lib.hid (show foundAt fs (t1, t2) j = false by unfold foundAt; rw [List.getElem?_eq_none (by rw [HL.out]; omega)])
        have hdn : decide ((j : Int) < n) = false := by simp; omega
        go_wp2_with fail
        go_quiet (fail)
        go_wp2_with fail
        go_ret2
        exact ⟨by rw [hfound.out]; rfl, HKK.out.trans (Kp.drewN _ _)⟩
end Go.Proofs.Ytlgebdoadfljhaa
