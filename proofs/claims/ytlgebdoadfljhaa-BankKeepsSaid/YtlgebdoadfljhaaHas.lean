/- What an account has; names; lists of strings; what is asked. -/
import Derived.Test.YtlgebdoadfljhaaFind
namespace Go.Proofs.Ytlgebdoadfljhaa
open Go.RowKit
set_option linter.unusedVariables false
set_option linter.unusedSimpArgs false

set_option maxHeartbeats 400000 in
theorem find_any (X : List Nat) (A : Option Addr) (c p : Nat) (fs : List Fund) (t1 t2 : ByteArray) (tn : Int) (w : World) (hs : Sl w X A 3 (fs.map Fund.row)) (hp : Parts fs (t1, t2) p) (hn : fs.length ≤ 1000000) :
    Calls Try.prog 42 #[.slice A fs.length c, .agg #[.string t1, .string t2, .int .i64 tn], .func (.func 43) #[] #[]] w fun e w' => e = .returned (.tuple #[.int .i64 p, .bool (foundAt fs (t1, t2) p)]) ∧ Kp [] w w' := by
  have HS := Lib.hid hs
  have HP := Lib.hid hp
  have HN := Lib.hid hn
  clear hs hp hn
  go_enter Try.func42, Try.ntmps42
  go_wp2_with (first
    | ((with_reducible refine at_dst (N := 4) rfl ?_); refine ev_box rfl 41 _ rfl _ rfl [.string t1, .string t2, .int .i64 tn] rfl ?_; intro g1 w1 hg1 hb1 hk1)
    | ((with_reducible refine at_dst (N := 9) rfl ?_); refine ev_load rfl 41 _ rfl g1 0 rfl [.string t1, .string t2, .int .i64 tn] hb1.range Try.underlying41 rfl info41 ?_)
    | (go_at_call 64; refine (bsearch_any X A c p fs t1 t2 tn _ (HS.out.keep0 hk1) HP.out HN.out).mono ?_; rintro e w2 ⟨rfl, hk2⟩))
  go_ret2
  exact ⟨rfl, hk1.trans hk2⟩

/-- The amount in place p, if it is the one that is sought. -/
def amtAt (fs : List Fund) (t : ByteArray × ByteArray) (p : Nat) : Int := match fs[p]? with | some f => if fcmp f.key t = 0 then f.amt else 0 | none => 0
theorem info26 : (Try.prog.info? 26).map (·.size) = some 5 := by kernel_rfl

set_option maxHeartbeats 400000 in
theorem has_any (X : List Nat) (num tm : Int) (va ve : Value) (A : Option Addr) (c p : Nat) (fs : List Fund) (who ast : ByteArray) (w : World) (hs : Sl w X A 3 (fs.map Fund.row)) (hp : Parts fs (who, ast) p) (hn : fs.length ≤ 1000000) :
    Calls Try.prog 29 #[.agg #[.int .i64 num, .int .i64 tm, va, .slice A fs.length c, ve], .string who, .string ast] w fun e w' => e = .returned (.int .i64 (amtAt fs (who, ast) p)) ∧ Kp [] w w' := by
  have HS := Lib.hid hs
  have HP := Lib.hid hp
  have HN := Lib.hid hn
  have hple := hp.le
  clear hs hp hn
  by_cases hf : foundAt fs (who, ast) p = true
  · have hx := hf
    unfold foundAt at hx
    cases hq : fs[p]? with
    | none => rw [hq] at hx; cases hx
    | some f =>
      rw [hq] at hx
      have hlt := (List.getElem?_eq_some_iff.1 hq).1
      have E := Lib.hid (show amtAt fs (who, ast) p = f.amt by unfold amtAt; rw [hq]; exact if_pos (by simpa using hx))
      obtain ⟨g, o, rfl, _, hgl, hr, _⟩ := HS.out.get (i := p) (r := f.row) (by rw [List.getElem?_map, hq]; rfl)
      have HR := Lib.hid hr
      have hpl : (p : Int) < fs.length := by omega
      have hp0 : (0 : Int) ≤ p := by omega
      have HF := Lib.hid hf
      clear hr hx hq hf
      go_enter Try.func29, Try.ntmps29
      go_wp2_with (first
        | ((with_reducible refine at_dst (N := 3) rfl ?_); refine ev_box rfl 26 _ rfl _ rfl [.int .i64 num, .int .i64 tm, va, .slice (some ⟨g, o, none⟩) fs.length c, ve] rfl ?_; intro g1 w1 hg1 hb1 hk1; have hc3 : w1.cell? ⟨g1, 3, none⟩ = some (.slice (some ⟨g, o, none⟩) fs.length c) := hb1.cell 3)
        | (go_at_call 42; refine (find_any X _ c p fs who ast 0 _ (HS.out.keep0 hk1) HP.out HN.out).mono ?_; rintro e w2 ⟨rfl, hk2⟩; rw [HF.out]; have hd3 := hk2.cell hc3 (by simp); have hc2 : w2.cell? ⟨g, o + p * 3 + 2, none⟩ = some (.int .i64 f.amt) := (hk1.trans hk2).range HR.out (by simp) 2 _ rfl))
      go_ret
      exact ⟨by rw [E.out]; rfl, hk1.trans hk2⟩
  · have hf' : foundAt fs (who, ast) p = false := by simpa using hf
    have E : Hid (amtAt fs (who, ast) p = 0) := Lib.hid (by
      unfold amtAt; unfold foundAt at hf'
      cases hq : fs[p]? with
      | none => rfl
      | some f => rw [hq] at hf'; exact if_neg (by simpa using hf'))
    have HF := Lib.hid hf'
    clear hf hf'
    go_enter Try.func29, Try.ntmps29
    go_wp2_with (first
      | ((with_reducible refine at_dst (N := 3) rfl ?_); refine ev_box rfl 26 _ rfl _ rfl [.int .i64 num, .int .i64 tm, va, .slice A fs.length c, ve] rfl ?_; intro g1 w1 hg1 hb1 hk1; have hc3 : w1.cell? ⟨g1, 3, none⟩ = some (.slice A fs.length c) := hb1.cell 3)
      | (go_at_call 42; refine (find_any X _ c p fs who ast 0 _ (HS.out.keep0 hk1) HP.out HN.out).mono ?_; rintro e w2 ⟨rfl, hk2⟩; rw [HF.out]))
    go_ret
    exact ⟨by rw [E.out]; rfl, hk1.trans hk2⟩
end Go.Proofs.Ytlgebdoadfljhaa
