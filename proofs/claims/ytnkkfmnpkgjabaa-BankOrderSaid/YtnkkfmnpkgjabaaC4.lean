/- slices.Clone, Delete, Insert of funds. -/
import Derived.Test.YtnkkfmnpkgjabaaC3
namespace Go.Proofs.Ytnkkfmnpkgjabaa.X
set_option linter.unusedVariables false
set_option linter.unusedSimpArgs false
set_option maxRecDepth 10000

theorem funds_len (l : List SFund) : ∀ r ∈ l.map rFund, r.length = 3 := len_map_eq l rFund_len
abbrev tF : TypeId := 60
theorem clone_c (l : List SFund) (hl : l.length ≤ 1000000) (bs : BS) : ACalls Try.prog 60 [.sl (l.map rFund)] bs fun y bs' => (l = [] ∧ bs' = bs ∧ (y = .nil ∨ y = .clip [])) ∨ ∃ g c, y = .ms g 0 l.length c ∧ bs' = (g, .rows (l.map rFund) c 3 tF) :: bs ∧ l.length ≤ c := by
  have hs := funds_len l
  refine ACalls.in_ Try.func60 Try.ntmps60 (h := ?_)
  (repeat refine go (h := ?_))
  refine AL.nil_any (h := fun b hb => ?_)
  (repeat refine go (h := ?_))
  refine AW.cond rfl (fun h => ?_) (fun h => ?_)
  · subst h
    have h0 : l = [] := by simpa using hb rfl
    (repeat refine go (h := ?_))
    exact EndQ.fin (bs' := bs) (h := .inl ⟨h0, rfl, .inl rfl⟩)
  · cases l with
    | nil =>
      (repeat refine go (h := ?_))
      exact EndQ.fin (bs' := bs) (h := .inl ⟨rfl, rfl, .inr rfl⟩)
    | cons f r =>
      (repeat refine go (h := ?_))
      refine AL.app_newr (rs := (f :: r).map rFund) (h := fun g c hc => ?_)
      (repeat refine go (h := ?_))
      exact EndQ.fin (h := .inr ⟨g, c, by simp, rfl, by simpa using hc⟩)
theorem over_erase {α : Type} (l : List α) (i : Nat) (x : α) (hi : i < l.length) : (over (over l i (l.drop (i + 1))) (l.length - 1) [x]).take (l.length - 1) = l.eraseIdx i := by
  have h1 : over l i (l.drop (i + 1)) = l.take i ++ l.drop (i + 1) ++ l.drop (l.length - 1) := by
    unfold over
    rw [show i + (l.drop (i + 1)).length = l.length - 1 by simp; omega]
  rw [h1]
  have h2 : (l.take i ++ l.drop (i + 1)).length = l.length - 1 := by simp; omega
  unfold over
  rw [List.append_assoc, List.take_append_of_le_length (by simp; omega), List.take_take, Nat.min_self, List.take_append_of_le_length (by omega), List.take_of_length_le (by omega), List.eraseIdx_eq_take_drop_succ]
theorem over_erase_len {α : Type} (l : List α) (i : Nat) (x : α) (hi : i < l.length) : (over (over l i (l.drop (i + 1))) (l.length - 1) [x]).length = l.length := by
  rw [over_len _ _ _ (by rw [over_len _ _ _ (by omega)]; omega), over_len _ _ _ (by omega)]
  simp; omega
def zeroF : List A := [sA ⟨#[]⟩, sA ⟨#[]⟩, iA 0]
theorem delete_c (g c i : Nat) (l : List SFund) (bs bs' : BS) (hi : i < l.length) (hc : l.length ≤ c) (hl : l.length ≤ 1000000) (hu : BUpd bs g (.rows (l.map rFund) c 3 tF) g (.rows (over (over (l.map rFund) i ((l.map rFund).drop (i + 1))) (l.length - 1) [zeroF]) c 3 tF) bs') :
    ACalls Try.prog 61 [.ms g 0 l.length c, iA i, iA (i + 1 : Nat)] bs fun y b => y = .ms g 0 (l.length - 1) c ∧ b = bs' := by
  have hs := funds_len l
  obtain ⟨bs1, hu1, hu2⟩ := hu.mid (.rows (over (l.map rFund) i ((l.map rFund).drop (i + 1))) c 3 tF)
  have hm0 := hu.mem
  have hm1 := hu2.mem
  have hln : (over (l.map rFund) i ((l.map rFund).drop (i + 1))).length = l.length := by rw [over_len _ _ _ (by simp; omega)]; simp; omega
  refine ACalls.in_ Try.func61 Try.ntmps61 (h := ?_)
  (repeat refine go (h := ?_))
  iterate 6 refine goD (h := ?_)
  by_cases hlast : i + 1 = l.length
  · have hd0 : (l.map rFund).drop (i + 1) = [] := List.drop_of_length_le (by simp; omega)
    rw [hd0] at hu1
    refine ADl.b (hq := OpQ.part_nothing rfl (by first | exact Wk.refl _ | exact Wk.nil | exact Wk.clip _ | exact Wk.tip _ _ _ | exact Wk.opt _ _ (by first | assumption | rfl) | exact Wk.gr _ _ | exact Wk.nil_gr | exact Wk.trans (Wk.opt _ _ (by first | assumption | rfl)) (by first | exact Wk.gr _ _ | exact Wk.nil | exact Wk.clip _ | exact Wk.tip _ _ _) | exact Wk.aggs (by repeat (first | exact Wks.nil | refine Wks.cons (by first | exact Wk.refl _ | exact Wk.nil | exact Wk.clip _ | exact Wk.tip _ _ _ | exact Wk.gr _ _ | exact Wk.nil_gr) ?_)) rfl) (by first | exact Bnd.none _ | exact Bnd.some (by first | exact Wk.refl _ | exact Wk.nil | exact Wk.clip _ | exact Wk.tip _ _ _ | exact Wk.opt _ _ (by first | assumption | rfl) | exact Wk.gr _ _ | exact Wk.nil_gr | exact Wk.trans (Wk.opt _ _ (by first | assumption | rfl)) (by first | exact Wk.gr _ _ | exact Wk.nil | exact Wk.clip _ | exact Wk.tip _ _ _) | exact Wk.aggs (by repeat (first | exact Wks.nil | refine Wks.cons (by first | exact Wk.refl _ | exact Wk.nil | exact Wk.clip _ | exact Wk.tip _ _ _ | exact Wk.gr _ _ | exact Wk.nil_gr) ?_)) rfl) (by omega) (by first | ((simp only [Nat.zero_add, Nat.add_zero, Nat.reduceAdd, Nat.reduceMul, Int.toNat_natCast]) <;> rfl) | rfl)) (by first | exact Bnd.none _ | exact Bnd.some (by first | exact Wk.refl _ | exact Wk.nil | exact Wk.clip _ | exact Wk.tip _ _ _ | exact Wk.opt _ _ (by first | assumption | rfl) | exact Wk.gr _ _ | exact Wk.nil_gr | exact Wk.trans (Wk.opt _ _ (by first | assumption | rfl)) (by first | exact Wk.gr _ _ | exact Wk.nil | exact Wk.clip _ | exact Wk.tip _ _ _) | exact Wk.aggs (by repeat (first | exact Wks.nil | refine Wks.cons (by first | exact Wk.refl _ | exact Wk.nil | exact Wk.clip _ | exact Wk.tip _ _ _ | exact Wk.gr _ _ | exact Wk.nil_gr) ?_)) rfl) (by omega) (by first | ((simp only [Nat.zero_add, Nat.add_zero, Nat.reduceAdd, Nat.reduceMul, Int.toNat_natCast]) <;> rfl) | rfl)) (by omega) hm0 (by omega) (by omega)) (h := ?_)
    refine ADl.app_in (hu := hu1) (k := l.length - 1) (i := 0) (hoff := (Nat.zero_mul 3).symm) (hrs := by simp) (hn := by simp; omega) (hk1 := by simp; omega) (h := ?_)
    (repeat refine goD (h := ?_)); (repeat refine go (h := ?_))
    rw [hd0] at hu2 hln
    refine AL.clear (hu := hu2) (i := l.length - 1) (hrs := by rw [show l.length - (l.length - 1) = 1 by omega]; rfl) (hi := by omega) (hcap := by omega) (h := ?_)
    (repeat refine go (h := ?_))
    exact EndQ.fin (bs' := bs') (h := ⟨rfl, rfl⟩)
  · refine ADl.b (hq := OpQ.part_ms rfl (by first | exact Wk.refl _ | exact Wk.nil | exact Wk.clip _ | exact Wk.tip _ _ _ | exact Wk.opt _ _ (by first | assumption | rfl) | exact Wk.gr _ _ | exact Wk.nil_gr | exact Wk.trans (Wk.opt _ _ (by first | assumption | rfl)) (by first | exact Wk.gr _ _ | exact Wk.nil | exact Wk.clip _ | exact Wk.tip _ _ _) | exact Wk.aggs (by repeat (first | exact Wks.nil | refine Wks.cons (by first | exact Wk.refl _ | exact Wk.nil | exact Wk.clip _ | exact Wk.tip _ _ _ | exact Wk.gr _ _ | exact Wk.nil_gr) ?_)) rfl) (by first | exact Bnd.none _ | exact Bnd.some (by first | exact Wk.refl _ | exact Wk.nil | exact Wk.clip _ | exact Wk.tip _ _ _ | exact Wk.opt _ _ (by first | assumption | rfl) | exact Wk.gr _ _ | exact Wk.nil_gr | exact Wk.trans (Wk.opt _ _ (by first | assumption | rfl)) (by first | exact Wk.gr _ _ | exact Wk.nil | exact Wk.clip _ | exact Wk.tip _ _ _) | exact Wk.aggs (by repeat (first | exact Wks.nil | refine Wks.cons (by first | exact Wk.refl _ | exact Wk.nil | exact Wk.clip _ | exact Wk.tip _ _ _ | exact Wk.gr _ _ | exact Wk.nil_gr) ?_)) rfl) (by omega) (by first | ((simp only [Nat.zero_add, Nat.add_zero, Nat.reduceAdd, Nat.reduceMul, Int.toNat_natCast]) <;> rfl) | rfl)) (by first | exact Bnd.none _ | exact Bnd.some (by first | exact Wk.refl _ | exact Wk.nil | exact Wk.clip _ | exact Wk.tip _ _ _ | exact Wk.opt _ _ (by first | assumption | rfl) | exact Wk.gr _ _ | exact Wk.nil_gr | exact Wk.trans (Wk.opt _ _ (by first | assumption | rfl)) (by first | exact Wk.gr _ _ | exact Wk.nil | exact Wk.clip _ | exact Wk.tip _ _ _) | exact Wk.aggs (by repeat (first | exact Wks.nil | refine Wks.cons (by first | exact Wk.refl _ | exact Wk.nil | exact Wk.clip _ | exact Wk.tip _ _ _ | exact Wk.gr _ _ | exact Wk.nil_gr) ?_)) rfl) (by omega) (by first | ((simp only [Nat.zero_add, Nat.add_zero, Nat.reduceAdd, Nat.reduceMul, Int.toNat_natCast]) <;> rfl) | rfl)) (.none _) (.inl rfl) (by omega) (by omega) (by omega) (by omega) (by first | ((simp only [Nat.zero_add, Nat.add_zero, Nat.reduceAdd, Nat.reduceMul, Int.toNat_natCast]) <;> rfl) | rfl)) (h := ?_)
    refine ADl.app_in (hu := hu1) (k := l.length - 1) (i := 0) (hoff := (Nat.zero_mul 3).symm) (hy := Src.ms (by first | exact Wk.refl _ | exact Wk.nil | exact Wk.clip _ | exact Wk.tip _ _ _ | exact Wk.opt _ _ (by first | assumption | rfl) | exact Wk.gr _ _ | exact Wk.nil_gr | exact Wk.trans (Wk.opt _ _ (by first | assumption | rfl)) (by first | exact Wk.gr _ _ | exact Wk.nil | exact Wk.clip _ | exact Wk.tip _ _ _) | exact Wk.aggs (by repeat (first | exact Wks.nil | refine Wks.cons (by first | exact Wk.refl _ | exact Wk.nil | exact Wk.clip _ | exact Wk.tip _ _ _ | exact Wk.gr _ _ | exact Wk.nil_gr) ?_)) rfl) rfl hm0 (k := l.length - (i + 1)) (Nat.le_refl _) (by simp; omega) (by rw [List.take_of_length_le (by simp)])) (hyl := by simp) (hrs := by simp) (hn := by simp; omega) (hk1 := by simp; omega) (h := ?_)
    (repeat refine goD (h := ?_)); (repeat refine go (h := ?_))
    refine AL.clear (hu := hu2) (i := l.length - 1) (hrs := by rw [show l.length - (l.length - 1) = 1 by omega]; rfl) (hi := by omega) (hcap := by omega) (h := ?_)
    (repeat refine go (h := ?_))
    exact EndQ.fin (bs' := bs') (h := ⟨rfl, rfl⟩)
end Go.Proofs.Ytnkkfmnpkgjabaa.X
