/- slices.Insert of a fund. -/
import Derived.Test.YtnkkfmnpkgjabaaC4
namespace Go.Proofs.Ytnkkfmnpkgjabaa.X
set_option linter.unusedVariables false
set_option linter.unusedSimpArgs false
set_option maxRecDepth 10000

instance : OV Try.prog 83 44 := ⟨4, fun args w => by
  rw [run_callFunc_extern Try.func83 (by kernel_rfl) (by kernel_rfl) (by kernel_rfl) (e := Extern.SlicesOverlaps.overlaps #[44, 44] #[4]) (by kernel_rfl)]⟩
theorem insert_new (y : A) (f : SFund) (bs : BS) (hy : y = .nil ∨ y = .clip []) : ACalls Try.prog 62 [y, iA (0 : Nat), .sl [rFund f]] bs fun y b => ∃ g c, y = .ms g 0 1 c ∧ b = (g, .rows [rFund f] c 3 tF) :: bs ∧ 1 ≤ c := by
  have hs : ∀ r ∈ [rFund f], r.length = 3 := by simp [rFund]
  rcases hy with rfl | rfl
  all_goals
    refine ACalls.in_ Try.func62 Try.ntmps62 (h := ?_)
    (repeat refine go (h := ?_))
    refine AL.app_newr (rs := [rFund f]) (h := fun g c hc => ?_)
    (repeat refine go (h := ?_))
    exact EndQ.fin (h := ⟨g, c, rfl, rfl, hc⟩)
theorem insert_end (g c : Nat) (l : List SFund) (f : SFund) (bs : BS) (B : Nat → Blk → BS) (hB : ∀ g' b', BUpd bs g (.rows (l.map rFund) c 3 tF) g' b' (B g' b')) (hc : l.length ≤ c) (hl : l.length ≤ 1000000) :
    ACalls Try.prog 62 [.ms g 0 l.length c, iA l.length, .sl [rFund f]] bs fun y b => ∃ g' c', y = .ms g' 0 (l.length + 1) c' ∧ b = B g' (.rows ((l ++ [f]).map rFund) c' 3 tF) ∧ l.length + 1 ≤ c' := by
  have hs := funds_len l
  have hm := (hB 0 (.cells [])).mem
  refine ACalls.in_ Try.func62 Try.ntmps62 (h := ?_)
  have hq : l.length = c ∨ l.length < c := by omega
  rcases hq with hq | hq
  all_goals
    (repeat refine go (h := ?_))
    refine AL.app_rows (hm := hm) (hrows := List.take_of_length_le (by simp)) (hrs := rfl) (hu := fun g' c' => hB g' _) (hn := by simp) (hs := fun r hr => by simp at hr; subst hr; rfl) (hbd := by simp; omega) (h := fun g' c' hc' => ?_)
    (repeat refine go (h := ?_))
    exact EndQ.fin (bs' := B g' (.rows (l.map rFund ++ [rFund f]) c' 3 tF)) (h := ⟨g', c', rfl, by simp, hc'⟩)
theorem insF_rows (l : List SFund) (f : SFund) (i : Nat) : (insF l i f).map rFund = (l.map rFund).take i ++ rFund f :: (l.map rFund).drop i := by
  unfold insF; simp [List.map_take, List.map_drop]
theorem ins_get {α : Type} (l : List α) (x : α) (i : Nat) (hi : i ≤ l.length) (q : Nat) : (l.take i ++ x :: l.drop i)[q]? = if q < i then l[q]? else if q = i then some x else l[q - 1]? := by
  rw [List.getElem?_append, List.length_take, Nat.min_eq_left hi]
  by_cases h : q < i
  · rw [if_pos h, if_pos h, List.getElem?_take_of_lt h]
  · rw [if_neg h, if_neg h]
    by_cases h2 : q = i
    · rw [if_pos h2, h2, Nat.sub_self]; rfl
    · rw [if_neg h2, show q - i = (q - 1 - i) + 1 by omega, List.getElem?_cons_succ, List.getElem?_drop, show i + (q - 1 - i) = q - 1 by omega]
theorem over_ins_grow {α : Type} (l : List α) (x z : α) (i : Nat) (hi : i < l.length) : over (over (l.take i ++ List.replicate (l.length + 1 - i) z) i [x]) (i + 1) (l.drop i) = l.take i ++ x :: l.drop i := by
  have h0 : (l.take i ++ List.replicate (l.length + 1 - i) z).length = l.length + 1 := by simp; omega
  apply List.ext_getElem?
  intro k
  rw [over_get _ _ _ (by rw [over_len _ _ _ (by omega), h0]; simp; omega), over_get _ _ _ (by omega), ins_get _ _ _ (by omega)]
  simp only [List.length_drop, List.length_cons, List.length_nil]
  by_cases h1 : k < i
  · rw [if_neg (by omega), if_neg (by omega), if_pos h1, List.getElem?_append_left (by simp; omega), List.getElem?_take_of_lt h1]
  · rw [if_neg h1]
    by_cases h2 : k = i
    · subst h2; rw [if_neg (by omega), if_pos (by omega), if_pos rfl]; simp
    · rw [if_neg h2]
      by_cases h3 : k < l.length + 1
      · rw [if_pos (by omega), List.getElem?_drop]; congr 1; omega
      · rw [if_neg (by omega), if_neg (by omega), List.getElem?_eq_none (by omega), List.getElem?_eq_none (by omega)]
theorem over_ins_room {α : Type} (l : List α) (x : α) (i : Nat) (hi : i < l.length) : over (over l (i + 1) (l.drop i)) i [x] = l.take i ++ x :: l.drop i := by
  apply List.ext_getElem?
  intro k
  rw [over_get _ _ _ (by rw [over_len _ _ _ (by omega)]; omega), over_get _ _ _ (by omega), ins_get _ _ _ (by omega)]
  simp only [List.length_drop, List.length_cons, List.length_nil]
  by_cases h1 : k < i
  · rw [if_neg (by omega), if_neg (by omega), if_pos h1]
  · rw [if_neg h1]
    by_cases h2 : k = i
    · subst h2; rw [if_pos (by omega), if_pos rfl]; simp
    · rw [if_neg h2, if_neg (by omega)]
      by_cases h3 : k < l.length + 1
      · rw [if_pos (by omega), List.getElem?_drop]; congr 1; omega
      · rw [if_neg (by omega), List.getElem?_eq_none (by omega), List.getElem?_eq_none (by omega)]
theorem insert_grow (g g2 c c2 i : Nat) (l : List SFund) (f : SFund) (bs : BS) (hm : (g, .rows (l.map rFund) c 3 tF) ∈ bs) (hm2 : (g2, .rows [rFund f] c2 3 tF) ∈ bs) (hi : i < l.length) (hc : l.length = c) (hl : l.length ≤ 1000000) :
    ACalls Try.prog 62 [.ms g 0 l.length c, iA i, .ms g2 0 1 c2] bs fun y b => ∃ g' c', y = .ms g' 0 (l.length + 1) c' ∧ b = (g', .rows ((insF l i f).map rFund) c' 3 tF) :: bs ∧ l.length + 1 ≤ c' := by
  have hs := funds_len l
  refine ACalls.in_ Try.func62 Try.ntmps62 (h := ?_)
  (repeat refine go (h := ?_))
  refine AL.app_zeros (k := l.length + 1 - i) (hk := Wk.of_eq (by show A.v _ = A.v _; congr 2; omega)) (hm := hm) (hi := by simp; omega) (h := fun g' c' hc' => ?_)
  (repeat refine go (h := ?_))
  refine AL.copy (m := 1) (i := i) (hu := .head) (hoff := rfl) (hm0 := by simp; omega) (hi := by simp; omega) (hcap := by omega) (h := ?_)
  (repeat refine go (h := ?_))
  (repeat refine goD (h := ?_))
  refine ADl.copy (m := l.length - i) (i := i + 1) (hu := .head) (hoff := rfl) (hy := Src.ms (by first | exact Wk.refl _ | exact Wk.nil | exact Wk.clip _ | exact Wk.tip _ _ _ | exact Wk.opt _ _ (by first | assumption | rfl) | exact Wk.gr _ _ | exact Wk.nil_gr | exact Wk.trans (Wk.opt _ _ (by first | assumption | rfl)) (by first | exact Wk.gr _ _ | exact Wk.nil | exact Wk.clip _ | exact Wk.tip _ _ _) | exact Wk.aggs (by repeat (first | exact Wks.nil | refine Wks.cons (by first | exact Wk.refl _ | exact Wk.nil | exact Wk.clip _ | exact Wk.tip _ _ _ | exact Wk.gr _ _ | exact Wk.nil_gr) ?_)) rfl) rfl (by repeat (first | exact List.mem_cons_self | assumption | refine List.mem_cons_of_mem _ ?_ | refine mem_gB ?_)) (k := l.length - i) (Nat.le_refl _) (by simp; omega) rfl) (hm0 := by omega) (hmy := by simp) (hi := by rw [over_len _ _ _ (by simp; omega)]; simp; omega) (hcap := by omega) (h := ?_)
  (repeat refine goD (h := ?_)); (repeat refine go (h := ?_))
  refine EndQ.fin (h := ⟨g', c', ?_, ?_, by omega⟩)
  · congr 1; omega
  · have := over_ins_grow (l.map rFund) (rFund f) zeroF i (by simpa using hi)
    rw [List.length_map] at this
    rw [insF_rows, ← this]
    have hd : ((l.map rFund).drop i).take (l.length - i) = (l.map rFund).drop i := List.take_of_length_le (by simp)
    simp only [List.drop_zero, List.take_succ_cons, List.take_zero, hd]
    rfl
theorem insert_room (g g2 c c2 i : Nat) (l : List SFund) (f : SFund) (bs bs' : BS) (hu : BUpd bs g (.rows (l.map rFund) c 3 tF) g (.rows ((insF l i f).map rFund) c 3 tF) bs') (hm2 : (g2, .rows [rFund f] c2 3 tF) ∈ bs) (hne : g2 ≠ g) (hi : i < l.length) (hc : l.length < c) (hl : l.length ≤ 1000000) :
    ACalls Try.prog 62 [.ms g 0 l.length c, iA i, .ms g2 0 1 c2] bs fun y b => y = .ms g 0 (l.length + 1) c ∧ b = bs' := by
  have hs := funds_len l
  have hm := hu.mem
  obtain ⟨bs1, hu1, hu2⟩ := hu.mid (.rows (over (l.map rFund) (i + 1) ((l.map rFund).drop i)) c 3 tF)
  have hm3 : (g2, .rows [rFund f] c2 3 tF) ∈ bs1 := hu1.stay hm2 hne
  refine ACalls.in_ Try.func62 Try.ntmps62 (h := ?_)
  (repeat refine go (h := ?_))
  refine AL.s (hq := OpQ.overlaps rfl (by first | exact Wk.refl _ | exact Wk.nil | exact Wk.clip _ | exact Wk.tip _ _ _ | exact Wk.opt _ _ (by first | assumption | rfl) | exact Wk.gr _ _ | exact Wk.nil_gr | exact Wk.trans (Wk.opt _ _ (by first | assumption | rfl)) (by first | exact Wk.gr _ _ | exact Wk.nil | exact Wk.clip _ | exact Wk.tip _ _ _) | exact Wk.aggs (by repeat (first | exact Wks.nil | refine Wks.cons (by first | exact Wk.refl _ | exact Wk.nil | exact Wk.clip _ | exact Wk.tip _ _ _ | exact Wk.gr _ _ | exact Wk.nil_gr) ?_)) rfl) (by first | exact Wk.refl _ | exact Wk.nil | exact Wk.clip _ | exact Wk.tip _ _ _ | exact Wk.opt _ _ (by first | assumption | rfl) | exact Wk.gr _ _ | exact Wk.nil_gr | exact Wk.trans (Wk.opt _ _ (by first | assumption | rfl)) (by first | exact Wk.gr _ _ | exact Wk.nil | exact Wk.clip _ | exact Wk.tip _ _ _) | exact Wk.aggs (by repeat (first | exact Wks.nil | refine Wks.cons (by first | exact Wk.refl _ | exact Wk.nil | exact Wk.clip _ | exact Wk.tip _ _ _ | exact Wk.gr _ _ | exact Wk.nil_gr) ?_)) rfl) hm2 hm hne (by omega) (by decide)) (h := ?_)
  (repeat refine go (h := ?_))
  (repeat refine goD (h := ?_))
  refine ADl.copy (m := l.length - i) (i := i + 1) (hu := hu1) (hoff := rfl) (hy := Src.ms (by first | exact Wk.refl _ | exact Wk.nil | exact Wk.clip _ | exact Wk.tip _ _ _ | exact Wk.opt _ _ (by first | assumption | rfl) | exact Wk.gr _ _ | exact Wk.nil_gr | exact Wk.trans (Wk.opt _ _ (by first | assumption | rfl)) (by first | exact Wk.gr _ _ | exact Wk.nil | exact Wk.clip _ | exact Wk.tip _ _ _) | exact Wk.aggs (by repeat (first | exact Wks.nil | refine Wks.cons (by first | exact Wk.refl _ | exact Wk.nil | exact Wk.clip _ | exact Wk.tip _ _ _ | exact Wk.gr _ _ | exact Wk.nil_gr) ?_)) rfl) rfl hm (k := l.length - i) (by omega) (by simp; omega) rfl) (hm0 := by omega) (hmy := by simp) (hrs := by rw [List.take_of_length_le (by simp), List.take_of_length_le (by simp)]) (hi := by simp; omega) (hcap := by omega) (h := ?_)
  (repeat refine goD (h := ?_)); (repeat refine go (h := ?_))
  refine AL.copy (m := 1) (i := i) (hu := hu2) (hoff := rfl) (hm0 := by simp; omega) (hrs := by rw [insF_rows, ← over_ins_room _ _ _ (by simpa using hi)]; rfl) (hi := by rw [over_len _ _ _ (by simp; omega)]; simp; omega) (hcap := by omega) (h := ?_)
  (repeat refine go (h := ?_))
  exact EndQ.fin (bs' := bs') (h := ⟨rfl, rfl⟩)
end Go.Proofs.Ytnkkfmnpkgjabaa.X
