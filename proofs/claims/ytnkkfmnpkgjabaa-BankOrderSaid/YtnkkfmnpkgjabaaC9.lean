/- The bank: which assets there are. -/
import Derived.Test.YtnkkfmnpkgjabaaC8
namespace Go.Proofs.Ytnkkfmnpkgjabaa.X
open Go.RowKit
open Classical
set_option linter.unusedVariables false
set_option linter.unusedSimpArgs false
set_option maxRecDepth 10000

theorem sort_nil (bs : BS) : ACalls Try.prog 56 [.nil] bs fun y b => y = .tup [] ∧ b = bs := by
  intro w us hs hx hb
  have h0 := hx 0 _ rfl
  have hus : us = #[.slice none 0 0] := arg1 hs (by
    generalize us.getD 0 undef = u at h0
    cases h0; rfl)
  subst hus
  refine (Try.slices_Sort_string_none none 0 w).mono fun e w' h => ?_
  obtain ⟨rfl, rfl⟩ := h
  exact ⟨_, _, _, rfl, ⟨rfl, rfl⟩, .tup rfl (by simp), hb, Ext.refl _ _⟩
theorem compact_nil (bs : BS) : ACalls Try.prog 57 [.nil] bs fun y b => y = .nil ∧ b = bs := by
  intro w us hs hx hb
  have h0 := hx 0 _ rfl
  have hus : us = #[.slice none 0 0] := arg1 hs (by
    generalize us.getD 0 undef = u at h0
    cases h0; rfl)
  subst hus
  refine (Try.slices_Compact_string_empty none 0 w).mono fun e w' h => ?_
  obtain ⟨rfl, rfl⟩ := h
  exact ⟨_, _, _, rfl, ⟨rfl, rfl⟩, .nil, hb, Ext.refl _ _⟩
/-- A row that may turn, of so many texts: nil at first. -/
def msA (o : OG) (n : Nat) : A := match o with | none => .nil | some (g, c) => .ms g 0 n c
def msB (o : OG) (l : List Txt) (bs : BS) : BS := match o with | none => bs | some (g, c) => (g, .rows (l.map strR) c 1 tS) :: bs
noncomputable def x_assets (b : SBook) : Option (List Txt) :=
  (l_bank_held b).bind fun h => if b.Funds.length ≤ 1000 ∧ h.length ≤ 1000 then some (compT (sortT (b.Funds.map (·.Asset) ++ h.map (·.Asset)))) else none
theorem comp_nil : compT (sortT []) = [] := List.eq_nil_of_length_eq_zero (by have := compT_le (sortT []); rw [sortT_len] at this; simpa using this)
theorem app_row1 (l : List Txt) (x : Txt) : l.map strR ++ [[A.v (.string x)]] = (l ++ [x]).map strR := by simp [strR]
theorem assets_c (b : SBook) (h : List SArc) (hh : l_bank_held b = some h) (h1 : b.Funds.length ≤ 1000) (h2 : h.length ≤ 1000) : APure Try.prog 40 [.agg (rBook b)] (.sl ((compT (sortT (b.Funds.map (·.Asset) ++ h.map (·.Asset)))).map strR)) := fun bs => by
  refine ACalls.leave (R := fun y b' => b.Funds.map (·.Asset) ++ h.map (·.Asset) = [] ∧ y = .nil ∧ b' = bs ∨ ∃ g c, y = .ms g 0 (compT (sortT (b.Funds.map (·.Asset) ++ h.map (·.Asset)))).length c ∧ b' = (g, .rows ((compR (sortT (b.Funds.map (·.Asset) ++ h.map (·.Asset)))).map strR) c 1 tS) :: bs ∧ (b.Funds.map (·.Asset) ++ h.map (·.Asset)).length ≤ c) ?_ ?_
  rotate_left
  · intro y b' hR
    rcases hR with ⟨e, rfl, rfl⟩ | ⟨g, c, rfl, rfl, hc⟩
    · refine ⟨_, _, .less (List.Sublist.refl _) .nil, ?_, rfl⟩
      rw [e, comp_nil]; rfl
    · refine ⟨_, _, .frz List.mem_cons_self (List.Sublist.cons _ (List.Sublist.refl _)) (fun hn => (List.nodup_cons.1 hn).1) (.ms ?_ ?_ (Nat.le_refl _) ?_), rfl, rfl⟩
      · rw [List.length_map, compR_len]; exact compT_le _
      · have := compT_le (sortT (b.Funds.map (·.Asset) ++ h.map (·.Asset))); rw [sortT_len] at this; omega
      · rw [← List.map_take]; congr 1; unfold compR; rw [List.take_left']; rfl
  refine ACalls.in_ Try.func40 Try.ntmps40 (h := ?_)
  (repeat refine go (h := ?_)); intro g1; (repeat refine go (h := ?_))
  refine AW.loop2 (fun (k : Nat) (o : OG) => [(11, iA k), (10, iA b.Funds.length), (9, .sl (b.Funds.map rFund)), (3, msA o k), (2, .nil), (1, .ptr g1 0)]) (fun k o => msB o ((b.Funds.take k).map (·.Asset)) ((g1, .cells (rBook b)) :: bs)) (fun k o => k ≤ b.Funds.length ∧ (o = none → k = 0) ∧ ∀ g c, o = some (g, c) → k ≤ c) (fun k _ => b.Funds.length - k) 0 none ⟨by omega, fun _ => rfl, fun _ _ e => nomatch e⟩ (by repeat (first | exact Sub.nil | refine Sub.cons (k := ?_))) rfl fun k o ⟨hk, ho, hoc⟩ => ?_
  by_cases hlt : k < b.Funds.length
  · obtain ⟨f, hf⟩ : ∃ f, b.Funds[k]? = some f := ⟨_, List.getElem?_eq_getElem hlt⟩
    have htk : (b.Funds.take (k + 1)).map (·.Asset) = (b.Funds.take k).map (·.Asset) ++ [f.Asset] := by rw [List.take_add_one, hf]; simp
    rcases o with _ | ⟨g, c⟩
    · obtain rfl : k = 0 := ho rfl
      (repeat refine go (h := ?_)); intro g5; (repeat refine go (h := ?_))
      refine AL.app_newr (rs := [strR f.Asset]) (h := fun g c hc => ?_)
      (repeat refine go (h := ?_))
      exact loopQ.n2 1 (some (g, c)) ⟨by omega, (fun e => nomatch e), fun g' c' e => by cases e; simpa using hc⟩ (by omega) (by repeat (first | exact Sub.nil | refine Sub.cons (k := ?_))) (by show List.Sublist ((g, Blk.rows (((b.Funds.take 1).map (·.Asset)).map strR) c 1 tS) :: _) _; rw [htk]; exact .cons_cons _ (.cons _ (.refl _)))
    · have hkc := hoc g c rfl
      have hlen : ((b.Funds.take k).map (·.Asset)).length = k := by simp; omega
      (repeat refine go (h := ?_)); intro g5; (repeat refine go (h := ?_))
      refine AL.app_rows (rs := ((b.Funds.take (k + 1)).map (·.Asset)).map strR) (hrows := List.take_of_length_le (by simp; omega)) (hrs := by rw [htk, ← app_row1]) (hn := by simp; omega) (h := fun g' c' hc => ?_)
      (repeat refine go (h := ?_))
      exact loopQ.n2 (k + 1) (some (g', c')) ⟨by omega, (fun e => nomatch e), fun _ _ e => by cases e; simpa using hc⟩ (by omega) (by repeat (first | exact Sub.nil | refine Sub.cons (k := ?_))) (.cons _ (.refl _))
  · have hke : k = b.Funds.length := by omega
    obtain ⟨L0, hL0⟩ : ∃ L0, (b.Funds.take k).map (·.Asset) = L0 := ⟨_, rfl⟩
    have hL1 : b.Funds.map (·.Asset) = L0 := by rw [← hL0, hke, List.take_length]
    have hL2 : L0.length = k := by rw [← hL0]; simp; omega
    rw [hL0, hL1]
    have hm1 : (g1, Blk.cells (rBook b)) ∈ msB o L0 ((g1, .cells (rBook b)) :: bs) := by cases o <;> simp [msB]
    (repeat refine go (h := ?_))
    refine AL.call (c_bank_held hh) (h := ?_)
    (repeat refine go (h := ?_))
    refine AW.loop2 (fun (j : Nat) (o : OG) => [(24, iA j), (23, iA h.length), (22, .sl (h.map rArc)), (3, msA o (k + j)), (2, .nil), (1, .ptr g1 0)]) (fun j o => msB o (L0 ++ (h.take j).map (·.Asset)) ((g1, .cells (rBook b)) :: bs)) (fun j o => j ≤ h.length ∧ (o = none → k + j = 0) ∧ ∀ g c, o = some (g, c) → k + j ≤ c) (fun j _ => h.length - j) 0 o ⟨by omega, fun e => by rw [ho e], fun g c e => hoc g c e⟩ (by repeat (first | exact Sub.nil | refine Sub.cons (k := ?_))) (by simp) fun j o ⟨hj, ho, hoc⟩ => ?_
    by_cases hlt2 : j < h.length
    · obtain ⟨f, hf⟩ : ∃ f, h[j]? = some f := ⟨_, List.getElem?_eq_getElem hlt2⟩
      have htk : L0 ++ (h.take (j + 1)).map (·.Asset) = L0 ++ (h.take j).map (·.Asset) ++ [f.Asset] := by rw [List.take_add_one, hf]; simp
      rcases o with _ | ⟨g, c⟩
      · obtain ⟨hk0, hj0⟩ : k = 0 ∧ j = 0 := by have := ho rfl; omega
        have hLn : L0 = [] := List.eq_nil_of_length_eq_zero (by omega)
        subst hj0
        (repeat refine go (h := ?_)); intro g5; (repeat refine go (h := ?_))
        refine AL.app_newr (rs := [strR f.Asset]) (h := fun g c hc => ?_)
        (repeat refine go (h := ?_))
        refine loopQ.n2 1 (some (g, c)) ⟨by omega, (fun e => nomatch e), fun g' c' e => by cases e; simpa [hk0] using hc⟩ (by omega) (Sub.cons (k := Sub.cons (k := Sub.cons (k := Sub.cons (h := ?_) (k := Sub.cons (k := Sub.cons (k := Sub.nil))))))) (by show List.Sublist ((g, Blk.rows ((L0 ++ (h.take 1).map (·.Asset)).map strR) c 1 tS) :: _) _; rw [htk, hLn]; exact .cons_cons _ (.cons _ (.refl _)))
        rw [hk0]; exact .refl _
      · have hkc := hoc g c rfl
        have hlen : (L0 ++ (h.take j).map (·.Asset)).length = k + j := by simp; omega
        (repeat refine go (h := ?_)); intro g5; (repeat refine go (h := ?_))
        refine AL.app_rows (rs := (L0 ++ (h.take (j + 1)).map (·.Asset)).map strR) (hrows := List.take_of_length_le (by simp; omega)) (hrs := by rw [htk, ← app_row1]) (hn := by simp; omega) (h := fun g' c' hc => ?_)
        (repeat refine go (h := ?_))
        exact loopQ.n2 (j + 1) (some (g', c')) ⟨by omega, (fun e => nomatch e), fun _ _ e => by cases e; simpa [Nat.add_assoc] using hc⟩ (by omega) (by repeat (first | exact Sub.nil | refine Sub.cons (k := ?_))) (.cons _ (.refl _))
    · have hje : j = h.length := by omega
      obtain ⟨L, hL⟩ : ∃ L, L0 ++ (h.take j).map (·.Asset) = L := ⟨_, rfl⟩
      have hLe : L0 ++ h.map (·.Asset) = L := by rw [← hL, hje, List.take_length]
      have hLl : L.length = k + j := by rw [← hL]; simp; omega
      rw [hL, hLe]
      rcases o with _ | ⟨g, c⟩
      · have hLn : L = [] := List.eq_nil_of_length_eq_zero (by rw [hLl]; exact ho rfl)
        (repeat refine go (h := ?_))
        refine AL.callw (sort_nil _) (h := fun y bs' ⟨e1, e2⟩ => ?_)
        subst e1; subst e2
        (repeat refine go (h := ?_))
        refine AL.callw (compact_nil _) (h := fun y bs' ⟨e1, e2⟩ => ?_)
        subst e1; subst e2
        (repeat refine go (h := ?_))
        exact EndQ.fin (bs' := bs) (h := .inl ⟨hLn, rfl, rfl⟩)
      · have hkc := hoc g c rfl
        have hn1 : k + j = L.length := hLl.symm
        rw [hn1]
        (repeat refine go (h := ?_))
        refine AL.callw (sort_a .head (by rw [hLl]; omega)) (h := fun y bs' ⟨e1, e2⟩ => ?_)
        subst e1; subst e2
        rw [← sortT_len L]
        (repeat refine go (h := ?_))
        refine AL.callw (compact_a .head (by rw [sortT_len, hLl]; omega) (by rw [sortT_len, hLl]; omega)) (h := fun y bs' ⟨e1, e2⟩ => ?_)
        subst e1; subst e2
        (repeat refine go (h := ?_))
        exact EndQ.fin (bs' := (g, .rows ((compR (sortT L)).map strR) c 1 tS) :: bs) (h := .inr ⟨g, c, rfl, rfl, by first | (rw [sortT_len, hLl]; exact hkc) | (rw [hLl]; exact hkc)⟩) (hs := .cons_cons _ (.cons _ (.refl _)))
theorem c_x_assets {b : SBook} {r : List Txt} (hF : x_assets b = some r) : APure Try.prog 40 [.agg (rBook b)] (.sl (r.map strR)) := by
  unfold x_assets at hF
  obtain ⟨h, hh, hF⟩ := bnd hF
  obtain ⟨⟨h1, h2⟩, rfl⟩ := ite_some hF
  exact assets_c b h hh h1 h2
end Go.Proofs.Ytnkkfmnpkgjabaa.X
