/- slices.Delete of one fund. -/
import Derived.Test.YtlgebdoadfljhaaClone
import Derived.ArgAppend
namespace Go.Proofs.Ytlgebdoadfljhaa
open Go.RowKit
set_option linter.unusedVariables false
set_option linter.unusedSimpArgs false

section
variable {P : Program} {ops : Array Oper} {rest : List Oper} {o : Oper} {a : Act} {Q : Exit → Act → World → Prop} {w : World}
/-- 'append(s, x...)' where there is room. -/
theorem ev_append_room (hgd : o.guard = none) (s x : Operand) (t : TypeId) (ho : o.op = .call { callee := .builtin .append, args := #[s, x], argTypes := #[t, t] })
    (e : TypeId) (size : Nat) (ht : P.underlying t = some (.slice e)) (hinfo : (P.info? e).map (·.size) = some size)
    (b off n cap : Nat) (hs : a.eval s = .slice (some ⟨b, off, none⟩) n cap) (g p m c : Nat) (hx : a.eval x = .slice (some ⟨g, p, none⟩) m c) (news : List Value) (hl : news.length = m * size) (hnews : w.rangeAt g p news) (h1 : ∀ u ∈ news, u.oneCell' = true)
    (hroom : n + m ≤ cap) (hspare : w.there b (off + n * size) news.length)
    (h : ∀ w1, Hid (w1 = w.setCells b (off + n * size) news) → wpList P ops Q rest (a.put o.dst (.slice (some ⟨b, off, none⟩) (n + m) cap)) w1) : wpList P ops Q (o :: rest) a w := by
  obtain ⟨i, hi, hsz⟩ : ∃ i, P.info? e = some i ∧ i.size = size := by
    cases hq : P.info? e with
    | none => simp [hq] at hinfo
    | some i => exact ⟨i, rfl, by simpa [hq] using hinfo⟩
  subst hsz
  have hrun := run_append_room_cells (P := P) w t o.type e i ht hi b off n cap ⟨g, p, none⟩ m c news hl (fun j u hu => by rw [Addr.add_mid]; exact hnews j u hu) h1 hroom (fun j hj => (hspare j hj).1) (fun j hj => (hspare j hj).2)
  refine wpList_plain hgd fun K hK => ?_
  unfold Oper.wp execOp
  simp only [ho, resolve, invoke, builtin, Sem.run_bind, Sem.run_pure, Result.andThen_ok, List.map_toArray, List.map_cons, List.map_nil, hs, hx, hrun]
  exact hK _ _ (h _ (Lib.hid rfl))
theorem at_clear {x : Operand} {t : TypeId} (_hN : o.op = .call { callee := .builtin .clear, args := #[x], argTypes := #[t] }) (h : wpList P ops Q (o :: rest) a w) : wpList P ops Q (o :: rest) a w := h
/-- 'clear(x)' of one place. -/
theorem ev_clear (hgd : o.guard = none) (x : Operand) (t : TypeId) (ho : o.op = .call { callee := .builtin .clear, args := #[x], argTypes := #[t] })
    (e : TypeId) (z : Value) (hz : ∀ w, (zeroValue e).run P w = .ok z w) (zs : List Value) (hzs : z.cells = zs.toArray) (ht : P.underlying t = some (.slice e))
    (g p c : Nat) (hx : a.eval x = .slice (some ⟨g, p, none⟩) 1 c) (hth : w.there g p zs.length) (h1 : ∀ v ∈ zs, v.oneCell' = true)
    (h : ∀ w1, Hid (w1 = w.setCells g p zs) → wpList P ops Q rest (a.put o.dst (.tuple #[])) w1) : wpList P ops Q (o :: rest) a w := by
  have hzc : (Builtin.zeroCells z.cells 1).toList = zs := by
    rw [hzs]
    apply List.ext_getElem?
    intro j
    simp only [Builtin.zeroCells, Nat.one_mul, Array.toList_map, Array.toList_range, List.getElem?_map]
    by_cases hj : j < zs.length
    · rw [List.getElem?_range (by simpa using hj)]
      simp only [Option.map_some, List.size_toArray, Nat.mod_eq_of_lt hj]
      rw [List.getElem?_eq_getElem hj]
      simp [hj]
    · rw [List.getElem?_eq_none (by simpa using hj), List.getElem?_eq_none (by omega)]; rfl
  have hst := run_storeCells_cells (P := P) g p zs 0 w (by simpa using fun j hj => (hth j hj).1) (by simpa using fun j hj => (hth j hj).2) h1
  have hrun : (Builtin.clear_ #[t] o.type #[.slice (some ⟨g, p, none⟩) 1 c]).run P w = .ok (.tuple #[]) (w.setCells g p zs) := by
    simp [Builtin.clear_, run_underlying ht, hz, hzc, hst, Sem.run_bind]
  refine wpList_plain hgd fun K hK => ?_
  unfold Oper.wp execOp
  simp only [ho, resolve, invoke, builtin, Sem.run_bind, Sem.run_pure, Result.andThen_ok, List.map_toArray, List.map_cons, List.map_nil, hx, hrun]
  exact hK _ _ (h _ (Lib.hid rfl))
end
theorem rows_get (fs : List Fund) (j : Nat) : (rowsF fs)[j]? = (fs[j / 3]?).bind fun f => f.row[j % 3]? := by
  unfold rowsF
  induction fs generalizing j with
  | nil => simp
  | cons f fs ih =>
    rw [List.map_cons, List.flatten_cons]
    by_cases h : j < 3
    · rw [List.getElem?_append_left (by rw [Fund.row_len]; exact h), show j / 3 = 0 by omega, show j % 3 = j by omega]; rfl
    · rw [List.getElem?_append_right (by rw [Fund.row_len]; omega), Fund.row_len, ih, show j / 3 = (j - 3) / 3 + 1 by omega, show j % 3 = (j - 3) % 3 by omega]; rfl
theorem rows_drop (fs : List Fund) (k j : Nat) : (rowsF (fs.drop k))[j]? = (rowsF fs)[k * 3 + j]? := by
  rw [rows_get, rows_get, List.getElem?_drop, show (k * 3 + j) / 3 = k + j / 3 by omega, show (k * 3 + j) % 3 = j % 3 by omega]
/-- What a row of one's own that is not empty looks like. -/
theorem own_open {w : World} {B n : Nat} {v : Value} {xs : List Value} (h : w.ownsRow B 41 3 v n xs) (hn : 0 < n) :
    ∃ g cap cur, v = .slice (some ⟨g, 0, none⟩) n cap ∧ B ≤ g ∧ Blk w g 41 cur ∧ n ≤ cap ∧ cap ≤ maxLen ∧ cur.length = cap * 3 ∧ ∀ j, j < n * 3 → cur[j]? = xs[j]? := by
  rcases h.2 with ⟨_, h0⟩ | ⟨g, cap, cur, hv, hg, hh, h1, h2, h3, h4⟩
  · omega
  · refine ⟨g, cap, cur.toList, hv, hg, hh, h1, h2, by simpa using h3, fun j hj => ?_⟩
    rw [← h4, List.getElem?_take_of_lt hj]
theorem own_shut {w : World} {B n g cap : Nat} {xs cur : List Value} (hg : B ≤ g) (hb : Blk w g 41 cur) (hn : n ≤ cap) (hc : cap ≤ maxLen) (hl : cur.length = cap * 3) (hx : xs.length = n * 3) (he : ∀ j, j < n * 3 → cur[j]? = xs[j]?) :
    w.ownsRow B 41 3 (.slice (some ⟨g, 0, none⟩) n cap) n xs := by
  refine ⟨hx, .inr ⟨g, cap, cur.toArray, rfl, hg, hb, hn, hc, by simpa using hl, ?_⟩⟩
  apply List.ext_getElem?
  intro j
  by_cases hj : j < n * 3
  · rw [List.getElem?_take_of_lt hj]; exact he j hj
  · rw [List.getElem?_eq_none (by simp; omega), List.getElem?_eq_none (by omega)]

def fzero : List Value := [.string ⟨#[]⟩, .string ⟨#[]⟩, .int .i64 0]
theorem del_end {w w2 : World} {B g cap n i : Nat} {fs : List Fund} {cur : List Value} (HCL : Hid (cur.length = cap * 3)) (HM : Hid (cap ≤ maxLen)) (HC : Hid (∀ j, j < n * 3 → cur[j]? = (rowsF fs)[j]?)) (HL : Hid (fs.length = n)) (HB : Hid (Blk w g 41 cur)) (hi : i < n) (hnc : n ≤ cap) (hgB : B ≤ g)
    (h : w2 = (w.drew.setCells g (0 + i * 3) (rowsF (fs.drop (i + 1)))).setCells g ((n - 1) * 3) fzero) :
    OwnF B (fs.eraseIdx i) (.returned (.slice (some ⟨g, 0, none⟩) (n - 1) cap)) w2 ∧ Kp (Value.slice (some ⟨g, 0, none⟩) n cap).ownBlock.toList w w2 := by
  have hcl := HCL.out
  have hc := HC.out
  have hl := HL.out
  have hNL : (rowsF (fs.drop (i + 1))).length = (n - (i + 1)) * 3 := by rw [rowsF_len, List.length_drop, hl]
  have hel : (fs.eraseIdx i).length = n - 1 := by rw [List.length_eraseIdx, if_pos (by omega), hl]
  subst h
  refine ⟨⟨_, rfl, ?_⟩, ((Kp.drew w).trans (Kp.setCells g (by simp [Value.ownBlock]) _ _ _)).trans (Kp.setCells g (by simp [Value.ownBlock]) _ _ _)⟩
  rw [hel]
  have hb2 := Blk.setCells fzero _ ((n - 1) * 3) _ (Blk.setCells (rowsF (fs.drop (i + 1))) cur (0 + i * 3) _ (HB.out.keep (Kp.drew (X := []) w) (by simp)))
  refine own_shut hgB hb2 (by omega) HM.out (by rw [splice_len, splice_len, hcl]) (by rw [rowsF_len, hel]) fun j hj => ?_
  rw [splice_get _ _ _ _ (by rw [splice_len, hcl]; simp only [fzero, List.length_cons, List.length_nil]; omega), if_neg (by omega), splice_get _ _ _ _ (by rw [hNL, hcl]; omega), hNL]
  by_cases h1 : 0 + i * 3 ≤ j ∧ j < 0 + i * 3 + (n - (i + 1)) * 3
  · rw [if_pos h1, rows_drop, rows_get, rows_get, List.getElem?_eraseIdx, if_neg (by omega), show ((i + 1) * 3 + (j - (0 + i * 3))) / 3 = j / 3 + 1 by omega, show ((i + 1) * 3 + (j - (0 + i * 3))) % 3 = j % 3 by omega]
  · rw [if_neg h1, hc j (by omega), rows_get, rows_get, List.getElem?_eraseIdx, if_pos (by omega)]
set_option maxRecDepth 100000 in
set_option maxHeartbeats 1000000 in
theorem delete_any (B : Nat) (v : Value) (fs : List Fund) (i : Nat) (w : World) (hown : w.ownsRow B 41 3 v fs.length (rowsF fs)) (hi : i < fs.length) (hn : fs.length ≤ 1000000) :
    Calls Try.prog 45 #[v, .int .i64 i, .int .i64 ((i : Int) + 1)] w fun e w' => OwnF B (fs.eraseIdx i) e w' ∧ Kp v.ownBlock.toList w w' := by
  obtain ⟨g, cap, cur, rfl, hgB, hb, hnc, hcm, hcl, hcur⟩ := own_open hown (by omega)
  clear hown
  have hcm' : cap ≤ 9223372036854775807 := by unfold maxLen at hcm; omega
  have HB := Lib.hid hb
  have HC := Lib.hid hcur
  have HM := Lib.hid hcm
  have HCL := Lib.hid hcl
  clear hb hcur hcm hcl
  generalize hL : fs.length = n at *
  have HL := Lib.hid hL
  clear hL
  have e1 : ((i : Int) == (i : Int) + 1) = false := by rw [beq_eq_false_iff_ne]; omega
  have hi1 : (0 : Int) ≤ (i : Int) + 1 := by omega
  have hi2 : (i : Int) + 1 ≤ n := by omega
  have hicap : i ≤ cap := by omega
  have hin1 : i + 1 ≤ n := by omega
  have NL : (rowsF (fs.drop (i + 1))).length = (n - (i + 1)) * 3 := by rw [rowsF_len, List.length_drop, HL.out]
  have HS : w.drew.there g (0 + i * 3) (rowsF (fs.drop (i + 1))).length := (HB.out.keep (Kp.drew (X := []) w) (by simp)).there (by rw [NL, HCL.out]; omega)
  have HR0 : w.drew.rangeAt g ((i + 1) * 3) (rowsF (fs.drop (i + 1))) := fun j u hu => by
    have hj : j < (n - (i + 1)) * 3 := by rw [← NL]; exact (List.getElem?_eq_some_iff.1 hu).1
    rw [(HB.out.keep (Kp.drew (X := []) w) (by simp)).cell, HC.out _ (by omega), ← rows_drop]; exact hu
  have CT : ∀ w1, w1 = w.drew.setCells g (0 + i * 3) (rowsF (fs.drop (i + 1))) → w1.there g ((n - 1) * 3) fzero.length := fun w1 e => by
    subst e
    exact (Blk.setCells _ _ _ _ (HB.out.keep (Kp.drew (X := []) w) (by simp))).there (by rw [splice_len, HCL.out]; simp only [fzero, List.length_cons, List.length_nil]; omega)
  by_cases hcc : cap = i + 1
  · have HR : w.drew.rangeAt g 0 (rowsF (fs.drop (i + 1))) := fun j u hu => by
      have hj : j < (n - (i + 1)) * 3 := by rw [← NL]; exact (List.getElem?_eq_some_iff.1 hu).1
      omega
    clear HR0
    obtain rfl : cap = n := by omega
    have NL0 : (rowsF (fs.drop (i + 1))).length = 0 * 3 := by rw [NL]; omega
    have HNL := Lib.hid NL0
    have HHR := Lib.hid HR
    have HHS := Lib.hid HS
    have HCT := Lib.hid CT
    have hcs : i + 1 = cap := hcc.symm
    have hic2 : i ≤ cap := by omega
    clear hcc NL NL0 HR HS CT
    go_enter Try.func45, Try.ntmps45
    go_wp2_with fail
    refine wp_region_still_tail 6 (by kernel_rfl) (by kernel_rfl) ?_
    simp only [List.take_succ_cons, List.take_zero, List.drop_succ_cons, List.drop_zero]
    iterate 6 still_step
    refine wpStill_nil ?_
    change wpList _ _ _ _ _ w.drew
    go_show
    go_wp2_with (first
      | (at_builtin
         refine ev_append_room rfl (.tmp 22) (.tmp 25) 23 rfl 41 3 Try.underlying23 info41 g 0 i cap rfl g 0 0 _ rfl (rowsF (fs.drop (i + 1))) HNL.out HHR.out (rowsF_ones _) (by omega) HHS.out ?_
         intro w1 hw1
         rw [show i + 0 = cap - 1 from by omega])
      | ((with_reducible refine at_clear rfl ?_); rw [show cap - (cap - 1) = 1 from by omega]; refine ev_clear rfl (.tmp 31) 23 rfl 41 _ Try.zeroValue41 fzero rfl Try.underlying23 g ((cap - 1) * 3) _ rfl (HCT.out w1 hw1.out) (by simp [fzero, Value.oneCell']) ?_; intro w2 hw2))
    go_ret
    exact del_end HCL HM HC HL HB hi hnc hgB (by rw [hw2.out, hw1.out])
  · have HR := HR0
    clear HR0
    have hi3 : i + 1 < cap := by omega
    go_enter Try.func45, Try.ntmps45
    go_wp2_with fail
    refine wp_region_still_tail 6 (by kernel_rfl) (by kernel_rfl) ?_
    simp only [List.take_succ_cons, List.take_zero, List.drop_succ_cons, List.drop_zero]
    iterate 6 still_step
    refine wpStill_nil ?_
    change wpList _ _ _ _ _ w.drew
    go_wp2_with (first
      | (at_builtin
         refine ev_append_room rfl (.tmp 22) (.tmp 25) 23 rfl 41 3 Try.underlying23 info41 g 0 i cap rfl g ((i + 1) * 3) (n - (i + 1)) _ rfl (rowsF (fs.drop (i + 1))) NL HR (rowsF_ones _) (by omega) HS ?_
         intro w1 hw1
         rw [show i + (n - (i + 1)) = n - 1 from by omega])
      | ((with_reducible refine at_clear rfl ?_); rw [show n - (n - 1) = 1 from by omega]; refine ev_clear rfl (.tmp 31) 23 rfl 41 _ Try.zeroValue41 fzero rfl Try.underlying23 g ((n - 1) * 3) _ rfl (CT w1 hw1.out) (by simp [fzero, Value.oneCell']) ?_; intro w2 hw2))
    go_ret
    exact del_end HCL HM HC HL HB hi hnc hgB (by rw [hw2.out, hw1.out])
end Go.Proofs.Ytlgebdoadfljhaa
