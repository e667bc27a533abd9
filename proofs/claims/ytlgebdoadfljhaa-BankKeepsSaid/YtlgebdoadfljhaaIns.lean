/- slices.Insert of one fund. -/
import Derived.Test.YtlgebdoadfljhaaDel
import Derived.Lib.AppendZerosOnto
import Derived.Lib.Overlaps
namespace Go.Proofs.Ytlgebdoadfljhaa
open Go.RowKit
set_option linter.unusedVariables false
set_option linter.unusedSimpArgs false

section
variable {P : Program} {ops : Array Oper} {rest : List Oper} {o : Oper} {a : Act} {Q : Exit → Act → World → Prop} {w : World}
theorem ev_copy (hgd : o.guard = none) (d s : Operand) (t : TypeId) (ho : o.op = .call { callee := .builtin .copy, args := #[d, s], argTypes := #[t, t] })
    (e : TypeId) (size : Nat) (ht : P.underlying t = some (.slice e)) (hinfo : (P.info? e).map (·.size) = some size)
    (b p dLen dCap : Nat) (hd : a.eval d = .slice (some ⟨b, p, none⟩) dLen dCap) (g q sLen sCap : Nat) (hs : a.eval s = .slice (some ⟨g, q, none⟩) sLen sCap) (n : Nat) (hn : min sLen dLen = n)
    (cs : List Value) (hl : cs.length = n * size) (hsrc : w.rangeAt g q cs) (hth : w.there b p cs.length) (h1 : ∀ u ∈ cs, u.oneCell' = true)
    (h : ∀ w1, Hid (w1 = w.setCells b p cs) → wpList P ops Q rest (a.put o.dst (goInt n)) w1) : wpList P ops Q (o :: rest) a w := by
  obtain ⟨i, hi, hsz⟩ : ∃ i, P.info? e = some i ∧ i.size = size := by
    cases hq : P.info? e with
    | none => simp [hq] at hinfo
    | some i => exact ⟨i, rfl, by simpa [hq] using hinfo⟩
  subst hsz
  have hfc := run_firstCells_some (P := P) w i.size n ⟨g, q, none⟩ sLen sCap cs hl (fun j v hv => by rw [Addr.add_mid]; exact hsrc j v hv)
  have hst := run_storeCells_cells (P := P) b p cs 0 w (by simpa using fun j hj => (hth j hj).1) (by simpa using fun j hj => (hth j hj).2) h1
  simp only [Nat.add_zero] at hst
  have hrun : (Builtin.copy_ #[t, t] o.type #[.slice (some ⟨b, p, none⟩) dLen dCap, .slice (some ⟨g, q, none⟩) sLen sCap]).run P w = .ok (goInt n) (w.setCells b p cs) := by
    have hn' : Nat.min sLen dLen = n := hn
    simp [Builtin.copy_, run_underlying ht, Builtin.lenOf, sizeOf, typeInfo, hi, hn', hfc, hst, Sem.run_bind]
  refine wpList_plain hgd fun K hK => ?_
  unfold Oper.wp execOp
  simp only [ho, resolve, invoke, builtin, Sem.run_bind, Sem.run_pure, Result.andThen_ok, List.map_toArray, List.map_cons, List.map_nil, hs, hd, hrun]
  exact hK _ _ (h _ (Lib.hid rfl))
theorem at_copy {x y : Operand} {t : TypeId} (_hN : o.op = .call { callee := .builtin .copy, args := #[x, y], argTypes := #[t, t] }) (h : wpList P ops Q (o :: rest) a w) : wpList P ops Q (o :: rest) a w := h
end

/-- A fund more, in place i. -/
def insF (fs : List Fund) (i : Nat) (f : Fund) : List Fund := fs.take i ++ f :: fs.drop i
theorem insF_len (fs : List Fund) (i : Nat) (f : Fund) (hi : i ≤ fs.length) : (insF fs i f).length = fs.length + 1 := by
  unfold insF; simp; omega
theorem insF_get (fs : List Fund) (i : Nat) (f : Fund) (hi : i ≤ fs.length) (q : Nat) : (insF fs i f)[q]? = if q < i then fs[q]? else if q = i then some f else fs[q - 1]? := by
  unfold insF
  rw [List.getElem?_append, List.length_take, Nat.min_eq_left hi]
  by_cases h : q < i
  · rw [if_pos h, if_pos h, List.getElem?_take_of_lt h]
  · rw [if_neg h, if_neg h]
    by_cases h2 : q = i
    · rw [if_pos h2, h2, Nat.sub_self]; rfl
    · rw [if_neg h2, show q - i = (q - 1 - i) + 1 by omega, List.getElem?_cons_succ, List.getElem?_drop, show i + (q - 1 - i) = q - 1 by omega]
theorem insF_end (fs : List Fund) (f : Fund) : rowsF (insF fs fs.length f) = rowsF fs ++ f.row := by
  unfold insF rowsF; simp

set_option maxRecDepth 100000 in
set_option maxHeartbeats 1000000 in
theorem insert_end (B : Nat) (v : Value) (fs : List Fund) (f : Fund) (g c : Nat) (w : World) (hown : w.ownsRow B 41 3 v fs.length (rowsF fs)) (hb : Blk w g 41 f.row) (hn : fs.length ≤ 1000000) (hB : B ≤ w.heap.size) :
    Calls Try.prog 46 #[v, .int .i64 fs.length, .slice (some ⟨g, 0, none⟩) 1 c] w fun e w' => OwnF B (insF fs fs.length f) e w' ∧ Kp v.ownBlock.toList w w' := by
  obtain ⟨A, cp, hv, hcap, hcm⟩ : ∃ A cp, v = .slice A fs.length cp ∧ fs.length ≤ cp ∧ cp ≤ 9223372036854775807 := by
    rcases hown.2 with ⟨h, h0⟩ | ⟨g, cap, cur, h, _, _, h1, h2, _⟩
    · exact ⟨none, 0, by rw [h0]; exact h, by omega, by omega⟩
    · exact ⟨_, cap, h, h1, h2⟩
  subst hv
  have HO := Lib.hid hown
  have HG := Lib.hid hb
  clear hown hb
  have HI := Lib.hid (insF_end fs f)
  have HIL := Lib.hid (insF_len fs fs.length f (Nat.le_refl _))
  generalize hL : fs.length = n at *
  have HL := Lib.hid hL
  clear hL
  go_enter Try.func46, Try.ntmps46
  go_wp2_with (first
    | (at_builtin
       refine ev_append rfl (.tmp 23) (.tmp 24) 23 rfl B 41 _ 3 40 Try.underlying23 info41a rfl (by omega) (.slice A n cp) n _ rfl HO.out g 1 c rfl 41 f.row HG.out rfl f.row_ones (by omega) (by omega) (by omega) hB ?_
       intro g' cap' w1 hown1 hk1 _))
  all_goals
    go_ret
    exact ⟨⟨_, rfl, by rw [HIL.out, HI.out]; exact hown1⟩, by cases A <;> exact hk1⟩

theorem ins_in_place {w w2 : World} {B g cap n i : Nat} {fs : List Fund} {f : Fund} {cur : List Value} (HCL : Hid (cur.length = cap * 3)) (HM : Hid (cap ≤ maxLen)) (HC : Hid (∀ j, j < n * 3 → cur[j]? = (rowsF fs)[j]?)) (HL : Hid (fs.length = n)) (HB : Hid (Blk w g 41 cur)) (hi : i < n) (hnc : n + 1 ≤ cap) (hgB : B ≤ g)
    (h : w2 = (w.drew.setCells g ((i + 1) * 3) (rowsF (fs.drop i))).setCells g (i * 3) f.row) :
    OwnF B (insF fs i f) (.returned (.slice (some ⟨g, 0, none⟩) (n + 1) cap)) w2 ∧ Kp [g] w w2 := by
  have hcl := HCL.out
  have hc := HC.out
  have hl := HL.out
  have hNL : (rowsF (fs.drop i)).length = (n - i) * 3 := by rw [rowsF_len, List.length_drop, hl]
  have hel : (insF fs i f).length = n + 1 := by rw [insF_len _ _ _ (by omega), hl]
  subst h
  refine ⟨⟨_, rfl, ?_⟩, ((Kp.drew w).trans (Kp.setCells g (by simp) _ _ _)).trans (Kp.setCells g (by simp) _ _ _)⟩
  rw [hel]
  have hb2 := Blk.setCells f.row _ (i * 3) _ (Blk.setCells (rowsF (fs.drop i)) cur ((i + 1) * 3) _ (HB.out.keep (Kp.drew (X := []) w) (by simp)))
  refine own_shut hgB hb2 hnc HM.out (by rw [splice_len, splice_len, hcl]) (by rw [rowsF_len, hel]) fun j hj => ?_
  rw [splice_get _ _ _ _ (by rw [splice_len, hcl, Fund.row_len]; omega), Fund.row_len]
  rw [rows_get, insF_get _ _ _ (by omega)]
  by_cases h0 : i * 3 ≤ j ∧ j < i * 3 + 3
  · rw [if_pos h0, if_neg (by omega), if_pos (by omega), show j - i * 3 = j % 3 by omega]; rfl
  · rw [if_neg h0, splice_get _ _ _ _ (by rw [hNL, hcl]; omega), hNL]
    by_cases h1 : (i + 1) * 3 ≤ j ∧ j < (i + 1) * 3 + (n - i) * 3
    · rw [if_pos h1, rows_drop, rows_get, if_neg (by omega), if_neg (by omega), show (i * 3 + (j - (i + 1) * 3)) / 3 = j / 3 - 1 by omega, show (i * 3 + (j - (i + 1) * 3)) % 3 = j % 3 by omega]
    · rw [if_neg h1, hc j (by omega), rows_get, if_pos (by omega)]

theorem shape_blk {w : World} {g : Nat} {t : TypeId} {cs : List Value} (h : Blk w g t cs) : w.shape? g = some (t, cs.length) := by
  unfold Blk at h; simp [World.shape?, h]
set_option maxRecDepth 100000 in
set_option maxHeartbeats 2000000 in
theorem insert_room (B g cap : Nat) (cur : List Value) (fs : List Fund) (f : Fund) (i g2 c : Nat) (w : World) (hgB : B ≤ g) (hb : Blk w g 41 cur) (hcm : cap ≤ maxLen) (hcl : cur.length = cap * 3) (hcur : ∀ j, j < fs.length * 3 → cur[j]? = (rowsF fs)[j]?)
    (hb2 : Blk w g2 41 f.row) (hne : g2 ≠ g) (hi : i < fs.length) (hn : fs.length ≤ 1000000) (hroom : fs.length + 1 ≤ cap) :
    Calls Try.prog 46 #[.slice (some ⟨g, 0, none⟩) fs.length cap, .int .i64 i, .slice (some ⟨g2, 0, none⟩) 1 c] w fun e w' => OwnF B (insF fs i f) e w' ∧ Kp [g] w w' := by
  have hcm' : cap ≤ 9223372036854775807 := by unfold maxLen at hcm; omega
  have hov : ∀ lb cb, (callFunc 67 #[.slice (some ⟨g2, 0, none⟩) 1 c, .slice (some ⟨g, (i + 1) * 3, none⟩) lb cb]).run Try.prog w = .ok (.value (.bool false)) w := fun lb cb => by
    rw [run_callFunc_extern Try.func67 (by kernel_rfl) (by kernel_rfl) (by kernel_rfl) (e := Extern.SlicesOverlaps.overlaps #[23, 23] #[4]) (by kernel_rfl),
      Lib.run_overlaps_apart w 23 4 41 Try.underlying23 3 (fun w => by kernel_rfl) ⟨g2, 0, none⟩ ⟨g, (i + 1) * 3, none⟩ 1 c lb cb hne 41 41 3 cur.length (shape_blk hb2) (shape_blk hb) (by omega) (hb2.frozen _) (hb2.frozen _)]
    rfl
  have HB := Lib.hid hb
  have HB2 := Lib.hid hb2
  have HC := Lib.hid hcur
  have HM := Lib.hid hcm
  have HCL := Lib.hid hcl
  clear hb hcur hcm hcl hb2
  generalize hL : fs.length = n at *
  have HL := Lib.hid hL
  clear hL
  have NL : (rowsF (fs.drop i)).length = (n - i) * 3 := by rw [rowsF_len, List.length_drop, HL.out]
  have HR0 : w.drew.rangeAt g (i * 3) (rowsF (fs.drop i)) := fun j u hu => by
    have hj : j < (n - i) * 3 := by rw [← NL]; exact (List.getElem?_eq_some_iff.1 hu).1
    rw [(HB.out.keep (Kp.drew (X := []) w) (by simp)).cell, HC.out _ (by omega), ← rows_drop]; exact hu
  have HS : w.drew.there g ((i + 1) * 3) (rowsF (fs.drop i)).length := (HB.out.keep (Kp.drew (X := []) w) (by simp)).there (by rw [NL, HCL.out]; omega)
  have hB1 : ∀ w1, w1 = w.drew.setCells g ((i + 1) * 3) (rowsF (fs.drop i)) → w1.there g (i * 3) 3 ∧ w1.rangeAt g2 0 f.row := fun w1 e => by
    subst e
    refine ⟨(Blk.setCells _ _ _ _ (HB.out.keep (Kp.drew (X := []) w) (by simp))).there (by rw [splice_len, HCL.out]; omega), ?_⟩
    exact ((HB2.out.keep (Kp.drew (X := []) w) (by simp)).keep (Kp.setCells (X := [g]) g (by simp) _ _ _) (by simpa using hne)).range
  have HB1 := Lib.hid hB1
  have HNL := Lib.hid NL
  have HHR := Lib.hid HR0
  have HHS := Lib.hid HS
  clear hB1 NL HR0 HS
  have e1 : ((i : Int) == n) = false := by rw [beq_eq_false_iff_ne]; omega
  have e2 : decide ((cap : Int) < (n : Int) + 1) = false := by simp; omega
  have hi1 : (0 : Int) ≤ (i : Int) + 1 := by omega
  have hi2 : (i : Int) + 1 ≤ (n : Int) + 1 := by omega
  have hi5 : (i : Int) ≤ (n : Int) + 1 := by omega
  have hi3 : ¬ cap = i + 1 := by omega
  have hi4 : ¬ cap = i := by omega
  have hin : i ≤ n := by omega
  go_enter Try.func46, Try.ntmps46
  go_wp2_with fail
  have hwr : IntKind.i64.wrap ((i : Int) + 1) = (i : Int) + 1 := IntWalk.i64_in _ ⟨by omega, by omega⟩
  have htn : ((i : Int) + 1).toNat = i + 1 := by omega
  refine wp_region_still_tail 8 (by kernel_rfl) (by kernel_rfl) ?_
  simp only [List.take_succ_cons, List.take_zero, List.drop_succ_cons, List.drop_zero]
  iterate 8 still_step
  refine wpStill_nil ?_
  change wpList _ _ _ _ _ w.drew
  clear hwr htn
  go_wp2_with (first
    | ((with_reducible refine at_copy (x := .tmp 73) rfl ?_); refine ev_copy rfl (.tmp 73) (.tmp 76) 23 rfl 41 3 Try.underlying23 info41 g ((i + 1) * 3) _ _ rfl g (i * 3) _ _ rfl (n - i) (by omega) (rowsF (fs.drop i)) HNL.out HHR.out HHS.out (rowsF_ones _) ?_; intro w1 hw1)
    | ((with_reducible refine at_copy (x := .tmp 80) rfl ?_); refine ev_copy rfl (.tmp 80) (.tmp 81) 23 rfl 41 3 Try.underlying23 info41 g (i * 3) _ _ rfl g2 0 _ _ rfl 1 (by omega) f.row rfl (HB1.out w1 hw1.out).2 (HB1.out w1 hw1.out).1 f.row_ones ?_; intro w2 hw2))
  go_ret
  exact ins_in_place HCL HM HC HL HB hi hroom hgB (by rw [hw2.out, hw1.out])

theorem blk_newA (w : World) (t : TypeId) (C : Array Value) : Blk (w.alloc (.cells C t)) w.heap.size t C.toList := by
  unfold Blk; rw [Array.toArray_toList]; exact heap_alloc_new w _
section
variable {ops : Array Oper} {rest : List Oper} {o : Oper} {a : Act} {Q : Exit → Act → World → Prop} {w : World}
/-- 'append(s, make(S, k)...)' where there is no room. -/
theorem ev_grow_zeros (hgd : o.guard = none) (s x : Operand) (ho : o.op = .call { callee := .builtin .append, args := #[s, x], argTypes := #[23, 3] })
    (g n i k : Nat) (hs : a.eval s = .slice (some ⟨g, 0, none⟩) i n) (hx : a.eval x = .int .i64 k) (olds : List Value) (hl : olds.length = i * 3) (hr : w.rangeAt g 0 olds) (h0 : 0 < k) (hg : n < i + k) (hb : i + k ≤ 2000000)
    (h : ∀ G cap' cur w1, Blk w1 G 41 cur → w.heap.size ≤ G → i + k ≤ cap' → cap' ≤ maxLen → cur.length = cap' * 3 → (∀ j, j < i * 3 → cur[j]? = olds[j]?) → Kp [] w w1 →
      wpList Try.prog ops Q rest (a.put o.dst (.slice (some ⟨G, 0, none⟩) (i + k) cap')) w1) : wpList Try.prog ops Q (o :: rest) a w := by
  obtain ⟨ii, hi, hz, hsize, hby⟩ := info_parts info41a
  have hge := grownCap_ge w (i + k) n 41
  have hle := grownCap_le_maxLen w (i + k) n 41 (by unfold maxLen; omega)
  have hfits := growslice_fits (need := i + k) (old := n) (bytes := 40) hg (by omega)
  have hold : (Builtin.firstCells ii.size i (.slice (some ⟨g, 0, none⟩) i n)).run Try.prog w.drew = .ok olds.toArray w.drew :=
    run_firstCells_some (P := Try.prog) w.drew ii.size i ⟨g, 0, none⟩ i n olds (by rw [hsize]; exact hl) (fun j v hv => by rw [Addr.add_mid]; exact hr j v hv)
  have hrun := Lib.run_append_grow_zeros (P := Try.prog) w 23 3 o.type 41 ii _ .i64 .i64 Try.underlying23 Try.underlying3 hi hz (some ⟨g, 0, none⟩) i n olds hold k h0 (by omega) hg (by omega) (by rw [hby]; omega) (by rw [hby]; exact hfits)
  have hzs : ∀ m, (Builtin.zeroCells (Value.agg #[.string ⟨#[]⟩, .string ⟨#[]⟩, .int .i64 0]).cells m).size = m * 3 := fun m => by simp [Builtin.zeroCells, Value.cells]
  refine Lib.wpList_append_run w hgd s x 23 3 ho _ _ hs hx _ _ hrun (h _ _ _ _ (blk_newA w.drew 41 _) (Nat.le_refl _) hge hle ?_ ?_ ((Kp.drew w).trans (Kp.alloc _ _)))
  · simp only [Array.toList_append, List.length_append, Array.length_toList, hzs, hl]
    omega
  · intro j hj
    rw [Array.toList_append, Array.toList_append, List.append_assoc, List.getElem?_append_left (by rw [hl]; exact hj)]
end
theorem grow_facts {w w1 : World} {g g2 G cap n i : Nat} {fs : List Fund} {f : Fund} {cur cu : List Value} (HbG : Hid (Blk w1 G 41 cu)) (Hcl : Hid (cu.length = cap * 3)) (Hcp : n + 1 ≤ cap) (HB : Hid (Blk w g 41 cur)) (HB2 : Hid (Blk w g2 41 f.row)) (hk : Kp [] w w1)
    (HC : Hid (∀ j, j < n * 3 → cur[j]? = (rowsF fs)[j]?)) (HL : Hid (fs.length = n)) (hi : i < n) (hgl : g < w.heap.size) (hg2l : g2 < w.heap.size) (hG : w.heap.size ≤ G) :
    w1.rangeAt g2 0 f.row ∧ w1.there G (i * 3) 3 ∧ ∀ w2, w2 = w1.setCells G (i * 3) f.row → w2.drew.rangeAt g (i * 3) (rowsF (fs.drop i)) ∧ w2.drew.there G ((i + 1) * 3) (rowsF (fs.drop i)).length := by
  have hNL : (rowsF (fs.drop i)).length = (n - i) * 3 := by rw [rowsF_len, List.length_drop, HL.out]
  refine ⟨(HB2.out.keep hk (by simp)).range, HbG.out.there (by rw [Hcl.out]; omega), fun w2 e => ?_⟩
  subst e
  refine ⟨fun j u hu => ?_, ?_⟩
  · have hj : j < (n - i) * 3 := by rw [← hNL]; exact (List.getElem?_eq_some_iff.1 hu).1
    have hb : Blk (w1.setCells G (i * 3) f.row).drew g 41 cur := ((HB.out.keep hk (by simp)).keep (Kp.setCells (X := [G]) G (by simp) _ _ _) (by simp; omega)).keep (Kp.drew (X := []) _) (by simp)
    rw [hb.cell, HC.out _ (by omega), ← rows_drop]; exact hu
  · have hb := (Blk.setCells f.row _ (i * 3) _ HbG.out).keep (Kp.drew (X := []) _) (by simp)
    exact hb.there (by rw [splice_len, Hcl.out, hNL]; omega)
theorem grow_end {w w1 w3 : World} {B G cap n i : Nat} {fs : List Fund} {f : Fund} {cu : List Value} (HbG : Hid (Blk w1 G 41 cu)) (Hcl : Hid (cu.length = cap * 3)) (Hcm : Hid (cap ≤ maxLen)) (Hcu : Hid (∀ j, j < i * 3 → cu[j]? = (rowsF (fs.take i))[j]?)) (HTK : Hid (∀ j, j < i * 3 → (rowsF (fs.take i))[j]? = (rowsF fs)[j]?))
    (HL : Hid (fs.length = n)) (hi : i < n) (Hcp : n + 1 ≤ cap) (hgB : B ≤ w.heap.size) (hG : w.heap.size ≤ G) (hk : Kp [] w w1)
    (h : w3 = (w1.setCells G (i * 3) f.row).drew.setCells G ((i + 1) * 3) (rowsF (fs.drop i))) :
    OwnF B (insF fs i f) (.returned (.slice (some ⟨G, 0, none⟩) (n + 1) cap)) w3 ∧ Kp [] w w3 := by
  have hcl := Hcl.out
  have hl := HL.out
  have hNL : (rowsF (fs.drop i)).length = (n - i) * 3 := by rw [rowsF_len, List.length_drop, hl]
  have hel : (insF fs i f).length = n + 1 := by rw [insF_len _ _ _ (by omega), hl]
  subst h
  refine ⟨⟨_, rfl, ?_⟩, hk.then_ (((Kp.setCells G (by simp) _ _ _).trans (Kp.drew _)).trans (Kp.setCells (X := [G]) G (by simp) _ _ _)) (by simp [hG])⟩
  rw [hel]
  have hb2 := Blk.setCells (rowsF (fs.drop i)) _ ((i + 1) * 3) _ ((Blk.setCells f.row cu (i * 3) _ HbG.out).keep (Kp.drew (X := []) _) (by simp))
  refine own_shut (by omega) hb2 Hcp Hcm.out (by rw [splice_len, splice_len, hcl]) (by rw [rowsF_len, hel]) fun j hj => ?_
  rw [splice_get _ _ _ _ (by rw [splice_len, hcl, hNL]; omega), hNL]
  rw [rows_get (insF fs i f), insF_get _ _ _ (by omega)]
  by_cases h1 : (i + 1) * 3 ≤ j ∧ j < (i + 1) * 3 + (n - i) * 3
  · rw [if_pos h1, rows_drop, rows_get, if_neg (by omega), if_neg (by omega), show (i * 3 + (j - (i + 1) * 3)) / 3 = j / 3 - 1 by omega, show (i * 3 + (j - (i + 1) * 3)) % 3 = j % 3 by omega]
  · rw [if_neg h1, splice_get _ _ _ _ (by rw [hcl, Fund.row_len]; omega), Fund.row_len]
    by_cases h0 : i * 3 ≤ j ∧ j < i * 3 + 3
    · rw [if_pos h0, if_neg (by omega), if_pos (by omega), show j - i * 3 = j % 3 by omega]; rfl
    · rw [if_neg h0, Hcu.out j (by omega), HTK.out j (by omega), rows_get, if_pos (by omega)]
set_option maxRecDepth 100000 in
set_option maxHeartbeats 2000000 in
theorem insert_grow (B g : Nat) (cur : List Value) (fs : List Fund) (f : Fund) (i g2 c : Nat) (w : World) (hgB : B ≤ w.heap.size) (hb : Blk w g 41 cur) (hcl : cur.length = fs.length * 3) (hcur : ∀ j, j < fs.length * 3 → cur[j]? = (rowsF fs)[j]?)
    (hb2 : Blk w g2 41 f.row) (hi : i < fs.length) (hn : fs.length ≤ 1000000) :
    Calls Try.prog 46 #[.slice (some ⟨g, 0, none⟩) fs.length fs.length, .int .i64 i, .slice (some ⟨g2, 0, none⟩) 1 c] w fun e w' => OwnF B (insF fs i f) e w' ∧ Kp [] w w' := by
  have hgl := hb.lt
  have hg2l := hb2.lt
  have HB := Lib.hid hb
  have HB2 := Lib.hid hb2
  have HC := Lib.hid hcur
  have HCL := Lib.hid hcl
  clear hb hcur hcl hb2
  generalize hL : fs.length = n at *
  have HL := Lib.hid hL
  clear hL
  have HOL : Hid ((rowsF (fs.take i)).length = i * 3) := Lib.hid (by rw [rowsF_len, List.length_take, HL.out]; omega)
  have HTK : Hid (∀ j, j < i * 3 → (rowsF (fs.take i))[j]? = (rowsF fs)[j]?) := Lib.hid (fun j hj => by
    rw [rows_get, rows_get, List.getElem?_take_of_lt (by omega)])
  have HR1 : Hid (w.rangeAt g 0 (rowsF (fs.take i))) := Lib.hid (fun j u hu => by
    have hj : j < i * 3 := by rw [← HOL.out]; exact (List.getElem?_eq_some_iff.1 hu).1
    rw [Nat.zero_add, HB.out.cell, HC.out _ (by omega), ← HTK.out j hj]; exact hu)
  have e1 : ((i : Int) == n) = false := by rw [beq_eq_false_iff_ne]; omega
  have e2 : decide ((n : Int) < (n : Int) + 1) = true := by simp; omega
  have hi1 : (0 : Int) ≤ (i : Int) + 1 := by omega
  have hi2 : (i : Int) + 1 ≤ (n : Int) + 1 := by omega
  have hi5 : (i : Int) ≤ (n : Int) + 1 := by omega
  have hi4 : ¬ n = i := by omega
  have hin : i ≤ n := by omega
  go_enter Try.func46, Try.ntmps46
  go_wp2_with (first
    | (at_builtin
       rw [show ((n : Int) + 1 - i) = ((n + 1 - i : Nat) : Int) from by omega]
       refine ev_grow_zeros rfl (.tmp 34) (.tmp 39) rfl g n i (n + 1 - i) rfl rfl (rowsF (fs.take i)) HOL.out HR1.out (by omega) (by omega) (by omega) ?_
       intro G cap' cu w1 hbG hGw hcp hcm hcl hcu hk1
       rw [show i + (n + 1 - i) = n + 1 from by omega]
       have hcm' : cap' ≤ 9223372036854775807 := (by unfold maxLen at hcm; omega)
       have hc1 : ¬ cap' = i := (by omega)
       have hc2 : ¬ cap' = i + 1 := (by omega)
       have HbG := Lib.hid hbG
       have Hcl := Lib.hid hcl
       have Hcu := Lib.hid hcu
       have Hcm := Lib.hid hcm
       have Hcp : n + 1 ≤ cap' := (by omega)
       have hB1 := Lib.hid (grow_facts HbG Hcl Hcp HB HB2 hk1 HC HL hi hgl hg2l hGw)
       clear hbG hcl hcu hcm hcp)
    | ((with_reducible refine at_copy (x := .tmp 43) rfl ?_); refine ev_copy rfl (.tmp 43) (.tmp 44) 23 rfl 41 3 Try.underlying23 info41 G (i * 3) _ _ rfl g2 0 _ _ rfl 1 (by omega) f.row rfl hB1.out.1 hB1.out.2.1 f.row_ones ?_; intro w2 hw2))
  have hwr : IntKind.i64.wrap ((i : Int) + 1) = (i : Int) + 1 := IntWalk.i64_in _ ⟨by omega, by omega⟩
  have htn : ((i : Int) + 1).toNat = i + 1 := by omega
  refine wp_region_still_tail 8 (by kernel_rfl) (by kernel_rfl) ?_
  simp only [List.take_succ_cons, List.take_zero, List.drop_succ_cons, List.drop_zero]
  iterate 8 still_step
  refine wpStill_nil ?_
  change wpList _ _ _ _ _ w2.drew
  clear hwr htn
  go_wp2_with (first
    | ((with_reducible refine at_copy (x := .tmp 50) rfl ?_); refine ev_copy rfl (.tmp 50) (.tmp 53) 23 rfl 41 3 Try.underlying23 info41 G ((i + 1) * 3) _ _ rfl g (i * 3) _ _ rfl (n - i) (by omega) (rowsF (fs.drop i)) (by rw [rowsF_len, List.length_drop, HL.out]) (hB1.out.2.2 w2 hw2.out).1 (hB1.out.2.2 w2 hw2.out).2 (rowsF_ones _) ?_; intro w3 hw3))
  go_ret
  exact grow_end HbG Hcl Hcm Hcu HTK HL hi Hcp hgB hGw hk1 (by rw [hw3.out, hw2.out])

/-- slices.Insert of one fund into a row of one's own. -/
theorem insert_any (B : Nat) (v : Value) (fs : List Fund) (f : Fund) (i g2 c : Nat) (w : World) (hown : w.ownsRow B 41 3 v fs.length (rowsF fs)) (hb2 : Blk w g2 41 f.row) (hne : v.ownBlock ≠ some g2) (hi : i ≤ fs.length) (hn : fs.length ≤ 1000000) (hB : B ≤ w.heap.size) :
    Calls Try.prog 46 #[v, .int .i64 i, .slice (some ⟨g2, 0, none⟩) 1 c] w fun e w' => OwnF B (insF fs i f) e w' ∧ Kp v.ownBlock.toList w w' := by
  rcases Nat.lt_or_ge i fs.length with h | h
  · obtain ⟨g, cap, cur, rfl, hg, hb, h1, h2, h3, h4⟩ := own_open hown (by omega)
    have hgg : g2 ≠ g := fun e => hne (by rw [e]; rfl)
    rcases Nat.lt_or_ge fs.length cap with hc | hc
    · exact insert_room B g cap cur fs f i g2 c w hg hb h2 h3 h4 hb2 hgg h hn hc
    · obtain rfl : cap = fs.length := by omega
      exact (insert_grow B g cur fs f i g2 c w hB hb h3 h4 hb2 h hn).mono fun e w' ⟨a, b⟩ => ⟨a, b.mono (by simp)⟩
  · obtain rfl : i = fs.length := by omega
    exact insert_end B v fs f g2 c w hown hb2 hn hB
end Go.Proofs.Ytlgebdoadfljhaa
