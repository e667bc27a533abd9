/- put: an account has so much more, or less. -/
import Derived.Test.YtlgebdoadfljhaaIns
namespace Go.Proofs.Ytlgebdoadfljhaa
open Go.RowKit
set_option linter.unusedVariables false
set_option linter.unusedSimpArgs false

section
variable {P : Program} {ops : Array Oper} {rest : List Oper} {o : Oper} {a : Act} {Q : Exit → Act → World → Prop} {w : World}
/-- A store of one cell into a block of one's own. -/
theorem ev_store_cell (hgd : o.guard = none) (ty : TypeId) (x y : Operand) (ho : o.op = .store ty x y) (g p : Nat) (hx : a.eval x = .pointer (some ⟨g, p, none⟩)) (v : Value) (hy : a.eval y = v) (hv : v.cells = #[v]) (h1 : v.oneCell' = true)
    (t : TypeId) (cs : List Value) (hb : Blk w g t cs) (hp : p < cs.length) (hi : (P.info? ty).map (·.size) = some 1)
    (h : ∀ w1, Blk w1 g t (cs.set p v) → Kp [g] w w1 → wpList P ops Q rest (a.put o.dst undef) w1) : wpList P ops Q (o :: rest) a w := by
  obtain ⟨i, hq, hs⟩ : ∃ i, P.info? ty = some i ∧ i.size = 1 := by
    cases hq : P.info? ty with
    | none => simp [hq] at hi
    | some i => exact ⟨i, rfl, by simpa [hq] using hi⟩
  have hth := hb.there (o := p) (n := 1) (by omega)
  have hst := run_storeCells_cells (P := P) g p [v] 0 w (by simpa using fun j hj => (hth j hj).1) (by simpa using fun j hj => (hth j hj).2) (by simpa using h1)
  simp only [Nat.add_zero] at hst
  have hrun : (Instr.storeAt ty (.pointer (some ⟨g, p, none⟩)) v).run P w = .ok () (w.setCells g p [v]) := by
    simp only [Instr.storeAt, Instr.sureAddr, Sem.run_bind, Sem.run_pure, Result.andThen_ok, storeVar, sizeOf, typeInfo, hq, hs, hv]
    simp [hq, hs, hst, Sem.run_bind]
  refine ev_skip hgd (w1 := w.setCells g p [v]) ?_ (h _ (Blk.setCells [v] cs p w hb) (Kp.setCells g (by simp) _ _ _))
  unfold execOp
  simp only [ho, hx, hy, Sem.run_bind, hrun, Result.andThen_ok, Sem.run_pure]
end
/-- A function of one result, in a cell. -/
theorem ret_cell {P : Program} {fn : Func} {R : Ending → World → Prop} {a : Act} {w : World} {p : Tmp} {ty : TypeId} {g : Nat} {cs : List Value} {d : TypeDesc}
    (h : fn.results = #[.cell p ty]) (hd : a.defers = []) (hp : a.tmps.getD p undef = .pointer (some ⟨g, 0, none⟩)) (hc : w.rangeAt g 0 cs)
    (hu : P.underlying ty = some d) (hr : d.isRow = true) (hi : (P.info? ty).map (·.size) = some cs.length)
    (hR : R (.returned (.agg cs.toArray)) w) : bodyPost P fn R .ret a w := by
  refine bodyPost_ret (v := .agg cs.toArray) ?_ hd hR
  simp only [results, h]
  have hp' : a.tmps[p]?.getD undef = .pointer (some ⟨g, 0, none⟩) := by simpa using hp
  simp [Sem.run_bind, hp', asAddr, Result.andThen, run_loadVar_mid w g 0 ty cs d hc hu hr hi]
theorem own_keep {w w' : World} {base n size : Nat} {e : TypeId} {v : Value} {xs : List Value} {X : List Nat} (h : w.ownsRow base e size v n xs) (k : Kp X w w') (hX : ∀ x ∈ X, x < base) : w'.ownsRow base e size v n xs := by
  refine ⟨h.1, ?_⟩
  rcases h.2 with h2 | ⟨g, cap, cur, hv, hg, hh, r⟩
  · exact .inl h2
  · refine .inr ⟨g, cap, cur, hv, hg, ?_, r⟩
    have hlt : g < w.heap.size := by
      rcases Nat.lt_or_ge g w.heap.size with hl | hl
      · exact hl
      · rw [Array.getElem?_eq_none hl] at hh; cases hh
    rw [k.block g hlt (fun hm => by have := hX g hm; omega)]; exact hh

/-- What the funds are when the one at t has so much (p: where it stands, or should). -/
def putF (fs : List Fund) (t : ByteArray × ByteArray) (p : Nat) (n : Int) : List Fund :=
  if foundAt fs t p = true then (if n = 0 then fs.eraseIdx p else fs.set p ⟨t.1, t.2, n⟩) else if n = 0 then fs else insF fs p ⟨t.1, t.2, n⟩
def bookCells (num tm : Int) (va vf ve : Value) : List Value := [.int .i64 num, .int .i64 tm, va, vf, ve]
/-- A book comes back, its funds a row of its own. -/
def PutB (B : Nat) (num tm : Int) (va ve : Value) (fs : List Fund) (e : Ending) (w' : World) : Prop :=
  ∃ v, e = .returned (.agg (bookCells num tm va v ve).toArray) ∧ w'.ownsRow B 41 3 v fs.length (rowsF fs)

theorem put_start {w w1 w2 w3 w4 : World} {g4 g8 g9 : Nat} {b4 b8 b9 c9 : List Value} (hg4 : w.heap.size ≤ g4) (hb4 : Blk w1 g4 26 b4) (hk1 : Kp [] w w1) (hg8 : w1.heap.size ≤ g8) (hb8 : Blk w2 g8 26 b8) (hk2 : Kp [] w1 w2) (hg9 : w2.heap.size ≤ g9) (hb9 : Blk w3 g9 41 b9) (hk3 : Kp [] w2 w3) (hc9 : Blk w4 g9 41 c9) (hk4 : Kp [g9] w3 w4) :
    Kp [] w w4 ∧ Blk w4 g4 26 b4 ∧ Blk w4 g8 26 b8 ∧ g4 ≠ g8 ∧ g4 ≠ g9 ∧ g8 ≠ g9 ∧ w.heap.size ≤ g4 ∧ w.heap.size ≤ g8 ∧ w.heap.size ≤ g9 := by
  have l4 := hb4.lt
  have l8 := hb8.lt
  have s1 := hk1.size
  have s2 := hk2.size
  have s3 := hk3.size
  exact ⟨((hk1.trans hk2).trans hk3).then_ hk4 (by simp; omega), ((hb4.keep hk2 (by simp)).keep hk3 (by simp)).keep hk4 (by simp; omega), (hb8.keep hk3 (by simp)).keep hk4 (by simp; omega), by omega, by omega, by omega, by omega, by omega, by omega⟩
theorem put_mid {w w4 w5 w6 w7 : World} {g4 g8 g9 : Nat} {b4 b8 : List Value} (HK4 : Hid (Kp [] w w4)) (HB4 : Hid (Blk w4 g4 26 b4)) (HB8 : Hid (Blk w4 g8 26 b8)) (hk5 : Kp [] w4 w5) (hk6 : Kp [] w5 w6) (hk7 : Kp [g9] w6 w7) (g49 : g4 ≠ g9) (g89 : g8 ≠ g9) (gl9 : w.heap.size ≤ g9) :
    Kp [] w w7 ∧ Blk w7 g4 26 b4 ∧ Blk w7 g8 26 b8 :=
  ⟨((HK4.out.trans hk5).trans hk6).then_ hk7 (by simp [gl9]), ((HB4.out.keep hk5 (by simp)).keep hk6 (by simp)).keep hk7 (by simp [g49]), ((HB8.out.keep hk5 (by simp)).keep hk6 (by simp)).keep hk7 (by simp [g89])⟩
theorem put_late {w w7 w8 w9 : World} {g4 g8 g9 : Nat} {b8 b9 : List Value} {v : Value} {fs : List Fund} (HK7 : Hid (Kp [] w w7)) (HB8 : Hid (Blk w7 g8 26 b8)) (HB9 : Hid (Blk w7 g9 41 b9)) (hk8 : Kp [] w7 w8) (hk9 : Kp [g4] w8 w9) (hown : w8.ownsRow w7.heap.size 41 3 v fs.length (rowsF fs)) (g48 : g4 ≠ g8) (g49 : g4 ≠ g9) (gl4 : w.heap.size ≤ g4) (hl4 : g4 < w7.heap.size) :
    Kp [] w w9 ∧ Blk w9 g8 26 b8 ∧ Blk w9 g9 41 b9 ∧ w9.ownsRow w7.heap.size 41 3 v fs.length (rowsF fs) :=
  ⟨(HK7.out.trans hk8).then_ hk9 (by simp [gl4]), (HB8.out.keep hk8 (by simp)).keep hk9 (by simp [Ne.symm g48]), (HB9.out.keep hk8 (by simp)).keep hk9 (by simp [Ne.symm g49]), own_keep hown hk9 (by simpa using hl4)⟩
theorem own_cell {w : World} {base n size : Nat} {e : TypeId} {v : Value} {xs : List Value} (h : w.ownsRow base e size v n xs) : v.cells = #[v] := by
  rcases h.2 with ⟨rfl, _⟩ | ⟨g, cap, cur, rfl, _⟩ <;> rfl
theorem own_one {w : World} {base n size : Nat} {e : TypeId} {v : Value} {xs : List Value} (h : w.ownsRow base e size v n xs) : v.oneCell' = true := by
  rcases h.2 with ⟨rfl, _⟩ | ⟨g, cap, cur, rfl, _⟩ <;> rfl
theorem own_base {w : World} {base B n size : Nat} {e : TypeId} {v : Value} {xs : List Value} (h : w.ownsRow base e size v n xs) (hb : B ≤ base) : w.ownsRow B e size v n xs := by
  refine ⟨h.1, ?_⟩
  rcases h.2 with h2 | ⟨g, cap, cur, hv, hg, r⟩
  · exact .inl h2
  · exact .inr ⟨g, cap, cur, hv, Nat.le_trans hb hg, r⟩
theorem put_end {w w9 w10 w11 w12 : World} {B g4 g8 : Nat} {num tm : Int} {va ve v2 : Value} {fs es : List Fund} {X : List Nat} (HK9 : Hid (Kp [] w w9)) (hk10 : Kp X w9 w10) (hX : ∀ x ∈ X, x ∈ ([] : List Nat) ∨ w.heap.size ≤ x) (hk11 : Kp [g4] w10 w11) (hk12 : Kp [g8] w11 w12)
    (hown : w10.ownsRow B 41 3 v2 es.length (rowsF es)) (hB4 : g4 < B) (hB8 : g8 < B) (hB : w.heap.size ≤ B) (gl4 : w.heap.size ≤ g4) (gl8 : w.heap.size ≤ g8) (he : fs = es) :
    PutB w.heap.size num tm va ve fs (.returned (.agg (bookCells num tm va v2 ve).toArray)) w12 ∧ Kp [] w w12 := by
  subst he
  exact ⟨⟨v2, rfl, own_base (own_keep (own_keep hown hk11 (by simpa using hB4)) hk12 (by simpa using hB8)) hB⟩, ((HK9.out.then_ hk10 hX).then_ hk11 (by simp [gl4])).then_ hk12 (by simp [gl8])⟩
theorem book_ones {num tm : Int} {A1 A3 : Option Addr} {n1 c1 n3 c3 : Nat} {v : Value} (h : v.oneCell' = true) : ∀ u ∈ bookCells num tm (.slice A1 n1 c1) v (.slice A3 n3 c3), u.oneCell' = true := by
  intro u hu
  simp only [bookCells, List.mem_cons, List.not_mem_nil, or_false] at hu
  rcases hu with rfl | rfl | rfl | rfl | rfl <;> first | rfl | exact h
theorem own_set {w : World} {B g p cap : Nat} {fs : List Fund} {f : Fund} {cur : List Value} (hB : B ≤ g) (hb : Blk w g 41 cur) (hc : fs.length ≤ cap) (hm : cap ≤ maxLen) (hl : cur.length = cap * 3) (hcur : ∀ j, j < fs.length * 3 → cur[j]? = (rowsF fs)[j]?) (hp : p < fs.length) :
    (w.setCells g (p * 3) f.row).ownsRow B 41 3 (.slice (some ⟨g, 0, none⟩) fs.length cap) (fs.set p f).length (rowsF (fs.set p f)) := by
  rw [List.length_set]
  refine own_shut hB (Blk.setCells f.row cur (p * 3) _ hb) hc hm (by rw [splice_len, hl]) (by rw [rowsF_len, List.length_set]) fun j hj => ?_
  rw [splice_get _ _ _ _ (by rw [hl, Fund.row_len]; omega), Fund.row_len, rows_get]
  by_cases h0 : p * 3 ≤ j ∧ j < p * 3 + 3
  · rw [if_pos h0, show j / 3 = p by omega, List.getElem?_set_self hp, show j - p * 3 = j % 3 by omega]; rfl
  · rw [if_neg h0, hcur j hj, rows_get, List.getElem?_set_ne (by omega)]
def bookZ : List Value := bookCells 0 0 (.slice none 0 0) (.slice none 0 0) (.slice none 0 0)
set_option maxRecDepth 100000 in
set_option maxHeartbeats 4000000 in
theorem put_any (X : List Nat) (num tm by_ : Int) (A1 A3 A : Option Addr) (n1 c1 n3 c3 c p : Nat) (fs : List Fund) (who ast : ByteArray) (w : World) (hs : Sl w X A 3 (fs.map Fund.row)) (hp : Parts fs (who, ast) p) (hn : fs.length ≤ 1000000)
    (hb : -4611686018427387904 ≤ amtAt fs (who, ast) p + by_ ∧ amtAt fs (who, ast) p + by_ ≤ 4611686018427387904) :
    Calls Try.prog 27 #[.agg #[.int .i64 num, .int .i64 tm, .slice A1 n1 c1, .slice A fs.length c, .slice A3 n3 c3], .string who, .string ast, .int .i64 by_] w fun e w' => PutB w.heap.size num tm (.slice A1 n1 c1) (.slice A3 n3 c3) (putF fs (who, ast) p (amtAt fs (who, ast) p + by_)) e w' ∧ Kp [] w w' := by
  have hple := hp.le
  have HS := Lib.hid hs
  have HP := Lib.hid hp
  have HN := Lib.hid hn
  clear hs hp
  generalize hq : amtAt fs (who, ast) p = am at *
  have HQ := Lib.hid hq
  clear hq
  have hwr : IntKind.i64.wrap (am + by_) = am + by_ := IntWalk.i64_in _ ⟨by omega, by omega⟩
  go_enter Try.func27, Try.ntmps27
  go_upto_region 5 with (first
    | ((with_reducible refine at_dst (N := 4) rfl ?_); refine ev_box rfl 26 _ rfl _ rfl (bookCells num tm (.slice A1 n1 c1) (.slice A fs.length c) (.slice A3 n3 c3)) rfl ?_; intro g4 w1 hg4 hb4 hk1)
    | ((with_reducible refine at_dst (N := 8) rfl ?_); refine ev_alloc rfl 26 rfl _ bookZ Try.zeroValue26 rfl ?_; intro g8 w2 hg8 hb8 hk2)
    | ((with_reducible refine at_dst (N := 9) rfl ?_); refine ev_alloc rfl 41 rfl _ fzero Try.zeroValue41 rfl ?_; intro g9 w3 hg9 hb9 hk3)
    | ((with_reducible refine at_store (p := 9) rfl ?_); refine ev_store_all rfl 41 _ _ rfl g9 rfl (Fund.row ⟨who, ast, 0⟩) rfl 41 fzero hb9 rfl info41 (Fund.row_ones _) ?_; intro w4 hc9 hk4; have F := put_start hg4 hb4 hk1 hg8 hb8 hk2 hg9 hb9 hk3 hc9 hk4; obtain ⟨K4, B4, B8, g48, g49, g89, gl4, gl8, gl9⟩ := F; have HK4 := Lib.hid K4; have HB4 := Lib.hid B4; have HB8 := Lib.hid B8; have HB9 := Lib.hid hc9; clear K4 B4 B8 hc9 hb4 hb8 hb9 hk1 hk2 hk3 hk4 hg4 hg8 hg9; have c43 : w4.cell? ⟨g4, 3, none⟩ = some (.slice A fs.length c) := HB4.out.cell 3)
    | ((with_reducible refine at_dst (N := 18) rfl ?_); refine ev_load rfl 41 _ rfl g9 0 rfl (Fund.row ⟨who, ast, 0⟩) HB9.out.range Try.underlying41 rfl info41 ?_)
    | (go_at_call 42; refine (find_any X _ c p fs who ast 0 _ (HS.out.keep0 HK4.out) HP.out HN.out).mono ?_; rintro e w5 ⟨rfl, hk5⟩; clear c43)
    | ((with_reducible refine at_dst (N := 22) rfl ?_); refine ev_load rfl 26 _ rfl g4 0 rfl (bookCells num tm (.slice A1 n1 c1) (.slice A fs.length c) (.slice A3 n3 c3)) (HB4.out.keep hk5 (by simp)).range Try.underlying26 rfl info26 ?_)
    | (go_at_call 29; refine (has_any X num tm _ _ _ c p fs who ast _ (HS.out.keep0 (HK4.out.trans hk5)) HP.out HN.out).mono ?_; rintro e w6 ⟨rfl, hk6⟩; rw [HQ.out])
    | ((with_reducible refine at_store (p := 28) rfl ?_); refine ev_store_cell rfl 3 _ _ rfl g9 2 rfl (.int .i64 (am + by_)) rfl rfl rfl 41 (Fund.row ⟨who, ast, 0⟩) ((HB9.out.keep hk5 (by simp)).keep hk6 (by simp)) (by simp [Fund.row]) (by kernel_rfl) ?_; intro w7 hb7 hk7; have F := put_mid HK4 HB4 HB8 hk5 hk6 hk7 g49 g89 gl9; obtain ⟨K7, B4, B8⟩ := F; have HK7 := Lib.hid K7; have HB47 := Lib.hid B4; have HB87 := Lib.hid B8; have HB97 := Lib.hid (show Blk w7 g9 41 (Fund.row ⟨who, ast, am + by_⟩) from hb7); clear K7 B4 B8 hb7 hk5 hk6 hk7 HK4 HB4 HB8 HB9; have c43 : w7.cell? ⟨g4, 3, none⟩ = some (.slice A fs.length c) := HB47.out.cell 3)
    | (go_at_call 44; refine (clone_any X _ c fs _ (HS.out.keep0 HK7.out) HN.out).mono ?_; rintro e w8 ⟨⟨v, rfl, hown8⟩, hk8⟩; clear c43)
    | ((with_reducible refine at_store (p := 32) rfl ?_); refine ev_store_cell rfl 23 _ _ rfl g4 3 rfl v rfl (own_cell hown8) (own_one hown8) 26 (bookCells num tm (.slice A1 n1 c1) (.slice A fs.length c) (.slice A3 n3 c3)) (HB47.out.keep hk8 (by simp)) (by simp [bookCells]) (by kernel_rfl) ?_; intro w9 hb9 hk9))
  have F := put_late HK7 HB87 HB97 hk8 hk9 hown8 g48 g49 gl4 HB47.out.lt
  obtain ⟨K9, B8, B9, O9⟩ := F
  have HK9 := Lib.hid K9
  have HB49 := Lib.hid (show Blk w9 g4 26 (bookCells num tm (.slice A1 n1 c1) v (.slice A3 n3 c3)) from hb9)
  have HB89 := Lib.hid B8
  have HB99 := Lib.hid B9
  have HO9 := Lib.hid O9
  have hl4 := HB47.out.lt
  have hl8 := HB87.out.lt
  have hl9 := HB97.out.lt
  have hs79 : w7.heap.size ≤ w9.heap.size := Nat.le_trans hk8.size hk9.size
  have hs7 := HK7.out.size
  clear K9 B8 B9 O9 hb9 hk9 hk8 hown8 HK7 HB47 HB87 HB97 hwr
  have c92 : w9.cell? ⟨g9, 2, none⟩ = some (.int .i64 (am + by_)) := HB99.out.cell 2
  have c43 : w9.cell? ⟨g4, 3, none⟩ = some v := HB49.out.cell 3
  generalize hnn : am + by_ = nn at *
  by_cases hf : foundAt fs (who, ast) p = true
  · have hpl : p < fs.length := by
      rcases Nat.lt_or_ge p fs.length with h | h
      · exact h
      · unfold foundAt at hf; rw [List.getElem?_eq_none h] at hf; cases hf
    by_cases h0 : nn = 0
    · have E := Lib.hid (show putF fs (who, ast) p (am + by_) = fs.eraseIdx p by unfold putF; rw [if_pos hf, hnn, if_pos h0])
      have e1 : (nn == 0) = true := by simpa using h0
      clear h0 hnn
      rw [hf]
      go_wp2_with (first
        | (go_at_call 45; refine (delete_any _ v fs p _ HO9.out hpl HN.out).mono ?_; rintro e w10 ⟨⟨v2, rfl, hown10⟩, hk10⟩)
        | ((with_reducible refine at_store (p := 46) rfl ?_); refine ev_store_cell rfl 23 _ _ rfl g4 3 rfl v2 rfl (own_cell hown10) (own_one hown10) 26 (bookCells num tm (.slice A1 n1 c1) v (.slice A3 n3 c3)) (HB49.out.keep hk10 (own_ne HO9.out hl4)) (by simp [bookCells]) (by kernel_rfl) ?_; intro w11 hb11 hk11)
        | ((with_reducible refine at_dst (N := 65) rfl ?_); refine ev_load rfl 26 _ rfl g4 0 rfl (bookCells num tm (.slice A1 n1 c1) v2 (.slice A3 n3 c3)) (show Blk w11 g4 26 (bookCells num tm (.slice A1 n1 c1) v2 (.slice A3 n3 c3)) from hb11).range Try.underlying26 rfl info26 ?_)
        | ((with_reducible refine at_store (p := 8) rfl ?_); refine ev_store_all rfl 26 _ _ rfl g8 rfl (bookCells num tm (.slice A1 n1 c1) v2 (.slice A3 n3 c3)) rfl 26 bookZ ((HB89.out.keep hk10 (own_ne HO9.out hl8)).keep hk11 (by simp [Ne.symm g48])) rfl info26 (book_ones (own_one hown10)) ?_; intro w12 hb12 hk12))
      refine ret_cell rfl rfl rfl hb12.range Try.underlying26 rfl info26 ?_
      exact put_end HK9 hk10 (own_ge HO9.out hs7) hk11 hk12 hown10 hl4 hl8 hs7 gl4 gl8 E.out
    · have E := Lib.hid (show putF fs (who, ast) p (am + by_) = fs.set p ⟨who, ast, nn⟩ by unfold putF; rw [if_pos hf, hnn, if_neg h0])
      have e1 : (nn == 0) = false := by simpa using h0
      clear h0 hnn
      rw [hf]
      obtain ⟨g, cap, cur, rfl, hgB, hb, hnc, hcm, hcl, hcur⟩ := own_open HO9.out (by omega)
      have HB := Lib.hid hb
      have HCM := Lib.hid hcm
      have HCL := Lib.hid hcl
      have HC := Lib.hid hcur
      clear hb hcm hcl hcur
      go_wp2_with (first
        | ((with_reducible refine at_dst (N := 52) rfl ?_); refine ev_load rfl 41 _ rfl g9 0 rfl (Fund.row ⟨who, ast, nn⟩) HB99.out.range Try.underlying41 rfl info41 ?_)
        | ((with_reducible refine at_store (p := 53) rfl ?_); refine ev_store rfl 41 _ _ rfl g (p * 3) rfl (Fund.row ⟨who, ast, nn⟩) rfl (HB.out.there (by rw [HCL.out, Fund.row_len]; omega)) info41 (Fund.row_ones _) ?_; intro w10 hw10)
        | ((with_reducible refine at_dst (N := 65) rfl ?_); refine ev_load rfl 26 _ rfl g4 0 rfl (bookCells num tm (.slice A1 n1 c1) (.slice (some ⟨g, 0, none⟩) fs.length cap) (.slice A3 n3 c3)) (show w10.rangeAt g4 0 _ by rw [hw10.out]; exact (HB49.out.keep (Kp.setCells (X := [g]) g (by simp) _ _ _) (by simp; omega)).range) Try.underlying26 rfl info26 ?_)
        | ((with_reducible refine at_store (p := 8) rfl ?_); refine ev_store_all rfl 26 _ _ rfl g8 rfl (bookCells num tm (.slice A1 n1 c1) (.slice (some ⟨g, 0, none⟩) fs.length cap) (.slice A3 n3 c3)) rfl 26 bookZ (by rw [hw10.out]; exact HB89.out.keep (Kp.setCells (X := [g]) g (by simp) _ _ _) (by simp; omega)) rfl info26 (book_ones rfl) ?_; intro w12 hb12 hk12))
      refine ret_cell rfl rfl rfl hb12.range Try.underlying26 rfl info26 ?_
      exact put_end HK9 (by rw [hw10.out]; exact Kp.setCells (X := [g]) g (by simp) _ _ _) (by simp; omega) (Kp.refl _ _) hk12 (by rw [hw10.out]; exact own_set hgB HB.out hnc HCM.out HCL.out HC.out hpl) hl4 hl8 hs7 gl4 gl8 E.out
  · have hf' : foundAt fs (who, ast) p = false := by simpa using hf
    by_cases h0 : nn = 0
    · have E := Lib.hid (show putF fs (who, ast) p (am + by_) = fs by unfold putF; rw [if_neg hf, hnn, if_pos h0])
      have e1 : (nn == 0) = true := by simpa using h0
      clear h0 hnn hf
      rw [hf']
      go_wp2_with (first
        | ((with_reducible refine at_dst (N := 65) rfl ?_); refine ev_load rfl 26 _ rfl g4 0 rfl (bookCells num tm (.slice A1 n1 c1) v (.slice A3 n3 c3)) HB49.out.range Try.underlying26 rfl info26 ?_)
        | ((with_reducible refine at_store (p := 8) rfl ?_); refine ev_store_all rfl 26 _ _ rfl g8 rfl (bookCells num tm (.slice A1 n1 c1) v (.slice A3 n3 c3)) rfl 26 bookZ HB89.out rfl info26 (book_ones (own_one HO9.out)) ?_; intro w12 hb12 hk12))
      refine ret_cell rfl rfl rfl hb12.range Try.underlying26 rfl info26 ?_
      exact put_end HK9 (Kp.refl [] _) (by simp) (Kp.refl _ _) hk12 HO9.out hl4 hl8 hs7 gl4 gl8 E.out
    · have E := Lib.hid (show putF fs (who, ast) p (am + by_) = insF fs p ⟨who, ast, nn⟩ by unfold putF; rw [if_neg hf, hnn, if_neg h0])
      have e1 : (nn == 0) = false := by simpa using h0
      have hvb : ∀ g, w9.heap.size ≤ g → v.ownBlock ≠ some g := fun g hg e => by
        rcases HO9.out.2 with ⟨rfl, _⟩ | ⟨g', cap, cur, rfl, _, hh, _⟩
        · cases e
        · have e : g' = g := by simpa [Value.ownBlock] using e
          have hlt : g' < w9.heap.size := (show Blk w9 g' 41 cur.toList by unfold Blk; rw [Array.toArray_toList]; exact hh).lt
          omega
      clear h0 hnn hf
      rw [hf']
      go_wp2_with (first
        | ((with_reducible refine at_dst (N := 61) rfl ?_); refine ev_load rfl 41 _ rfl g9 0 rfl (Fund.row ⟨who, ast, nn⟩) HB99.out.range Try.underlying41 rfl info41 ?_)
        | ((with_reducible refine at_dst (N := 62) rfl ?_); refine ev_lit1 rfl 23 41 _ rfl (Fund.row ⟨who, ast, nn⟩) rfl Try.underlying23 info41 Try.zeroValue41 rfl rfl (by decide) ?_; intro g6 w0 hg6 hb6 hk6)
        | (go_at_call 46; refine (insert_any w7.heap.size v fs ⟨who, ast, nn⟩ p g6 1 _ (own_keep HO9.out hk6 (by simp)) hb6 (hvb _ hg6) hple HN.out (Nat.le_trans hs79 hk6.size)).mono ?_; rintro e w10 ⟨⟨v2, rfl, hown10⟩, hk10'⟩; have hk10 := (hk6.mono (Y := v.ownBlock.toList) (by simp)).trans hk10')
        | ((with_reducible refine at_store (p := 64) rfl ?_); refine ev_store_cell rfl 23 _ _ rfl g4 3 rfl v2 rfl (own_cell hown10) (own_one hown10) 26 (bookCells num tm (.slice A1 n1 c1) v (.slice A3 n3 c3)) (HB49.out.keep hk10 (own_ne HO9.out hl4)) (by simp [bookCells]) (by kernel_rfl) ?_; intro w11 hb11 hk11)
        | ((with_reducible refine at_dst (N := 65) rfl ?_); refine ev_load rfl 26 _ rfl g4 0 rfl (bookCells num tm (.slice A1 n1 c1) v2 (.slice A3 n3 c3)) (show Blk w11 g4 26 (bookCells num tm (.slice A1 n1 c1) v2 (.slice A3 n3 c3)) from hb11).range Try.underlying26 rfl info26 ?_)
        | ((with_reducible refine at_store (p := 8) rfl ?_); refine ev_store_all rfl 26 _ _ rfl g8 rfl (bookCells num tm (.slice A1 n1 c1) v2 (.slice A3 n3 c3)) rfl 26 bookZ ((HB89.out.keep hk10 (own_ne HO9.out hl8)).keep hk11 (by simp [Ne.symm g48])) rfl info26 (book_ones (own_one hown10)) ?_; intro w12 hb12 hk12))
      refine ret_cell rfl rfl rfl hb12.range Try.underlying26 rfl info26 ?_
      exact put_end HK9 hk10 (own_ge HO9.out hs7) hk11 hk12 hown10 hl4 hl8 hs7 gl4 gl8 E.out
end Go.Proofs.Ytlgebdoadfljhaa
