/- A book: what opens an account, what a balance is. -/
import Derived.Test.YtlgebdoadfljhaaAst
namespace Go.Proofs.Ytlgebdoadfljhaa
open Go.RowKit
set_option linter.unusedVariables false
set_option linter.unusedSimpArgs false

structure Bank where
  num : Int
  tm : Int
  accs : List ByteArray
  funds : List Fund
/-- A book that holds nothing in escrow. -/
structure Bk (w : World) (X : List Nat) (b : Bank) (A1 : Option Addr) (c1 : Nat) (A : Option Addr) (c : Nat) : Prop where
  accs : Sl w X A1 1 (b.accs.map txt)
  funds : Sl w X A 3 (b.funds.map Fund.row)
  cap : b.accs.length ≤ c1 ∧ c1 ≤ 9223372036854775807
  none : A1 = none → b.accs.length = 0
def bkCells (b : Bank) (A1 : Option Addr) (c1 : Nat) (A : Option Addr) (c : Nat) : List Value := bookCells b.num b.tm (.slice A1 b.accs.length c1) (.slice A b.funds.length c) (.slice none 0 0)
def BkV (w : World) (X : List Nat) (b : Bank) (v : Value) : Prop := ∃ A1 c1 A c, v = .agg (bkCells b A1 c1 A c).toArray ∧ Bk w X b A1 c1 A c
theorem Bk.keep {X Y : List Nat} {w w' : World} {b : Bank} {A1 : Option Addr} {c1 : Nat} {A : Option Addr} {c : Nat} (h : Bk w X b A1 c1 A c) (k : Kp Y w w') (hy : ∀ g ∈ Y, g ∈ X ∨ w.heap.size ≤ g) : Bk w' X b A1 c1 A c :=
  ⟨h.accs.keep k hy, h.funds.keep k hy, h.cap, h.none⟩
theorem Bk.keep0 {X : List Nat} {w w' : World} {b : Bank} {A1 : Option Addr} {c1 : Nat} {A : Option Addr} {c : Nat} (h : Bk w X b A1 c1 A c) (k : Kp [] w w') : Bk w' X b A1 c1 A c := h.keep k (by simp)
theorem Bk.more {X Y : List Nat} {w : World} {b : Bank} {A1 : Option Addr} {c1 : Nat} {A : Option Addr} {c : Nat} (h : Bk w X b A1 c1 A c) (hy : ∀ g ∈ Y, g ∈ X ∨ w.heap.size ≤ g) : Bk w Y b A1 c1 A c :=
  ⟨h.accs.more hy, h.funds.more hy, h.cap, h.none⟩
theorem BkV.keep {X Y : List Nat} {w w' : World} {b : Bank} {v : Value} (h : BkV w X b v) (k : Kp Y w w') (hy : ∀ g ∈ Y, g ∈ X ∨ w.heap.size ≤ g) : BkV w' X b v := by
  obtain ⟨A1, c1, A, c, e, hb⟩ := h
  exact ⟨A1, c1, A, c, e, hb.keep k hy⟩
theorem BkV.more {X Y : List Nat} {w : World} {b : Bank} {v : Value} (h : BkV w X b v) (hy : ∀ g ∈ Y, g ∈ X ∨ w.heap.size ≤ g) : BkV w Y b v := by
  obtain ⟨A1, c1, A, c, e, hb⟩ := h
  exact ⟨A1, c1, A, c, e, hb.more hy⟩
theorem bk_ones (b : Bank) (A1 : Option Addr) (c1 : Nat) (A : Option Addr) (c : Nat) : ∀ u ∈ bkCells b A1 c1 A c, u.oneCell' = true := book_ones rfl
/-- A book and what went wrong. -/
def BkE (X : List Nat) (be : Bank × Int) (e : Ending) (w' : World) : Prop := ∃ v, e = .returned (.tuple #[v, .int .i64 be.2]) ∧ BkV w' X be.1 v

def openB (b : Bank) (who : ByteArray) : Bank × Int :=
  if nameB who = false then (b, 1) else if memS b.accs who = true then (b, 5) else if 12 ≤ b.accs.length then (b, 7) else ({ b with accs := b.accs ++ [who] }, 0)

section
variable {ops : Array Oper} {rest : List Oper} {o : Oper} {a : Act} {Q : Exit → Act → World → Prop} {w : World}
set_option maxRecDepth 100000 in
/-- 'append(slices.Clip(s), x)'. -/
theorem ev_append_clip (hgd : o.guard = none) (s x : Operand) (ho : o.op = .call { callee := .builtin .append, args := #[s, x], argTypes := #[22, 22] })
    (X : List Nat) (A : Option Addr) (n : Nat) (ss : List ByteArray) (hs : a.eval s = .slice A n n) (hS : Sl w X A 1 (ss.map txt)) (hn : ss.length = n) (hA : A = none → n = 0) (hb2 : n ≤ 1000000)
    (g c : Nat) (hx : a.eval x = .slice (some ⟨g, 0, none⟩) 1 c) (who : ByteArray) (hb : Blk w g 9 [.string who])
    (h : ∀ v' w', w'.ownsRow w.heap.size 9 1 v' (n + 1) ((ss ++ [who]).map txt).flatten → Kp [] w w' → wpList Try.prog ops Q rest (a.put o.dst v') w') : wpList Try.prog ops Q (o :: rest) a w := by
  obtain ⟨i, hi, hz, hsize, hby⟩ := info_parts info9a
  have hone : ∀ l : List ByteArray, (l.map txt).flatten = l.map fun x => Value.string x := fun l => by induction l with | nil => rfl | cons y r ih => simp [txt] at ih ⊢; exact ih
  have hcells : ∀ j u, [Value.string who][j]? = some u → w.cell? ((⟨g, 0, none⟩ : Addr).add j) = some u := by
    intro j u hu
    rw [Addr.add_mid, Nat.zero_add, hb.cell]; exact hu
  have key : ∃ v' w', (Builtin.append_ #[22, 22] o.type #[.slice A n n, .slice (some ⟨g, 0, none⟩) 1 c]).run Try.prog w = .ok v' w' ∧ w'.ownsRow w.heap.size 9 1 v' (n + 1) (ss.map (fun x => Value.string x) ++ [.string who]) ∧ Kp [] w w' := by
    rcases A with _ | ad
    · have h0 := hA rfl
      subst h0
      have : ss = [] := List.eq_nil_of_length_eq_zero hn
      subst this
      obtain ⟨v', w', hrun, h2, h3, _, _⟩ := run_append_own_at (P := Try.prog) w w.heap.size 22 o.type 9 i (.string ⟨#[]⟩) 1 16 Try.underlying22 hi hz hsize hby rfl (by omega) (.slice none 0 0) 0 [] ⟨rfl, .inl ⟨rfl, rfl⟩⟩ ⟨g, 0, none⟩ 1 c [.string who] rfl hcells (by simp [Value.oneCell']) (by unfold maxLen; omega) (by omega) (Nat.le_refl _)
      exact ⟨v', w', hrun, h2, Kp.of_grown h3 (by simp [Value.ownBlock])⟩
    · have hold : ∀ j u, (ss.map fun x => Value.string x)[j]? = some u → w.cell? (ad.add j) = some u := by
        intro j u hu
        have hj := (List.getElem?_eq_some_iff.1 hu).1
        obtain ⟨g', o', e, _, _, hr⟩ := hS.flat (by simp at hj ⊢; omega)
        injection e with e
        subst e
        rw [Addr.add_mid]
        rw [hone] at hr
        exact hr j u hu
      obtain ⟨v', w', hrun, h2, h3⟩ := run_append_arg_grows (P := Try.prog) w 22 o.type 9 i (.string ⟨#[]⟩) 1 16 Try.underlying22 hi hz hsize hby rfl (by omega) ad n n (ss.map fun x => Value.string x) (by simp [hn]) hold ⟨g, 0, none⟩ 1 c [.string who] rfl hcells (by omega) (by unfold maxLen; omega) (by omega)
      exact ⟨v', w', hrun, h2, Kp.of_grown h3 (by simp)⟩
  obtain ⟨v', w', hrun, h2, h3⟩ := key
  refine wpList_plain hgd fun K hK => ?_
  unfold Oper.wp execOp
  simp only [ho, resolve, invoke, builtin, Sem.run_bind, Sem.run_pure, Result.andThen_ok, List.map_toArray, List.map_cons, List.map_nil, hs, hx, hrun]
  exact hK _ _ (h v' w' (by rw [hone, List.map_append]; exact h2) h3)
end
theorem book_ones1 {num tm : Int} {A A3 : Option Addr} {n c n3 c3 : Nat} {v : Value} (h : v.oneCell' = true) : ∀ u ∈ bookCells num tm v (.slice A n c) (.slice A3 n3 c3), u.oneCell' = true := by
  intro u hu
  simp only [bookCells, List.mem_cons, List.not_mem_nil, or_false] at hu
  rcases hu with rfl | rfl | rfl | rfl | rfl <;> first | rfl | exact h
/-- The book goes back as it came. -/
theorem bk_back {w w2 w9 : World} {X : List Nat} {b : Bank} {A1 A : Option Addr} {c1 c g : Nat} {r : Bank × Int} {k : Int} (HB : Hid (Bk w X b A1 c1 A c)) (HK : Hid (Kp [] w w2)) (hk : Kp [g] w2 w9) (HX : Hid (∀ x ∈ X, x < w.heap.size)) (hg : w.heap.size ≤ g)
    (hr : r = (b, k)) {v : Value} (hv : v = .tuple #[.agg (bkCells b A1 c1 A c).toArray, .int .i64 k]) : BkE X r (.returned v) w9 ∧ Kp [] w w9 := by
  subst hr; subst hv
  have hk2 : Kp [] w w9 := HK.out.then_ hk (by simp [hg])
  exact ⟨⟨_, rfl, A1, c1, A, c, rfl, HB.out.keep0 hk2⟩, hk2⟩
theorem txts_len (l : List ByteArray) : ∀ r ∈ l.map txt, r.length = 1 := by intro r hr; obtain ⟨_, _, rfl⟩ := List.mem_map.1 hr; rfl
theorem txts_one (l : List ByteArray) : ∀ r ∈ l.map txt, ∀ v ∈ r, v.oneCell' = true := by intro r hr; obtain ⟨x, _, rfl⟩ := List.mem_map.1 hr; exact txt_ones x
theorem open_end {w w2 w5 w6 w7 w9 : World} {X : List Nat} {b : Bank} {A1 A : Option Addr} {c1 c g2 g4 : Nat} {v6 : Value} {who : ByteArray} (HB : Hid (Bk w X b A1 c1 A c)) (HK : Hid (Kp [] w w2)) (HX : Hid (∀ x ∈ X, x < w.heap.size)) (hg2 : w.heap.size ≤ g2) (hg4 : w.heap.size ≤ g4) (hl2 : g2 < w2.heap.size) (hl4 : g4 < w2.heap.size)
    (hk5 : Kp [] w2 w5) (hk6 : Kp [] w5 w6) (hk7 : Kp [g2] w6 w7) (hk9 : Kp [g4] w7 w9) (hown : w6.ownsRow w5.heap.size 9 1 v6 (b.accs.length + 1) ((b.accs ++ [who]).map txt).flatten) :
    BkE X ({ b with accs := b.accs ++ [who] }, 0) (.returned (.tuple #[.agg (bookCells b.num b.tm v6 (.slice A b.funds.length c) (.slice none 0 0)).toArray, .int .i64 0])) w9 ∧ Kp [] w w9 := by
  have s5 := hk5.size
  have s2 := HK.out.size
  have hk2 : Kp [] w w9 := (((HK.out.trans hk5).trans hk6).then_ hk7 (by simp [hg2])).then_ hk9 (by simp [hg4])
  have ho9 := own_keep (own_keep hown hk7 (by simp; omega)) hk9 (by simp; omega)
  rcases ho9.2 with ⟨_, h0⟩ | ⟨g, cap, cur, rfl, hgB, hh, hcap, hmx, _, _⟩
  · omega
  · have hlen : (b.accs ++ [who]).length = b.accs.length + 1 := by simp
    refine ⟨⟨_, rfl, some ⟨g, 0, none⟩, cap, A, c, ?_, ⟨Sl.of_own ho9 rfl (by simp) (txts_len _) (txts_one _) (fun x hx => by have := HX.out x hx; omega), HB.out.funds.keep0 hk2, ⟨by rw [hlen]; exact hcap, by unfold maxLen at hmx; omega⟩, by simp⟩⟩, hk2⟩
    unfold bkCells
    rw [hlen]
set_option maxRecDepth 100000 in
set_option maxHeartbeats 2000000 in
theorem open_any (X : List Nat) (b : Bank) (v : Value) (who : ByteArray) (w : World) (hb : BkV w X b v) (hX : ∀ x ∈ X, x < w.heap.size) (hl : b.accs.length ≤ 1000) (hw : who.size ≤ 9223372036854775807) :
    Calls Try.prog 10 #[v, .string who] w fun e w' => BkE X (openB b who) e w' ∧ Kp [] w w' := by
  obtain ⟨A1, c1, A, c, rfl, hk⟩ := hb
  have HB := Lib.hid hk
  have HX := Lib.hid hX
  have HN := Lib.hid hl
  have hcap := hk.cap.1
  have hcap2 := hk.cap.2
  change Calls Try.prog 10 #[.agg (bookCells b.num b.tm (.slice A1 b.accs.length c1) (.slice A b.funds.length c) (.slice none 0 0)).toArray, .string who] w _
  clear hk hX
  go_enter Try.func10, Try.ntmps10
  go_wp2_with (first
    | ((with_reducible refine at_dst (N := 2) rfl ?_); refine ev_box rfl 26 _ rfl _ rfl (bkCells b A1 c1 A c) rfl ?_; intro g2 w1 hg2 hb2 hk1)
    | ((with_reducible refine at_dst (N := 4) rfl ?_); refine ev_alloc rfl 26 rfl _ bookZ Try.zeroValue26 rfl ?_; intro g4 w2 hg4 hb4 hk2; have hl2 := hb2.lt; have hd2 := hb2.keep hk2 (by simp); have c22 : w2.cell? ⟨g2, 2, none⟩ = some (.slice A1 b.accs.length c1) := hd2.cell 2; have HK2 := Lib.hid (hk1.trans hk2); have HB2 := Lib.hid hd2; have HB4 := Lib.hid hb4; have g24 : g2 ≠ g4 := (by omega); have gl4 : w.heap.size ≤ g4 := (by have := hk1.size; omega); have gl2 : w.heap.size ≤ g2 := hg2; have hll2 := hd2.lt; have hll4 := hb4.lt; clear hb2 hk1 hk2 hb4 hd2)
    | (go_at_call 22; refine (name_any who _ hw).mono ?_; rintro e w3 ⟨rfl, rfl⟩)
    | (go_at_call 23; refine (contains_any X A1 c1 b.accs who _ (HB.out.accs.keep0 HK2.out) (by have := HN.out; omega)).mono ?_; rintro e w3 ⟨rfl, rfl⟩)
    | (go_at_call 24; refine (clip_any A1 b.accs.length c1 _ hcap hcap2).mono ?_; rintro e w3 ⟨rfl, rfl⟩)
    | ((with_reducible refine at_dst (N := 10) rfl ?_); refine ev_load rfl 26 _ rfl g2 0 rfl (bkCells b A1 c1 A c) HB2.out.range Try.underlying26 rfl info26 ?_)
    | ((with_reducible refine at_dst (N := 16) rfl ?_); refine ev_load rfl 26 _ rfl g2 0 rfl (bkCells b A1 c1 A c) HB2.out.range Try.underlying26 rfl info26 ?_)
    | ((with_reducible refine at_dst (N := 22) rfl ?_); refine ev_load rfl 26 _ rfl g2 0 rfl (bkCells b A1 c1 A c) HB2.out.range Try.underlying26 rfl info26 ?_)
    | ((with_reducible refine at_dst (N := 27) rfl ?_); refine ev_lits rfl 22 9 _ rfl (.string who) rfl rfl Try.underlying22 info9 Try.zeroValue9 rfl ?_; intro g5 w5 hg5 hb5 hk5)
    | (at_builtin; refine ev_append_clip rfl (.tmp 25) (.tmp 27) rfl X A1 b.accs.length b.accs rfl ((HB.out.accs.keep0 HK2.out).keep0 hk5) rfl HB.out.none (by have := HN.out; omega) g5 1 rfl who hb5 ?_; intro v6 w6 hown6 hk6; have hd2 := (HB2.out.keep hk5 (by simp)).keep hk6 (by simp))
    | ((with_reducible refine at_store (p := 29) rfl ?_); refine ev_store_cell rfl 22 _ _ rfl g2 2 rfl v6 rfl (own_cell hown6) (own_one hown6) 26 (bkCells b A1 c1 A c) hd2 (by simp [bkCells, bookCells]) (by kernel_rfl) ?_; intro w7 hb7 hk7)
    | ((with_reducible refine at_dst (N := 30) rfl ?_); refine ev_load rfl 26 _ rfl g2 0 rfl (bookCells b.num b.tm v6 (.slice A b.funds.length c) (.slice none 0 0)) (show Blk w7 g2 26 (bookCells b.num b.tm v6 (.slice A b.funds.length c) (.slice none 0 0)) from hb7).range Try.underlying26 rfl info26 ?_)
    | ((with_reducible refine at_store (p := 4) rfl ?_); refine ev_store_all rfl 26 _ _ rfl g4 rfl (bookCells b.num b.tm v6 (.slice A b.funds.length c) (.slice none 0 0)) rfl 26 bookZ (((HB4.out.keep hk5 (by simp)).keep hk6 (by simp)).keep hk7 (by simp [Ne.symm g24])) rfl info26 (book_ones1 (own_one hown6)) ?_; intro w9 hb9 hk9)
    | ((with_reducible refine at_store (p := 4) rfl ?_); refine ev_store_all rfl 26 _ _ rfl g4 rfl (bkCells b A1 c1 A c) rfl 26 bookZ HB4.out rfl info26 (bk_ones _ _ _ _ _) ?_; intro w9 hb9 hk9))
  · rename_i h1
    refine ret_cell_tmp rfl rfl rfl hb9.range Try.underlying26 rfl info26 ?_
    exact bk_back HB HK2 hk9 HX gl4 (by unfold openB; rw [if_pos (by simpa using h1)]) rfl
  · rename_i h1 h2
    refine ret_cell_tmp rfl rfl rfl hb9.range Try.underlying26 rfl info26 ?_
    exact bk_back HB HK2 hk9 HX gl4 (by unfold openB; rw [if_neg (by simpa using h1), if_pos h2]) rfl
  · rename_i h1 h2 h3
    refine ret_cell_tmp rfl rfl rfl hb9.range Try.underlying26 rfl info26 ?_
    exact bk_back HB HK2 hk9 HX gl4 (by unfold openB; rw [if_neg (by simpa using h1), if_neg (by simp [h2]), if_pos (by omega)]) rfl
  · rename_i h1 h2 h3
    refine ret_cell_tmp rfl rfl rfl hb9.range Try.underlying26 rfl info26 ?_
    have E : openB b who = ({ b with accs := b.accs ++ [who] }, 0) := by unfold openB; rw [if_neg (by simpa using h1), if_neg (by simp [h2]), if_neg (by omega)]
    rw [E]
    exact open_end HB HK2 HX gl2 gl4 hll2 hll4 hk5 hk6 hk7 hk9 hown6
end Go.Proofs.Ytlgebdoadfljhaa
