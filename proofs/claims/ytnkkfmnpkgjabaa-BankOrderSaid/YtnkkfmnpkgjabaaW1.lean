/- What a law's argument says: from the reading of its data to what the logic tells of it. -/
import Derived.Test.YtnkkfmnpkgjabaaLT
import Derived.OpenShut
import Derived.Below
import Derived.Carry
import Derived.ChangeSlices
namespace Go.Proofs.Ytnkkfmnpkgjabaa.X
open Go.ChangeShapes Go.WideShapes Go.ChangeAt Go.RowKit
set_option linter.unusedVariables false
set_option linter.unusedSimpArgs false

/-- What these cells say, where nothing is one's own. -/
structure RowRep (w : World) (cs : List Value) (r : List A) : Prop where
  len : cs.length = r.length
  rep : ∀ (j : Nat) (x : A), r[j]? = some x → ∃ u, cs[j]? = some u ∧ Rep w [] u x ∧ u.oneCell' = true
/-- Whatever is read of type t is told by R of some a, of which ok holds. -/
def Reads (P : Program) (t : TypeId) {α : Type} (R : α → List A) (ok : α → Prop) : Prop :=
  ∀ (H : Type) (enc : TypeId × Value → H) (w : World) (base : Nat) (spare : Nat → Bool) (held : Bool) (fuel : Nat) (cs : List Value) (x : DataW H × List MemPlace), DataW.trod enc P w base spare held fuel t cs = some x → ∃ a, ok a ∧ RowRep w cs (R a)
theorem RowRep.one {w : World} {u : Value} {x : A} (h : Rep w [] u x) (h1 : u.oneCell' = true) : RowRep w [u] [x] :=
  ⟨rfl, fun j y hy => by
    cases j with
    | zero => simp at hy; subst hy; exact ⟨u, rfl, h, h1⟩
    | succ j => simp at hy⟩
theorem RowRep.append {w : World} {cs cs' : List Value} {r r' : List A} (h : RowRep w cs r) (h' : RowRep w cs' r') : RowRep w (cs ++ cs') (r ++ r') :=
  ⟨by rw [List.length_append, List.length_append, h.len, h'.len], fun j y hy => by
    by_cases hj : j < r.length
    · rw [List.getElem?_append_left hj] at hy
      obtain ⟨u, h1, h2⟩ := h.rep j y hy
      exact ⟨u, by rw [List.getElem?_append_left (by rw [h.len]; exact hj)]; exact h1, h2⟩
    · rw [List.getElem?_append_right (by omega)] at hy
      obtain ⟨u, h1, h2⟩ := h'.rep _ y hy
      exact ⟨u, by rw [List.getElem?_append_right (by rw [h.len]; omega), h.len]; exact h1, h2⟩⟩
theorem RowRep.rep1 {w : World} {u : Value} {x : A} (h : RowRep w [u] [x]) : Rep w [] u x := by
  obtain ⟨v, h1, h2, _⟩ := h.rep 0 x rfl
  simp at h1; subst h1; exact h2
section
variable {P : Program} {t e : TypeId}
theorem reads_int {k : IntKind} (ht : P.underlying t = some (.int k)) : Reads P t (kR k) fun n => k.min ≤ n ∧ n ≤ k.max := by
  intro H enc w base spare held fuel cs x h
  obtain ⟨n, rfl, _, hw⟩ := DataW.trod_int ht h
  refine ⟨n, ?_, .one (.v rfl) rfl⟩
  simpa [Lit.wf] using hw
theorem reads_i64 (ht : P.underlying t = some (.int .i64)) : Reads P t intR fun n => -9223372036854775808 ≤ n ∧ n ≤ 9223372036854775807 := by
  intro H enc w base spare held fuel cs x h
  obtain ⟨n, hn, hr⟩ := reads_int ht H enc w base spare held fuel cs x h
  exact ⟨n, hn, hr⟩
theorem reads_bool (ht : P.underlying t = some .bool) : Reads P t boolR fun _ => True := by
  intro H enc w base spare held fuel cs x h
  obtain ⟨b, rfl, _⟩ := DataW.trod_bool ht h
  exact ⟨b, trivial, .one (.v rfl) rfl⟩
theorem reads_str (ht : P.underlying t = some .string) : Reads P t strR fun s => s.size ≤ maxLen := by
  intro H enc w base spare held fuel cs x h
  obtain ⟨s, rfl, _, hs⟩ := DataW.trod_string ht h
  exact ⟨s, hs, .one (.v rfl) rfl⟩
theorem flat_at {rows : List (List A)} {sz : Nat} (h : ∀ r ∈ rows, r.length = sz) {k : Nat} {x : A} (hk : rows.flatten[k]? = some x) : ∃ i j r, rows[i]? = some r ∧ r[j]? = some x ∧ k = i * sz + j ∧ j < sz := by
  have hlt : k < rows.length * sz := by rw [← flat_lenA h]; exact (List.getElem?_eq_some_iff.1 hk).1
  have hs : 0 < sz := by
    rcases Nat.eq_zero_or_pos sz with h0 | h0
    · rw [h0, Nat.mul_zero] at hlt; omega
    · exact h0
  have hi : k / sz < rows.length := Nat.div_lt_of_lt_mul (by rw [Nat.mul_comm]; exact hlt)
  have hj : k % sz < sz := Nat.mod_lt _ hs
  have hr := List.getElem?_eq_getElem hi
  have hl := h _ (List.getElem_mem hi)
  have hx := List.getElem?_eq_getElem (l := rows[k / sz]) (i := k % sz) (by omega)
  have := flat_getA h _ _ _ _ hr hx
  have e : k / sz * sz + k % sz = k := Nat.div_add_mod' k sz
  rw [e, hk] at this
  exact ⟨k / sz, k % sz, _, hr, by rw [hx]; exact this.symm, e.symm, hj⟩
theorem exists_list {α : Type} {p : Nat → α → Prop} : ∀ n : Nat, (∀ i, i < n → ∃ a, p i a) → ∃ l : List α, l.length = n ∧ ∀ i a, l[i]? = some a → p i a
  | 0, _ => ⟨[], rfl, fun i a h => by simp at h⟩
  | n + 1, h => by
    obtain ⟨l, hl, hp⟩ := exists_list n fun i hi => h i (by omega)
    obtain ⟨a, ha⟩ := h n (by omega)
    refine ⟨l ++ [a], by simp [hl], fun i b hb => ?_⟩
    by_cases hi : i < n
    · rw [List.getElem?_append_left (by omega)] at hb; exact hp i b hb
    · rw [List.getElem?_append_right (by omega)] at hb
      have : i - l.length = 0 := by
        have := (List.getElem?_eq_some_iff.1 hb).1
        simp at this; omega
      rw [this] at hb; simp at hb; subst hb
      rw [show i = n by omega]; exact ha
theorem reads_slice {α : Type} {R : α → List A} {ok : α → Prop} {sz : Nat} (ht : P.underlying t = some (.slice e)) (he : Reads P e R ok) (hl : ∀ a, (R a).length = sz) (hs : 0 < sz) (hc : P.cellsOf e = sz) :
    Reads P t (slR R) fun l => l.length ≤ maxLen ∧ ∀ a ∈ l, ok a := by
  intro H enc w base spare held fuel cs x h
  rcases DataW.trod_slice ht h with ⟨rfl, _⟩ | ⟨a, len, cap, elems, rest, n, _, rfl, _, hb, hle, hm, hel, hr, _, _⟩
  · exact ⟨[], ⟨Nat.zero_le _, fun _ h => nomatch h⟩, .one (.sl rfl (Nat.le_refl _) (Nat.zero_le _) sz 0 0 (fun _ => undef) (fun _ h => nomatch h) (fun h => absurd h (by omega)) (fun k x h => by simp at h) (fun k x h => by simp at h) (fun k x h => by simp at h) (fun k x h => by simp at h)) rfl⟩
  · have each : ∀ i, i < len → ∃ b, ok b ∧ ∃ cs, w.cells? base (a.add (i * sz)) sz = some cs ∧ RowRep w cs (R b) := by
      intro i hi
      have h1 := hr i hi
      rw [hc, List.getElem?_eq_getElem (by omega), Option.bind_eq_some_iff] at h1
      obtain ⟨cs, h2, h3⟩ := h1
      obtain ⟨b, h4, h5⟩ := he _ _ _ _ _ _ _ _ _ h3
      exact ⟨b, h4, cs, h2, h5⟩
    obtain ⟨l, hll, hp⟩ := exists_list len each
    refine ⟨l, ⟨by omega, fun b hb => ?_⟩, .one ?_ rfl⟩
    · obtain ⟨i, hi⟩ := List.getElem?_of_mem hb
      exact (hp i b hi).1
    · have hsz : ∀ r ∈ l.map R, r.length = sz := by
        intro r hr
        obtain ⟨b, _, rfl⟩ := List.mem_map.1 hr
        exact hl b
      obtain ⟨g, o, spot⟩ := a
      have hspot : 0 < len → spot = none := by
        intro h0
        obtain ⟨b, _, cs, h5, h6⟩ := each 0 h0
        obtain ⟨u, h7, _⟩ := h6.rep 0 _ (List.getElem?_eq_getElem (by rw [hl]; exact hs))
        have h10 := (World.cells?_some h5).2.2 0 hs
        rw [h7] at h10
        simpa [Addr.add] using World.cell?_spot h10
      have key : ∀ (k : Nat) (x : A), (l.map R).flatten[k]? = some x → ∃ u, spot = none ∧ w.cell? ⟨g, o + k, none⟩ = some u ∧ Rep w [] u x ∧ u.oneCell' = true := by
        intro k x hk
        obtain ⟨i, j, r, h1, h2, h3, h4⟩ := flat_at hsz hk
        rw [List.getElem?_map, Option.map_eq_some_iff] at h1
        obtain ⟨b, hb, rfl⟩ := h1
        obtain ⟨_, cs, h5, h6⟩ := hp i b hb
        obtain ⟨u, h7, h8, h9⟩ := h6.rep j x h2
        have h10 := (World.cells?_some h5).2.2 j h4
        rw [h7] at h10
        have hsp : spot = none := hspot (by have := (List.getElem?_eq_some_iff.1 hb).1; omega)
        subst hsp
        rw [Addr.add_mid, Addr.add_mid, Nat.add_assoc, ← h3] at h10
        exact ⟨u, rfl, h10, h8, h9⟩
      refine .sl (by rw [List.length_map, hll]) hle hm sz g o (fun k => (w.cell? ⟨g, o + k, none⟩).getD undef) hsz (fun hn => ?_) (fun k x hk => ?_) (fun k x hk => ?_) (fun k x hk => ?_) (fun k x hk => ?_)
      · have hx : 0 < (l.map R).flatten.length := by rw [flat_lenA hsz, List.length_map]; exact Nat.mul_pos (by omega) hs
        obtain ⟨u, h1, _⟩ := key 0 _ (List.getElem?_eq_getElem hx)
        rw [h1]
      · obtain ⟨u, _, h2, _⟩ := key k x hk; show _ = some (Option.getD _ _); rw [h2]; rfl
      · intro z hz; cases hz
      · obtain ⟨u, _, h2, _, h4⟩ := key k x hk; show Value.oneCell' (Option.getD _ _) = true; rw [h2]; exact h4
      · obtain ⟨u, _, h2, h3, _⟩ := key k x hk; show Rep w [] (Option.getD _ _) _; rw [h2]; exact h3
end
/-! ### structs: field by field -/
theorem reads_field {fs : Array Field} {w : World} {H : Type} {enc : TypeId × Value → H} {base : Nat} {spare : Nat → Bool} {held : Bool} {n : Nat} {cs : List Value} {xs : List (DataW H × List MemPlace)} {P : Program} (hn : xs.length = fs.size)
    (hf : ∀ (i : Nat) (f : Field), fs[i]? = some f → DataW.trod enc P w base spare held n f.type ((cs.drop f.offset).take (P.cellsOf f.type)) = xs[i]?) (i : Nat) {ty : TypeId} {off c : Nat} (hi : ∃ f, fs[i]? = some f ∧ f.type = ty ∧ f.offset = off) (hc : P.cellsOf ty = c)
    {α : Type} {R : α → List A} {ok : α → Prop} (hr : Reads P ty R ok) : ∃ a, ok a ∧ RowRep w ((cs.drop off).take c) (R a) := by
  obtain ⟨f, h1, rfl, rfl⟩ := hi
  have h2 := hf i f h1
  have hlt : i < xs.length := by rw [hn]; exact (Array.getElem?_eq_some_iff.1 h1).1
  rw [List.getElem?_eq_getElem hlt, hc] at h2
  exact hr _ _ _ _ _ _ _ _ _ h2
theorem RowRep.piece {w : World} {cs : List Value} {o c o' : Nat} {r r' : List A} (h : RowRep w ((cs.drop o).take c) r) (h' : RowRep w (cs.drop o') r') (ho : o' = o + c) : RowRep w (cs.drop o) (r ++ r') := by
  subst ho
  rw [← List.take_append_drop c (cs.drop o), List.drop_drop]
  exact h.append h'
theorem RowRep.end_ {w : World} {cs : List Value} {o : Nat} (h : cs.length = o) : RowRep w (cs.drop o) [] := by
  rw [← h, List.drop_length]
  exact ⟨rfl, fun j x hx => by simp at hx⟩
theorem BsOk.none {w : World} : BsOk w [] := ⟨List.nodup_nil, fun _ h => nomatch h⟩
/-- What a law of nothing of one's own leaves. -/
theorem Ext.belowNone {w w' : World} (h : Ext w [] w' []) : Below w.heap.size w w' := ⟨h.os, h.tape, h.output, h.size, fun k hk => h.block k hk fun _ hz => nomatch hz⟩
end Go.Proofs.Ytnkkfmnpkgjabaa.X
