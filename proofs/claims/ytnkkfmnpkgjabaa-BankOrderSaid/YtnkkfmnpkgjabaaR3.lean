/- Plain laws: what is put, totals, assets; each call of the bank and of the document on books without escrows. -/
import Derived.Test.YtnkkfmnpkgjabaaR2
namespace Go.Proofs.Ytnkkfmnpkgjabaa.X
set_option linter.unusedVariables false
set_option linter.unusedSimpArgs false
set_option maxRecDepth 10000

theorem putG_append (t : Key) (n : Int) : ∀ (xs ys l : List SFund) (d : Bool), putG t n (xs ++ ys) l d = putG t n ys (putG t n xs l d).1 (putG t n xs l d).2
  | [], _, _, _ => rfl
  | f :: r, ys, l, d => by
    rw [List.cons_append, putG, putG]
    split
    · exact putG_append t n r ys l d
    · split <;> exact putG_append t n r ys _ _
theorem putG_len (t : Key) (n : Int) : ∀ (xs l : List SFund) (d : Bool), (putG t n xs l d).1.length ≤ l.length + xs.length + (if d = true then 0 else 1) ∧ (d = true → (putG t n xs l d).2 = true)
  | [], l, d => by simp [putG]
  | f :: r, l, d => by
    rw [putG]
    split
    · have := putG_len t n r l d
      refine ⟨?_, this.2⟩
      have := this.1; simp only [List.length_cons]; omega
    · split
      · rename_i hh
        have := putG_len t n r (l ++ [⟨t.1, t.2, n⟩] ++ [f]) true
        refine ⟨?_, fun _ => this.2 rfl⟩
        have := this.1
        rw [hh.1]
        simp only [List.length_append, List.length_cons, List.length_nil, if_true] at this ⊢
        simp only [Bool.false_eq_true, if_false]
        omega
      · have := putG_len t n r (l ++ [f]) d
        refine ⟨?_, this.2⟩
        have := this.1
        simp only [List.length_append, List.length_cons, List.length_nil] at this ⊢
        omega
theorem lessB {who ast : Txt} {f : SFund} : (Op.bytesLess who.toList f.Account.toList || (decide (who = f.Account) && Op.bytesLess ast.toList f.Asset.toList)) = decide (fcmp (who, ast) f.key < 0) := by
  have : fcmp (who, ast) f.key < 0 ↔ (Op.bytesLess who.toList f.Account.toList || (decide (who = f.Account) && Op.bytesLess ast.toList f.Asset.toList)) = true := by
    rw [fcmp_neg]
    simp only [Bool.or_eq_true, Bool.and_eq_true, decide_eq_true_eq, less_iff]
    rfl
  by_cases h : fcmp (who, ast) f.key < 0
  · rw [this.1 h]; simp [h]
  · have h2 := mt this.2 h
    simp only [Bool.not_eq_true] at h2
    rw [h2]; simp [h]
theorem refPut_eq (b : SBook) (who ast : Txt) (n : Int) (h : b.Funds.length ≤ 1000000) (hs : Sorted b.Funds) : l_ref9_Put b who ast n = some { b with Funds := setF b.Funds (who, ast) n } := by
  unfold l_ref9_Put
  have hst : loopF (τ := (List SFund) × Bool × Int) (fun s : (List SFund) × Bool × Int => l_ref9_Put_b0 b who ast n s.1 s.2.1 s.2.2) (([] : List SFund), (n == 0), 0) = some ((putG (who, ast) n b.Funds [] (n == 0)).1, (putG (who, ast) n b.Funds [] (n == 0)).2, (b.Funds.length : Int)) := by
    have := loop_seq (body := fun s : (List SFund) × Bool × Int => l_ref9_Put_b0 b who ast n s.1 s.2.1 s.2.2) (o := ((putG (who, ast) n b.Funds [] (n == 0)).1, (putG (who, ast) n b.Funds [] (n == 0)).2, (b.Funds.length : Int)))
      (fun k => ((putG (who, ast) n (b.Funds.take k) [] (n == 0)).1, (putG (who, ast) n (b.Funds.take k) [] (n == 0)).2, (k : Int))) b.Funds.length (fun k hk => ?_) ?_
    · exact this
    · have hx := List.getElem?_eq_getElem hk
      generalize b.Funds[k] = x at hx
      have htk : b.Funds.take (k + 1) = b.Funds.take k ++ [x] := by rw [List.take_add_one, hx]; rfl
      rw [htk, putG_append]
      have hlen := (putG_len (who, ast) n (b.Funds.take k) [] (n == 0)).1
      have hl : (putG (who, ast) n (b.Funds.take k) [] (n == 0)).1.length ≤ 1000001 := by
        rw [List.length_nil, List.length_take] at hlen
        have : min k b.Funds.length ≤ 1000000 := by omega
        split at hlen <;> omega
      generalize (putG (who, ast) n (b.Funds.take k) [] (n == 0)) = p at hl
      obtain ⟨l, d⟩ := p
      simp only at hl ⊢
      show l_ref9_Put_b0 b who ast n l d k = _
      unfold l_ref9_Put_b0
      rw [lt_k hx, cond_true, idx_k hx, Option.bind_some, lessB]
      by_cases hkey : x.key = (who, ast)
      · have e1 : x.Account = who := congrArg Prod.fst hkey
        have e2 : x.Asset = ast := congrArg Prod.snd hkey
        rw [decide_eq_true e1, decide_eq_true e2, Bool.and_self, cond_true]
        rw [ens_k hk (by omega), putG, if_pos hkey, putG]
        simp
      · have hne : (decide (x.Account = who) && decide (x.Asset = ast)) = false := by
          cases hh : (decide (x.Account = who) && decide (x.Asset = ast)) with
          | false => rfl
          | true =>
            simp only [Bool.and_eq_true, decide_eq_true_eq] at hh
            exact absurd (by unfold SFund.key; rw [hh.1, hh.2]) hkey
        rw [hne, cond_false, putG, if_neg hkey]
        by_cases hc : d = false ∧ fcmp (who, ast) x.key < 0
        · rw [if_pos hc]
          obtain ⟨rfl, hc2⟩ := hc
          rw [decide_eq_true hc2, Bool.not_false, Bool.and_self, cond_true]
          rw [ensure_bind (by simp; omega), Option.bind_some]
          dsimp only
          rw [ensure_bind (by simp; omega), ens_k hk (by omega), putG]
          simp
        · rw [if_neg hc]
          have : ((!d) && decide (fcmp (who, ast) x.key < 0)) = false := by
            cases d <;> simp at hc ⊢
            exact hc
          rw [this, cond_false, Option.bind_some]
          dsimp only
          rw [ensure_bind (by simp; omega), ens_k hk (by omega), putG]
          simp
    · show l_ref9_Put_b0 b who ast n _ _ _ = _
      unfold l_ref9_Put_b0
      rw [lt_no, cond_false, List.take_length]
  rw [hst, Option.bind_some]
  have hset := putG_set hs (who, ast) n
  have hdec : (decide (n = 0)) = (n == 0) := by by_cases e : n = 0 <;> simp [e]
  rw [hdec] at hset
  simp only at hset
  have hlen := (putG_len (who, ast) n b.Funds [] (n == 0)).1
  have hl : (putG (who, ast) n b.Funds [] (n == 0)).1.length ≤ 1000001 := by
    rw [List.length_nil] at hlen
    split at hlen <;> omega
  cases hd : (putG (who, ast) n b.Funds [] (n == 0)).2 with
  | true =>
    rw [hd, if_pos rfl] at hset
    dsimp only
    rw [Bool.not_true, cond_false, ← hset]
  | false =>
    rw [hd, if_neg (by simp)] at hset
    dsimp only
    rw [Bool.not_false, cond_true, ensure_bind (by simp; omega), ← hset]
/-! ### totals -/
theorem total_loop (fs : List SFund) (ast : Txt) (body : Int → Int → Option ((Int × Int) ⊕ (Int × Int))) (hs : Smalls fs) (hn : fs.length ≤ 1000)
    (hb : ∀ (k : Nat) (x : SFund) (n : Int), fs[k]? = some x → body n k = cond (decide (x.Asset = ast)) ((ensure (-9223372036854775808 ≤ n + x.Amount ∧ n + x.Amount ≤ 9223372036854775807)).bind fun _ => (ensure (-9223372036854775808 ≤ (k : Int) + 1 ∧ (k : Int) + 1 ≤ 9223372036854775807)).bind fun _ => some (.inl (n + x.Amount, (k : Int) + 1))) ((ensure (-9223372036854775808 ≤ (k : Int) + 1 ∧ (k : Int) + 1 ≤ 9223372036854775807)).bind fun _ => some (.inl (n, (k : Int) + 1))))
    (he : ∀ n, body n fs.length = some (.inr (n, (fs.length : Int)))) : loopF (fun s : Int × Int => body s.1 s.2) (0, 0) = some (sumA fs ast, (fs.length : Int)) := by
  have := loop_seq (body := fun s : Int × Int => body s.1 s.2) (o := (sumA fs ast, (fs.length : Int))) (fun k => (sumA (fs.take k) ast, (k : Int))) fs.length (fun k hk => ?_) ?_
  · exact this
  · have hx := List.getElem?_eq_getElem hk
    generalize fs[k] = x at hx
    have hb1 := sumA_bound fs ast k hs hn
    have hsm := hs x (List.mem_of_getElem? hx)
    show body _ _ = _
    rw [hb k x _ hx, sumA_step fs ast k x hx]
    generalize sumA (fs.take k) ast = n at hb1
    by_cases e : x.Asset = ast
    · rw [if_pos e, decide_eq_true e, cond_true, ensure_bind (by omega), ens_k hk (by omega)]
      simp
    · rw [if_neg e, decide_eq_false e, cond_false, ens_k hk (by omega)]
      simp
  · show body _ _ = _
    rw [List.take_length, he]
theorem bankHeld_eq (b : SBook) (h : b.Escrows = []) : l_bank_held b = some [] := by
  unfold l_bank_held
  rw [loopF_inr (o := ([], 0)) (by simp [l_bank_held_b0, h])]
  rfl
theorem bankTotal_eq (b : SBook) (ast : Txt) (h : b.Escrows = []) (hs : Smalls b.Funds) (hn : b.Funds.length ≤ 1000) : l_bank_Total b ast = some (sumA b.Funds ast) := by
  unfold l_bank_Total
  rw [total_loop b.Funds ast (l_bank_Total_b0 b ast) hs hn (fun k x n hx => by unfold l_bank_Total_b0; rw [lt_k hx, cond_true, idx_k hx, Option.bind_some]) (fun n => by simp only [l_bank_Total_b0, lt_no, cond_false])]
  simp only [Option.bind_some, bankHeld_eq b h]
  rw [loopF_inr (o := (sumA b.Funds ast, 0)) (by simp [l_bank_Total_b1])]
  rfl
theorem refTotal_eq (b : SBook) (ast : Txt) (h : b.Escrows = []) (hs : Smalls b.Funds) (hn : b.Funds.length ≤ 1000) : l_ref9_Total b ast = some (sumA b.Funds ast) := by
  unfold l_ref9_Total
  rw [total_loop b.Funds ast (l_ref9_Total_b0 b ast) hs hn (fun k x n hx => by unfold l_ref9_Total_b0; rw [lt_k hx, cond_true, idx_k hx, Option.bind_some]) (fun n => by simp only [l_ref9_Total_b0, lt_no, cond_false])]
  simp only [Option.bind_some]
  rw [loopF_inr (o := (sumA b.Funds ast, 0)) (by simp [l_ref9_Total_b1, h])]
  rfl
/-! ### assets -/
def addT (l : List Txt) (s : Txt) : List Txt := if (decide (s = ⟨#[]⟩) || memT l s) = true then l else l ++ [s]
def distT (fs : List SFund) : List Txt := fs.foldl (fun l f => addT l f.Asset) []
theorem found_loop (l : List Txt) (s : Txt) (d0 : Bool) (body : Bool → Int → Option ((Bool × Int) ⊕ (Bool × Int))) (hn : l.length ≤ 4611686018427387904)
    (hb : ∀ (d : Bool) (k : Nat), k < l.length → body d k = (grd (!d) (idxO l (k : Int))).bind fun x => (ensure (-9223372036854775808 ≤ (k : Int) + 1 ∧ (k : Int) + 1 ≤ 9223372036854775807)).bind fun _ => some (.inl (d || decide (x = s), (k : Int) + 1)))
    (he : ∀ d, body d l.length = some (.inr (d, (l.length : Int)))) : loopF (fun p : Bool × Int => body p.1 p.2) (d0, 0) = some (d0 || memT l s, (l.length : Int)) := by
  have := loop_seq (body := fun p : Bool × Int => body p.1 p.2) (o := (d0 || memT l s, (l.length : Int))) (fun k => (d0 || memT (l.take k) s, (k : Int))) l.length (fun k hk => ?_) ?_
  · simpa [memT] using this
  · have hx := List.getElem?_eq_getElem hk
    generalize l[k] = x at hx
    have htk : l.take (k + 1) = l.take k ++ [x] := by rw [List.take_add_one, hx]; rfl
    have hm : memT (l.take k ++ [x]) s = (memT (l.take k) s || decide (x = s)) := by simp [memT]
    show body _ _ = _
    rw [hb _ k hk, htk, hm, ← Bool.or_assoc]
    cases hd : (d0 || memT (l.take k) s)
    · show (idxO l (k : Int)).bind _ = _
      rw [idx_k hx, Option.bind_some, ens_k hk hn]; simp
    · show (some default).bind _ = _
      rw [Option.bind_some, ens_k hk hn]; simp
  · show body _ _ = _
    rw [List.take_length, he]
theorem distT_len (fs : List SFund) : (distT fs).length ≤ fs.length := by
  unfold distT
  have : ∀ (fs : List SFund) (l : List Txt), (fs.foldl (fun l f => addT l f.Asset) l).length ≤ l.length + fs.length := by
    intro fs
    induction fs with
    | nil => intro l; simp
    | cons f r ih =>
      intro l
      have := ih (addT l f.Asset)
      have h2 : (addT l f.Asset).length ≤ l.length + 1 := by unfold addT; split <;> simp
      simp only [List.foldl_cons, List.length_cons]; omega
  simpa using this fs []
theorem refAssets_eq (b : SBook) (h : b.Escrows = []) (hn : b.Funds.length ≤ 1000) : l_ref9_assets b = some (distT b.Funds) := by
  unfold l_ref9_assets
  have := loop_seq (body := fun s : (List Txt) × Int => l_ref9_assets_b0 b s.1 s.2) (o := (distT b.Funds, (b.Funds.length : Int))) (fun k => (distT (b.Funds.take k), (k : Int))) b.Funds.length (fun k hk => ?_) ?_
  · have h0 : ((([] : List Txt), (0 : Int))) = (distT (b.Funds.take 0), ((0 : Nat) : Int)) := rfl
    rw [h0, this]; rfl
  · have hx := List.getElem?_eq_getElem hk
    generalize b.Funds[k] = x at hx
    have htk : b.Funds.take (k + 1) = b.Funds.take k ++ [x] := by rw [List.take_add_one, hx]; rfl
    have hdl := distT_len (b.Funds.take k)
    rw [List.length_take] at hdl
    have hstep : distT (b.Funds.take (k + 1)) = addT (distT (b.Funds.take k)) x.Asset := by rw [htk]; unfold distT; rw [List.foldl_append]; rfl
    show l_ref9_assets_b0 b _ _ = _
    rw [hstep]
    generalize distT (b.Funds.take k) = l at hdl
    unfold l_ref9_assets_b0
    rw [h]
    have hz : (b.Funds.length : Int) + (([] : List SEscrow).length : Int) = b.Funds.length := by simp
    rw [hz, ensure_bind (by omega), lt_k hx, cond_true, cond_true, idx_k hx, Option.bind_some, Option.bind_some]
    show Option.bind _ _ = _
    rw [found_loop l x.Asset (decide (x.Asset = ⟨#[]⟩)) (l_ref9_assets_b1 l x.Asset) (by omega) (fun d k hk => by
      have hx := List.getElem?_eq_getElem hk
      unfold l_ref9_assets_b1; rw [lt_k hx, cond_true]) (fun d => by unfold l_ref9_assets_b1; rw [lt_no, cond_false]), Option.bind_some]
    unfold addT
    cases hc : (decide (x.Asset = ⟨#[]⟩) || memT l x.Asset)
    · rw [if_neg (by simp)]
      dsimp only
      rw [Bool.not_false, cond_true, ensure_bind (by simp; omega), ens_k hk (by omega)]
      simp
    · rw [if_pos rfl]
      dsimp only
      rw [Bool.not_true, cond_false, ens_k hk (by omega)]
      simp
  · show l_ref9_assets_b0 b _ _ = _
    unfold l_ref9_assets_b0
    rw [h, List.take_length]
    have hz : (b.Funds.length : Int) + (([] : List SEscrow).length : Int) = b.Funds.length := by simp
    rw [hz, ensure_bind (by omega), lt_no, cond_false]
end Go.Proofs.Ytnkkfmnpkgjabaa.X
