/- Digests: the document's answer is what the kernel reckons natively. -/
import Derived.Test.YtnkkfmnpkgjabaaGreatZw0f
import Derived.Below
namespace Go.Proofs.YtnkkfmnpkgjabaaGreat.Y
open Go.Proofs.YtnkkfmnpkgjabaaGreat.X (bitI bitsI ensure ensure_bind idxO idxT loopF loopF_inr loopF_inl Txt txtOf bytesOf l_ref1_Sum l_ref1_Sum_b0 l_ref1_Sum_b1 l_ref1_Sum_b2 l_ref1_Sum_b3 l_ref1_block)
set_option linter.unusedVariables false
set_option linter.unusedSimpArgs false
/-! ### native rounds -/
def T8.k {α : Type} (t : T8) (k : Nat → Nat → Nat → Nat → Nat → Nat → Nat → Nat → α) : α := k t.a t.b t.c t.d t.e t.f t.g t.h
theorem shaT1_eq (t : T8) (kc w : Nat) : shaT1 t.e t.f t.g t.h kc w = rt1 t kc w := by
  unfold shaT1 rt1; rw [rot3_eq]; rfl
theorem shaT2_eq (t : T8) : shaT2 t.a t.b t.c = rt2 t := by
  unfold shaT2 rt2; rw [rot3_eq]; rfl
theorem shaW_eq (w0 w1 w9 w14 : Nat) : shaW w0 w1 w9 w14 = (w0 + sig0 w1 + w9 + sig1 w14) % 4294967296 := by
  unfold shaW; rw [land_m, rot2_eq, rot2_eq]; rfl
theorem shaR_step (kc : Nat) (r : List Nat) (t : T8) (w0 w1 w2 w3 w4 w5 w6 w7 w8 w9 w10 w11 w12 w13 w14 w15 : Nat) (k : Nat → Nat → Nat → Nat → Nat → Nat → Nat → Nat → Bool) :
    shaR (kc :: r) t.a t.b t.c t.d t.e t.f t.g t.h w0 w1 w2 w3 w4 w5 w6 w7 w8 w9 w10 w11 w12 w13 w14 w15 k = shaR r (t.next kc w0).a (t.next kc w0).b (t.next kc w0).c (t.next kc w0).d (t.next kc w0).e (t.next kc w0).f (t.next kc w0).g (t.next kc w0).h w1 w2 w3 w4 w5 w6 w7 w8 w9 w10 w11 w12 w13 w14 w15 ((w0 + sig0 w1 + w9 + sig1 w14) % 4294967296) k := by
  have hu : shaR (kc :: r) t.a t.b t.c t.d t.e t.f t.g t.h w0 w1 w2 w3 w4 w5 w6 w7 w8 w9 w10 w11 w12 w13 w14 w15 k = fNat (shaT1 t.e t.f t.g t.h kc w0) fun q => fNat (Nat.land (Nat.add q (shaT2 t.a t.b t.c)) m32) fun a' => fNat (Nat.land (Nat.add t.d q) m32) fun e' => fNat (shaW w0 w1 w9 w14) fun w16 => shaR r a' t.a t.b t.c e' t.e t.f t.g w1 w2 w3 w4 w5 w6 w7 w8 w9 w10 w11 w12 w13 w14 w15 w16 k := rfl
  rw [hu, fNat_eq, fNat_eq, fNat_eq, fNat_eq, shaT1_eq, shaT2_eq, shaW_eq, land_m, land_m]
  rfl
theorem shaR_run {t : T8} {w : List Nat} (hw : w.length = 16) {k : Nat → Nat → Nat → Nat → Nat → Nat → Nat → Nat → Bool} : ∀ (j i : Nat), i + j = 64 →
    shaR (shaK.drop i) (t.run shaK w i).a (t.run shaK w i).b (t.run shaK w i).c (t.run shaK w i).d (t.run shaK w i).e (t.run shaK w i).f (t.run shaK w i).g (t.run shaK w i).h (wd w i) (wd w (i + 1)) (wd w (i + 2)) (wd w (i + 3)) (wd w (i + 4)) (wd w (i + 5)) (wd w (i + 6)) (wd w (i + 7)) (wd w (i + 8)) (wd w (i + 9)) (wd w (i + 10)) (wd w (i + 11)) (wd w (i + 12)) (wd w (i + 13)) (wd w (i + 14)) (wd w (i + 15)) k = (t.run shaK w 64).k k
  | 0, i, h => by
    have : i = 64 := by omega
    subst this
    have hd : shaK.drop 64 = [] := rfl
    rw [hd]; rfl
  | j + 1, i, h => by
    have hi : i < shaK.length := by show i < 64; omega
    rw [List.drop_eq_getElem_cons hi, shaR_step, ← wd_next hw]
    have hn : (t.run shaK w i).next shaK[i] (wd w i) = t.run shaK w (i + 1) := by
      show _ = (t.run shaK w i).next (shaK.getD i 0) (wd w i)
      rw [List.getD_eq_getElem?_getD, List.getElem?_eq_getElem hi]; rfl
    rw [hn]
    exact shaR_run hw j (i + 1) (by omega)
/-- The words of a block's number. -/
def mw (m j : Nat) : Nat := (m >>> (32 * (15 - j))) % 4294967296
def mws (m : Nat) : List Nat := (List.range 16).map (mw m)
theorem wd_mws (m : Nat) {j : Nat} (hj : j < 16) : wd (mws m) j = mw m j := by
  rw [wd_first (by simp [mws]) hj]
  simp [mws, List.getD_eq_getElem?_getD, hj]
theorem shaB_eq (m : Nat) (t : T8) (k : Nat → Nat → Nat → Nat → Nat → Nat → Nat → Nat → Bool) : shaB m t.a t.b t.c t.d t.e t.f t.g t.h k = (t.blk (mws m)).k k := by
  have key := shaR_run (t := t) (w := mws m) (by simp [mws]) (k := fun a1 b1 c1 d1 e1 f1 g1 h1 => k ((t.a + a1) % 4294967296) ((t.b + b1) % 4294967296) ((t.c + c1) % 4294967296) ((t.d + d1) % 4294967296) ((t.e + e1) % 4294967296) ((t.f + f1) % 4294967296) ((t.g + g1) % 4294967296) ((t.h + h1) % 4294967296)) 64 0 (Nat.zero_add 64)
  have hr0 : t.run shaK (mws m) 0 = t := rfl
  have e0 : wd (mws m) 0 = Nat.shiftRight m 480 % 4294967296 := wd_mws m (j := 0) (by omega)
  have e1 : wd (mws m) 1 = Nat.shiftRight m 448 % 4294967296 := wd_mws m (j := 1) (by omega)
  have e2 : wd (mws m) 2 = Nat.shiftRight m 416 % 4294967296 := wd_mws m (j := 2) (by omega)
  have e3 : wd (mws m) 3 = Nat.shiftRight m 384 % 4294967296 := wd_mws m (j := 3) (by omega)
  have e4 : wd (mws m) 4 = Nat.shiftRight m 352 % 4294967296 := wd_mws m (j := 4) (by omega)
  have e5 : wd (mws m) 5 = Nat.shiftRight m 320 % 4294967296 := wd_mws m (j := 5) (by omega)
  have e6 : wd (mws m) 6 = Nat.shiftRight m 288 % 4294967296 := wd_mws m (j := 6) (by omega)
  have e7 : wd (mws m) 7 = Nat.shiftRight m 256 % 4294967296 := wd_mws m (j := 7) (by omega)
  have e8 : wd (mws m) 8 = Nat.shiftRight m 224 % 4294967296 := wd_mws m (j := 8) (by omega)
  have e9 : wd (mws m) 9 = Nat.shiftRight m 192 % 4294967296 := wd_mws m (j := 9) (by omega)
  have e10 : wd (mws m) 10 = Nat.shiftRight m 160 % 4294967296 := wd_mws m (j := 10) (by omega)
  have e11 : wd (mws m) 11 = Nat.shiftRight m 128 % 4294967296 := wd_mws m (j := 11) (by omega)
  have e12 : wd (mws m) 12 = Nat.shiftRight m 96 % 4294967296 := wd_mws m (j := 12) (by omega)
  have e13 : wd (mws m) 13 = Nat.shiftRight m 64 % 4294967296 := wd_mws m (j := 13) (by omega)
  have e14 : wd (mws m) 14 = Nat.shiftRight m 32 % 4294967296 := wd_mws m (j := 14) (by omega)
  have e15 : wd (mws m) 15 = Nat.shiftRight m 0 % 4294967296 := wd_mws m (j := 15) (by omega)
  rw [hr0, List.drop_zero] at key
  simp only [Nat.zero_add] at key
  rw [e0, e1, e2, e3, e4, e5, e6, e7, e8, e9, e10, e11, e12, e13, e14, e15] at key
  unfold shaB T8.blk T8.add T8.k
  unfold T8.k at key
  simp only [fNat_eq, land_m, Nat.add_eq]
  exact key
/-- Blocks, the first ones first. -/
noncomputable def T8.fold (t : T8) (m : Nat) : Nat → T8
  | 0 => t
  | i + 1 => T8.fold (t.blk (mws (Nat.shiftRight m (Nat.mul 512 i)))) m i
theorem shaM_eq (m : Nat) (k : Nat → Nat → Nat → Nat → Nat → Nat → Nat → Nat → Bool) : ∀ (n : Nat) (t : T8), shaM m n t.a t.b t.c t.d t.e t.f t.g t.h k = (t.fold m n).k k
  | 0, t => rfl
  | n + 1, t => by
    have h1 : shaM m (n + 1) t.a t.b t.c t.d t.e t.f t.g t.h k = shaB (Nat.shiftRight m (Nat.mul 512 n)) t.a t.b t.c t.d t.e t.f t.g t.h (fun a b c d e f g h => shaM m n a b c d e f g h k) := rfl
    have h2 : t.fold m (n + 1) = (t.blk (mws (Nat.shiftRight m (Nat.mul 512 n)))).fold m n := rfl
    rw [h1, shaB_eq, h2, ← shaM_eq m k n (t.blk (mws (Nat.shiftRight m (Nat.mul 512 n))))]
    unfold T8.k
    exact rfl
def sha0 : T8 := ⟨1779033703, 3144134277, 1013904242, 2773480762, 1359893119, 2600822924, 528734635, 1541459225⟩
noncomputable def T8.num (t : T8) : Nat := cmb (cmb (cmb (cmb (cmb (cmb (cmb t.a t.b) t.c) t.d) t.e) t.f) t.g) t.h
noncomputable def shaNb (l : Nat) : Nat := Nat.succ (Nat.div (Nat.add l 8) 64)
noncomputable def shaNn (l n nb : Nat) : Nat := Nat.add (Nat.mul (Nat.add (Nat.mul n 256) 128) (Nat.pow 256 (Nat.sub (Nat.mul 64 nb) (Nat.succ l)))) (Nat.mul 8 l)
noncomputable def shaO (k : Nat → Bool) (a b c d e f g h : Nat) : Bool := fNat (cmb (cmb (cmb (cmb (cmb (cmb (cmb a b) c) d) e) f) g) h) k
noncomputable def shaD (l n : Nat) : Nat := (sha0.fold (shaNn l n (shaNb l)) (shaNb l)).num
theorem shaO_eq (a b c d e f g h : Nat) (k : Nat → Bool) : shaO k a b c d e f g h = k (cmb (cmb (cmb (cmb (cmb (cmb (cmb a b) c) d) e) f) g) h) := by
  rw [shaO, fNat_eq]
theorem shaM_eq2 (m : Nat) (k : Nat → Nat → Nat → Nat → Nat → Nat → Nat → Nat → Bool) (n : Nat) (t : T8) : shaM m n t.a t.b t.c t.d t.e t.f t.g t.h k = k (t.fold m n).a (t.fold m n).b (t.fold m n).c (t.fold m n).d (t.fold m n).e (t.fold m n).f (t.fold m n).g (t.fold m n).h := shaM_eq m k n t
theorem shaS_eq (l n : Nat) (k : Nat → Bool) : shaS l n k = k (shaD l n) := by
  have h0 : shaS l n k = fNat (shaNb l) fun nb => fNat (shaNn l n nb) fun m => shaM m nb sha0.a sha0.b sha0.c sha0.d sha0.e sha0.f sha0.g sha0.h (shaO k) := rfl
  rw [h0, fNat_eq, fNat_eq, shaM_eq2, shaO_eq]
  unfold shaD T8.num
  exact rfl
end Go.Proofs.YtnkkfmnpkgjabaaGreat.Y

/- Digests: all of a text. -/
namespace Go.Proofs.YtnkkfmnpkgjabaaGreat.Y
open Go.Proofs.YtnkkfmnpkgjabaaGreat.X (bitI bitsI ensure ensure_bind idxO idxT loopF loopF_inr loopF_inl Txt txtOf bytesOf l_ref1_Sum l_ref1_Sum_b0 l_ref1_Sum_b1 l_ref1_Sum_b2 l_ref1_Sum_b3 l_ref1_block)
set_option linter.unusedVariables false
set_option linter.unusedSimpArgs false
theorem wrap8 (n : Nat) : IntKind.wrap .u8 (n : Int) = ((n % 256 : Nat) : Int) := by
  rw [← wrapI_eq]; rfl
theorem wrap64 {n : Nat} (h : n < 18446744073709551616) : IntKind.wrap .u64 (n : Int) = (n : Int) := by
  rw [← wrapI_eq]
  show ((n % 2 ^ 64 : Nat) : Int) = _
  rw [Nat.mod_eq_of_lt h]
/-! ### padding -/
theorem pad_loop : ∀ (z : Nat) (s : List Int), (s.length + z) % 64 = 56 → z < 64 → s.length + z ≤ 16777216 → loopF (τ := List Int) (fun s : List Int => l_ref1_Sum_b0 s) s = some (s ++ List.replicate z 0)
  | 0, s, h, _, _ => by
    have hd : (((s.length : Int).tmod 64) != 56) = false := by
      have : (s.length : Int).tmod 64 = ((s.length % 64 : Nat) : Int) := by rw [← remI_eq]; rfl
      rw [this]; simp; omega
    refine (loopF_inr (o := s) ?_).trans (by simp)
    show l_ref1_Sum_b0 s = _
    unfold l_ref1_Sum_b0
    rw [hd]; rfl
  | z + 1, s, h, hz, hb => by
    have hd : (((s.length : Int).tmod 64) != 56) = true := by
      have : (s.length : Int).tmod 64 = ((s.length % 64 : Nat) : Int) := by rw [← remI_eq]; rfl
      rw [this]; simp; omega
    have h1 : l_ref1_Sum_b0 s = some (.inl (s ++ [0])) := by
      unfold l_ref1_Sum_b0
      rw [hd, cond_true, ensure_bind (by simp; omega)]
    have h2 := pad_loop z (s ++ [0]) (by simp; omega) (by omega) (by simp; omega)
    rw [loopF_inl h1, h2, List.append_assoc]
    rfl
theorem len_loop {a0 : Txt} {l : Nat} (hl : a0.size = l) (hb : l ≤ 1048576) {s : List Int} (hs : s.length ≤ 16777216) : loopF (τ := List Int) (fun s : List Int × Int => l_ref1_Sum_b1 a0 s.1 s.2) (s, 0) = some (s ++ [((8 * l / 2 ^ 56 % 256 : Nat) : Int), ((8 * l / 2 ^ 48 % 256 : Nat) : Int), ((8 * l / 2 ^ 40 % 256 : Nat) : Int), ((8 * l / 2 ^ 32 % 256 : Nat) : Int), ((8 * l / 2 ^ 24 % 256 : Nat) : Int), ((8 * l / 2 ^ 16 % 256 : Nat) : Int), ((8 * l / 2 ^ 8 % 256 : Nat) : Int), ((8 * l / 2 ^ 0 % 256 : Nat) : Int)]) := by
  have st : ∀ (i e : Nat) (s : List Int), i < 8 → e = 56 - 8 * i → s.length ≤ 16777300 → l_ref1_Sum_b1 a0 s (i : Int) = some (.inl (s ++ [((8 * l / 2 ^ e % 256 : Nat) : Int)], ((i + 1 : Nat) : Int))) := fun i e s hi he hs => by
    unfold l_ref1_Sum_b1
    have hdec : decide ((i : Int) < 8) = true := by simp; omega
    have w1 : IntKind.wrap .u64 (56 - (8 * (i : Int))) = (e : Int) := by
      rw [show (56 - (8 * (i : Int))) = ((e : Nat) : Int) by omega, wrap64 (by omega)]
    have w2 : IntKind.wrap .u64 (IntKind.wrap .u64 (a0.size : Int) * 8) = ((8 * l : Nat) : Int) := by
      rw [hl, wrap64 (by omega), show ((l : Int) * 8) = ((8 * l : Nat) : Int) by omega, wrap64 (by omega)]
    rw [hdec, cond_true, ensure_bind (by omega), ensure_bind (by omega), w1, ensure_bind (by omega), w2]
    have e1 : ((8 * l : Nat) : Int) / (2 : Int) ^ ((e : Nat) : Int).toNat = ((8 * l / 2 ^ e : Nat) : Int) := by
      rw [Int.toNat_natCast, show (2 : Int) ^ e = ((2 ^ e : Nat) : Int) by simp]; rfl
    rw [e1, wrap8, ensure_bind (by simp; omega), ensure_bind (by omega)]
    rfl
  rw [loopF_inl (s := (s, 0)) (s' := _) (st 0 56 s (by omega) rfl (by omega)), loopF_inl (st 1 48 _ (by omega) rfl (by simp; omega)), loopF_inl (st 2 40 _ (by omega) rfl (by simp; omega)), loopF_inl (st 3 32 _ (by omega) rfl (by simp; omega)), loopF_inl (st 4 24 _ (by omega) rfl (by simp; omega)), loopF_inl (st 5 16 _ (by omega) rfl (by simp; omega)), loopF_inl (st 6 8 _ (by omega) rfl (by simp; omega)), loopF_inl (st 7 0 _ (by omega) rfl (by simp; omega))]
  refine (loopF_inr (o := s ++ [_] ++ [_] ++ [_] ++ [_] ++ [_] ++ [_] ++ [_] ++ [_]) rfl).trans ?_
  simp only [List.append_assoc, List.cons_append, List.nil_append]
/-! ### the number of a text with its padding -/
theorem bl_zero : ∀ z, bl z 0 = List.replicate z 0
  | 0 => rfl
  | z + 1 => by
    show UInt8.ofNat (0 / 256 ^ z) :: bl z 0 = _
    rw [Nat.zero_div, bl_zero z, List.replicate_succ]; rfl
theorem nb_ge (l : Nat) : l + 9 ≤ 64 * shaNb l := by
  have : shaNb l = (l + 8) / 64 + 1 := rfl
  omega
theorem nb_pad (l : Nat) : 64 * shaNb l - (l + 9) < 64 := by
  have : shaNb l = (l + 8) / 64 + 1 := rfl
  omega
theorem shaN_eq (l n : Nat) : shaNn l n (shaNb l) = (n * 256 + 128) * 256 ^ (64 * shaNb l - (l + 1)) + 8 * l := rfl
theorem shaN_bytes {l n : Nat} (hl : l ≤ 1048576) : bl (64 * shaNb l) (shaNn l n (shaNb l)) = bl l n ++ [128] ++ List.replicate (64 * shaNb l - (l + 9)) 0 ++ bl 8 (8 * l) := by
  have hge := nb_ge l
  obtain ⟨z, hz⟩ : ∃ z, 64 * shaNb l - (l + 9) = z := ⟨_, rfl⟩
  rw [shaN_eq, hz, show 64 * shaNb l - (l + 1) = z + 8 by omega]
  have hlt : 8 * l < 256 ^ (z + 8) := by
    have h1 : (256 : Nat) ^ 8 ≤ 256 ^ (z + 8) := Nat.pow_le_pow_right (by omega) (by omega)
    have h2 : (256 : Nat) ^ 8 = 18446744073709551616 := rfl
    omega
  have e0 := bl_app (l + 1) (z + 8) (n * 256 + 128) (8 * l)
  rw [Nat.mod_eq_of_lt hlt, show l + 1 + (z + 8) = 64 * shaNb l by omega] at e0
  rw [e0]
  have e1 := bl_app l 1 n 128
  rw [show 128 % 256 ^ 1 = 128 from rfl, Nat.pow_one] at e1
  have e2 := bl_split z 8 (8 * l)
  rw [show 8 * l / 256 ^ 8 = 0 from Nat.div_eq_of_lt (by have h2 : (256 : Nat) ^ 8 = 18446744073709551616 := rfl; omega), bl_zero] at e2
  rw [e1, e2]
  have e3 : bl 1 128 = [128] := rfl
  rw [e3]
  simp only [List.append_assoc]
/-! ### blocks of a text -/
theorem mw_bytes (X : Nat) : (UInt8.ofNat (X / 256 ^ 3)).toNat * 16777216 + (UInt8.ofNat (X / 256 ^ 2)).toNat * 65536 + (UInt8.ofNat (X / 256 ^ 1)).toNat * 256 + (UInt8.ofNat (X / 256 ^ 0)).toNat = X % 4294967296 := by
  have e : ∀ q : Nat, (UInt8.ofNat q).toNat = q % 256 := fun q => by simp
  rw [e, e, e, e]
  have h3 : (256 : Nat) ^ 3 = 16777216 := rfl
  have h2 : (256 : Nat) ^ 2 = 65536 := rfl
  rw [h3, h2, Nat.pow_one, Nat.pow_zero, Nat.div_one]
  omega
theorem chunk_words {nb M b j : Nat} (hb : b + (j + 1) = nb) {c : Txt} (hc : c.data.toList = ((bl (64 * nb) M).drop (64 * b)).take 64) : cws c = mws (Nat.shiftRight M (Nat.mul 512 j)) := by
  unfold cws mws
  refine List.map_congr_left fun i hi => ?_
  have hi : i < 16 := by simpa using hi
  unfold cw mw
  have hg : ∀ p, p < 64 → c.data.toList.getD p 0 = UInt8.ofNat (M / 256 ^ (64 * nb - 1 - (64 * b + p))) := fun p hp => by
    rw [hc, List.getD_eq_getElem?_getD, List.getElem?_take_of_lt hp, List.getElem?_drop, bl_get M (by omega)]; rfl
  rw [hg _ (by omega), hg _ (by omega), hg _ (by omega), hg _ (by omega)]
  obtain ⟨q, hq⟩ : ∃ q, 64 * nb - 4 - (64 * b + 4 * i) = q := ⟨_, rfl⟩
  have hd : ∀ r, M / 256 ^ (q + r) = M / 256 ^ q / 256 ^ r := fun r => by rw [Nat.pow_add, Nat.div_div_eq_div_mul]
  rw [show 64 * nb - 1 - (64 * b + 4 * i) = q + 3 by omega, show 64 * nb - 1 - (64 * b + (4 * i + 1)) = q + 2 by omega, show 64 * nb - 1 - (64 * b + (4 * i + 2)) = q + 1 by omega, show 64 * nb - 1 - (64 * b + (4 * i + 3)) = q + 0 by omega, hd 3, hd 2, hd 1, hd 0, mw_bytes]
  congr 1
  have e1 : Nat.shiftRight M (Nat.mul 512 j) >>> (32 * (15 - i)) = M / 2 ^ (512 * j + 32 * (15 - i)) := by
    show (M >>> (512 * j)) >>> (32 * (15 - i)) = _
    rw [← Nat.shiftRight_add, Nat.shiftRight_eq_div_pow]
  have e2 : (256 : Nat) ^ q = 2 ^ (8 * q) := by rw [show (256 : Nat) = 2 ^ 8 from rfl, ← Nat.pow_mul]
  rw [e1, e2, show 8 * q = 512 * j + 32 * (15 - i) by omega]
theorem blocks_loop {e56 : List Int} {nb M : Nat} (hT : txtOf e56 = bs (64 * nb) M) (hn : nb ≤ 100000) : ∀ (j b : Nat) (t : T8), b + j = nb → t.Lt → loopF (τ := List Int) (fun s : Int × List Int => l_ref1_Sum_b2 e56 s.1 s.2) (((64 * b : Nat) : Int), t.L) = some (t.fold M j).L
  | 0, b, t, h, ht => by
    refine loopF_inr ?_
    show l_ref1_Sum_b2 e56 ((64 * b : Nat) : Int) t.L = _
    unfold l_ref1_Sum_b2
    have hdec : decide (((64 * b : Nat) : Int) < ((txtOf e56).size : Int)) = false := by rw [hT, bs_size]; simp; omega
    rw [hdec]; rfl
  | j + 1, b, t, h, ht => by
    have hsz : (txtOf e56).size = 64 * nb := by rw [hT, bs_size]
    have hchunk : ((txtOf e56).extract (64 * b) (64 * b + 64)).data.toList = ((bl (64 * nb) M).drop (64 * b)).take 64 := by
      rw [hT, ByteArray.data_extract]
      show ((bl (64 * nb) M).toArray.extract (64 * b) (64 * b + 64)).toList = _
      simp [List.extract_eq_take_drop]
    have hcs : ((txtOf e56).extract (64 * b) (64 * b + 64)).size = 64 := by
      have := congrArg List.length hchunk
      rw [List.length_take, List.length_drop, bl_len] at this
      have h2 : ((txtOf e56).extract (64 * b) (64 * b + 64)).size = ((txtOf e56).extract (64 * b) (64 * b + 64)).data.toList.length := (Array.length_toList).symm
      rw [h2, this]; omega
    have h1 : l_ref1_Sum_b2 e56 ((64 * b : Nat) : Int) t.L = some (.inl (((64 * (b + 1) : Nat) : Int), (t.blk (mws (Nat.shiftRight M (Nat.mul 512 j)))).L)) := by
      unfold l_ref1_Sum_b2
      have hdec : decide (((64 * b : Nat) : Int) < ((txtOf e56).size : Int)) = true := by rw [hsz]; simp; omega
      have hL : t.L.length = 8 := rfl
      have hL2 : (t.blk (mws (Nat.shiftRight M (Nat.mul 512 j)))).L.length = 8 := rfl
      rw [hdec, cond_true, ensure_bind hL, ensure_bind (by omega), ensure_bind (by rw [hsz]; omega), show (((64 * b : Nat) : Int)).toNat = 64 * b from Int.toNat_natCast _, show ((((64 * b : Nat) : Int) + 64)).toNat = 64 * b + 64 by omega, block_eq ht hcs, Option.bind_some, chunk_words (by omega) hchunk, ensure_bind hL2, ensure_bind (by omega), show (((64 * b : Nat) : Int) + 64) = ((64 * (b + 1) : Nat) : Int) by omega]
    rw [loopF_inl h1]
    exact blocks_loop hT hn j (b + 1) _ (by omega) (T8.add_lt _ _)
/-! ### what comes out -/
def four (a : Nat) : List Int := [((a / 16777216 % 256 : Nat) : Int), ((a / 65536 % 256 : Nat) : Int), ((a / 256 % 256 : Nat) : Int), ((a % 256 : Nat) : Int)]
theorem out_loop (t : T8) : loopF (τ := List Int) (fun s : List Int × Int => l_ref1_Sum_b3 t.L s.1 s.2) (([] : List Int), 0) = some (four t.a ++ four t.b ++ four t.c ++ four t.d ++ four t.e ++ four t.f ++ four t.g ++ four t.h) := by
  have st : ∀ (i a : Nat) (s : List Int), i < 8 → t.L[i]? = some (a : Int) → s.length ≤ 100 → l_ref1_Sum_b3 t.L s (i : Int) = some (.inl (s ++ four a, ((i + 1 : Nat) : Int))) := fun i a s hi ha hs => by
    unfold l_ref1_Sum_b3
    have hdec : decide ((i : Int) < 8) = true := by simp; omega
    have e1 : (a : Int) / (16777216 : Int) = ((a / 16777216 : Nat) : Int) := rfl
    have e2 : (a : Int) / (65536 : Int) = ((a / 65536 : Nat) : Int) := rfl
    have e3 : (a : Int) / (256 : Int) = ((a / 256 : Nat) : Int) := rfl
    rw [hdec, cond_true, idx_nat, ha, Option.bind_some, ensure_bind (by simp; omega), ensure_bind (by omega), e1, e2, e3, wrap8, wrap8, wrap8, wrap8]
    rfl
  rw [loopF_inl (s := (([] : List Int), 0)) (s' := _) (st 0 t.a [] (by omega) rfl (by simp)), loopF_inl (st 1 t.b _ (by omega) rfl (by simp [four])), loopF_inl (st 2 t.c _ (by omega) rfl (by simp [four])), loopF_inl (st 3 t.d _ (by omega) rfl (by simp [four])), loopF_inl (st 4 t.e _ (by omega) rfl (by simp [four])), loopF_inl (st 5 t.f _ (by omega) rfl (by simp [four])), loopF_inl (st 6 t.g _ (by omega) rfl (by simp [four])), loopF_inl (st 7 t.h _ (by omega) rfl (by simp [four]))]
  exact loopF_inr rfl
theorem four_bytes (a : Nat) : (four a).map (fun n : Int => UInt8.ofNat n.toNat) = bl 4 a := by
  simp only [four, List.map_cons, List.map_nil, Int.toNat_natCast, u8_mod]
  show _ = [UInt8.ofNat (a / 256 ^ 3), UInt8.ofNat (a / 256 ^ 2), UInt8.ofNat (a / 256 ^ 1), UInt8.ofNat (a / 256 ^ 0)]
  rw [Nat.pow_one, Nat.pow_zero, Nat.div_one]
theorem c32_eq : c32 = 256 ^ 4 := by unfold c32; rfl
theorem bl_cmb {l a b : Nat} (hb : b < 4294967296) : bl (l + 4) (cmb a b) = bl l a ++ bl 4 b := by
  have := bl_app l 4 a b
  rw [Nat.mod_eq_of_lt (show b < 256 ^ 4 by have h : (256 : Nat) ^ 4 = 4294967296 := rfl; omega)] at this
  rw [← this]
  unfold cmb
  rw [c32_eq]; rfl
theorem out_bytes {t : T8} (ht : t.Lt) : txtOf (four t.a ++ four t.b ++ four t.c ++ four t.d ++ four t.e ++ four t.f ++ four t.g ++ four t.h) = bs 32 t.num := by
  unfold txtOf bs T8.num
  rw [List.map_append, List.map_append, List.map_append, List.map_append, List.map_append, List.map_append, List.map_append, four_bytes, four_bytes, four_bytes, four_bytes, four_bytes, four_bytes, four_bytes, four_bytes]
  rw [bl_cmb (l := 28) ht.h, bl_cmb (l := 24) ht.g, bl_cmb (l := 20) ht.f, bl_cmb (l := 16) ht.e, bl_cmb (l := 12) ht.d, bl_cmb (l := 8) ht.c, bl_cmb (l := 4) ht.b]
theorem T8.fold_lt {M : Nat} : ∀ (j : Nat) {t : T8}, t.Lt → (t.fold M j).Lt
  | 0, _, h => h
  | j + 1, t, h => T8.fold_lt j (T8.add_lt _ _)
theorem sha0_lt : sha0.Lt := ⟨Nat.le_of_ble_eq_true rfl, Nat.le_of_ble_eq_true rfl, Nat.le_of_ble_eq_true rfl, Nat.le_of_ble_eq_true rfl, Nat.le_of_ble_eq_true rfl, Nat.le_of_ble_eq_true rfl, Nat.le_of_ble_eq_true rfl, Nat.le_of_ble_eq_true rfl⟩
theorem sum_eq {l n : Nat} (hl : l ≤ 1048576) : l_ref1_Sum (bs l n) = some (bs 32 (shaD l n)) := by
  have hsz : (bs l n).size = l := bs_size l n
  have hbl : (bytesOf (bs l n)).length = l := by unfold bytesOf; rw [List.length_map, bs_list, bl_len]
  have hge := nb_ge l
  have hpad := nb_pad l
  obtain ⟨z, hz⟩ : ∃ z, 64 * shaNb l - (l + 9) = z := ⟨_, rfl⟩
  have hnb : shaNb l ≤ 100000 := by have : shaNb l = (l + 8) / 64 + 1 := rfl; omega
  have h1 := pad_loop z (bytesOf (bs l n) ++ [128]) (by rw [List.length_append, hbl]; simp; omega) (by omega) (by rw [List.length_append, hbl]; simp; omega)
  have h2 := len_loop hsz hl (s := bytesOf (bs l n) ++ [128] ++ List.replicate z 0) (by rw [List.length_append, List.length_append, hbl]; simp; omega)
  obtain ⟨e56, he⟩ : ∃ e, (bytesOf (bs l n) ++ [128] ++ List.replicate z 0) ++ [((8 * l / 2 ^ 56 % 256 : Nat) : Int), ((8 * l / 2 ^ 48 % 256 : Nat) : Int), ((8 * l / 2 ^ 40 % 256 : Nat) : Int), ((8 * l / 2 ^ 32 % 256 : Nat) : Int), ((8 * l / 2 ^ 24 % 256 : Nat) : Int), ((8 * l / 2 ^ 16 % 256 : Nat) : Int), ((8 * l / 2 ^ 8 % 256 : Nat) : Int), ((8 * l / 2 ^ 0 % 256 : Nat) : Int)] = e := ⟨_, rfl⟩
  rw [he] at h2
  have hT : txtOf e56 = bs (64 * shaNb l) (shaNn l n (shaNb l)) := by
    unfold bs
    rw [shaN_bytes hl, hz, ← he]
    unfold txtOf
    congr 2
    rw [List.map_append, List.map_append, List.map_append]
    congr 1
    · congr 1
      · congr 1
        unfold bytesOf
        rw [List.map_map, bs_list]
        conv => rhs; rw [← List.map_id (bl l n)]
        refine List.map_congr_left fun b _ => ?_
        show UInt8.ofNat ((b.toNat : Int)).toNat = b
        rw [Int.toNat_natCast, UInt8.ofNat_toNat]
      · rw [List.map_replicate]; rfl
    · simp only [List.map_cons, List.map_nil, Int.toNat_natCast, u8_mod]
      show _ = [UInt8.ofNat (8 * l / 256 ^ 7), UInt8.ofNat (8 * l / 256 ^ 6), UInt8.ofNat (8 * l / 256 ^ 5), UInt8.ofNat (8 * l / 256 ^ 4), UInt8.ofNat (8 * l / 256 ^ 3), UInt8.ofNat (8 * l / 256 ^ 2), UInt8.ofNat (8 * l / 256 ^ 1), UInt8.ofNat (8 * l / 256 ^ 0)]
      rfl
  have h3 := blocks_loop hT hnb (shaNb l) 0 sha0 (by omega) sha0_lt
  have h4 := out_loop (sha0.fold (shaNn l n (shaNb l)) (shaNb l))
  unfold l_ref1_Sum
  rw [ensure_bind (by rw [hsz]; omega), ensure_bind (by rw [hbl]; simp; omega), h1, Option.bind_some]
  show Option.bind (loopF (τ := List Int) (fun s : List Int × Int => l_ref1_Sum_b1 (bs l n) s.1 s.2) (bytesOf (bs l n) ++ [128] ++ List.replicate z 0, 0)) _ = _
  rw [h2, Option.bind_some]
  show Option.bind (loopF (τ := List Int) (fun s : Int × List Int => l_ref1_Sum_b2 e56 s.1 s.2) (((64 * 0 : Nat) : Int), sha0.L)) _ = _
  rw [h3, Option.bind_some]
  show Option.bind (loopF (τ := List Int) (fun s : List Int × Int => l_ref1_Sum_b3 (sha0.fold (shaNn l n (shaNb l)) (shaNb l)).L s.1 s.2) (([] : List Int), 0)) _ = _
  rw [h4, Option.bind_some]
  show some (txtOf _) = _
  rw [out_bytes (T8.fold_lt _ sha0_lt)]
  unfold shaD
  exact rfl
end Go.Proofs.YtnkkfmnpkgjabaaGreat.Y

/- Functions that are told elsewhere; functions that are run by themselves. -/
namespace Go.Proofs.YtnkkfmnpkgjabaaGreat.Y
set_option linter.unusedVariables false
set_option linter.unusedSimpArgs false
section
variable {P : Program} {ξ : Nat → Int} {K : Nat}
/-- Nothing of what there was turns. -/
theorem Ok.keep {ρ : Rho} {H : Nat → V} {w w' : World} (hok : Ok ρ ξ H w) (hsz : w.heap.size ≤ w'.heap.size) (hfr : ∀ g, g < w.heap.size → w'.heap[g]? = w.heap[g]?) : Ok ρ ξ H w' :=
  ⟨hok.inj, fun i g c h => Nat.lt_of_lt_of_le (hok.lt i g c h) hsz, hok.unb, hok.small, hok.dead, fun i g c h => (hok.blk i g c h).stay (.refl _) (hfr g (hok.lt i g c h))⟩
theorem Reach.keep {ρ : Rho} {H : Nat → V} {w w' : World} (hsz : w.heap.size ≤ w'.heap.size) (hfr : ∀ g, g < w.heap.size → w'.heap[g]? = w.heap[g]?) (hos : w'.os = w.os) (htape : w'.tape = w.tape) (hout : w'.output = w.output) : Reach ρ w H ρ w' H :=
  ⟨fun _ h => h, ⟨fun _ _ => .inl rfl, fun i g c h => .inl ⟨i, c, h⟩, fun g hg _ => hfr g hg, hos, htape, hout, hsz⟩, fun _ _ _ => rfl⟩
theorem pureCall {args : V} {H : Nat → V} {v : V} {xs : List X.A} {y : X.A} (hF : X.FI P K) (hc : X.APure P K xs y)
    (ha : ∀ ρ us, TvL ρ ξ args us → us.length = xs.length ∧ ∀ w k x, xs[k]? = some x → X.Rep w [] (us.toArray.getD k undef) x)
    (hr : ∀ ρ w u, X.Rep w [] u y → Tv ρ ξ v u) : CallOk P ξ K args H H v :=
  ⟨hF, fun ρ w us hok hus => by
    obtain ⟨h1, h2⟩ := ha ρ us hus
    refine (hc [] w us.toArray (by simpa using h1) (h2 w) ⟨List.nodup_nil, fun x hx => by cases hx⟩).mono fun e w' ⟨u, r, bs', e1, ⟨e2, e3⟩, e4, e5, e6⟩ => ?_
    subst e2; subst e3
    have hfr : ∀ g, g < w.heap.size → w'.heap[g]? = w.heap[g]? := fun g hg => e6.block g hg fun z hz => by cases hz
    exact ⟨u, e1, ρ, .keep e6.size hfr e6.os e6.tape e6.output, hok.keep e6.size hfr, hr ρ w' u e4⟩⟩
/-! ### values in which nothing points -/
noncomputable def flat (v : V) : Bool := V.rec (motive := fun _ => Bool) true (fun _ _ h1 h2 => Bool.casesOn h1 false h2) true (fun _ _ => true) (fun _ => true) (fun _ _ => true) (fun _ => true) (fun _ _ => false) (fun _ _ _ _ _ _ => false) (fun _ _ _ h1 h2 => Bool.casesOn h1 false h2) (fun _ _ h => h) (fun _ => false) (fun _ h => h) (fun _ h => h) (fun _ => true) v
theorem flat_eq {ρ ρ' : Rho} : ∀ {v : V}, flat v = true → TvP ρ ξ v = TvP ρ' ξ v
  | .nl, _ => rfl
  | .cs a r, h => by
    obtain ⟨h1, h2⟩ := andB (a := flat a) (b := flat r) h
    simp only [TvP, flat_eq (ρ := ρ) (ρ' := ρ') h1, flat_eq (ρ := ρ) (ρ' := ρ') h2]
  | .undef, _ => rfl
  | .int _ _, _ => rfl
  | .bool _, _ => rfl
  | .str _ _, _ => rfl
  | .nil _, _ => rfl
  | .ptr _ _, h => by cases h
  | .sl _ _ _ _ _ _, h => by cases h
  | .fn f a c, h => by
    obtain ⟨h1, h2⟩ := andB (a := flat a) (b := flat c) h
    simp only [TvP, flat_eq (ρ := ρ) (ρ' := ρ') h1, flat_eq (ρ := ρ) (ρ' := ρ') h2]
  | .ifc t x, h => by
    have h : flat x = true := h
    simp only [TvP, flat_eq (ρ := ρ) (ρ' := ρ') h]
  | .mp _, h => by cases h
  | .agg x, h => by
    have h : flat x = true := h
    simp only [TvP, flat_eq (ρ := ρ) (ρ' := ρ') h]
  | .tup x, h => by
    have h : flat x = true := h
    simp only [TvP, flat_eq (ρ := ρ) (ρ' := ρ') h]
  | .arg _, _ => rfl
/-- Nothing is there at first. -/
noncomputable def S00 (tk : V) : St := ⟨.E, .E, 0, tk⟩
theorem hp00 (tk : V) (i : Nat) : hp (S00 tk) i = .undef := by
  unfold hp S00
  split
  · exact Tr.look_E _
  · rfl
end
end Go.Proofs.YtnkkfmnpkgjabaaGreat.Y

/- Lifted code. Printed by a program of this repo (lift2.py). -/
namespace Go.Proofs.YtnkkfmnpkgjabaaGreat.X
open Go.RowKit
set_option linter.unusedVariables false
set_option linter.unusedSimpArgs false
set_option maxRecDepth 10000
set_option maxHeartbeats 4000000
noncomputable def l_law0_Place (a0 : Int) (a1 : Int) : Option (Int) :=
(ensure (0 < a1)).bind fun _ =>
cond (decide ((a0.tmod a1) < 0)) (
(ensure (-9223372036854775808 ≤ (a0.tmod a1) + a1 ∧ (a0.tmod a1) + a1 ≤ 9223372036854775807)).bind fun _ =>
some ((a0.tmod a1) + a1)) (
some (a0.tmod a1))
theorem c_law0_Place {a0 : Int} {a1 : Int} {r : Int} (hF : l_law0_Place a0 a1 = some r) : APure Tryz.prog 10 [iA a0, iA a1] (iA r) := fun bs => by
  unfold l_law0_Place at hF
  refine ACalls.wk ?_
  refine ACalls.in_ Tryz.func10 Tryz.ntmps10 (h := ?_)
  (repeat refine gc (h := ?_))
  refine AW.region ?_
  refine s_ Q.mo ?_
  refine AL.nil ?_
  have hF_ := ens hF; clear hF; obtain ⟨he1, hF⟩ := hF_
  (repeat refine gc (h := ?_))
  refine AW.region ?_
  refine s_ Q.mo ?_
  refine s_ Q.mo ?_
  refine s_ (Q.rm (h := he1)) ?_
  refine s_ Q.mo ?_
  refine AL.nil ?_
  (repeat refine gc (h := ?_))
  refine AW.region ?_
  refine s_ Q.mo ?_
  refine s_ Q.cm ?_
  refine AL.nil ?_
  (repeat refine gc (h := ?_))
  refine AW.cond (b := (decide ((a0.tmod a1) < 0))) rfl (fun hc2 => ?_) (fun hc2 => ?_)
  ·replace hF := cnd_t hc2 hF
   have hc2p := of_decide_eq_true hc2
   (repeat refine gc (h := ?_))
   have hF_ := ens hF; clear hF; obtain ⟨he3, hF⟩ := hF_
   (repeat refine gc (h := ?_))
   refine AW.region ?_
   refine s_ Q.mo ?_
   refine s_ Q.mo ?_
   refine s_ (Q.ad (h := he3)) ?_
   refine s_ Q.mo ?_
   refine AL.nil ?_
   (repeat refine gc (h := ?_))
   refine AW.region ?_
   refine s_ Q.mo ?_
   refine s_ Q.mo ?_
   refine AL.nil ?_
   have hr_ := some_inj hF
   subst r
   (repeat refine gc (h := ?_))
   exact EndQ.fin (bs' := bs) (h := ⟨wkr_, rfl⟩) (hs := sl_)
  ·replace hF := cnd_f hc2 hF
   have hc2p := of_decide_eq_false hc2
   (repeat refine gc (h := ?_))
   (repeat refine gc (h := ?_))
   refine AW.region ?_
   refine s_ Q.mo ?_
   refine s_ Q.mo ?_
   refine AL.nil ?_
   have hr_ := some_inj hF
   subst r
   (repeat refine gc (h := ?_))
   exact EndQ.fin (bs' := bs) (h := ⟨wkr_, rfl⟩) (hs := sl_)

noncomputable def l_sha_number (a0 : Txt) : Option (Int) :=
(idxT a0 0).bind fun x1 =>
(idxT a0 1).bind fun x4 =>
(idxT a0 2).bind fun x7 =>
(idxT a0 3).bind fun x10 =>
some (bitI .or .u32 (bitI .or .u32 (bitI .or .u32 (IntKind.wrap .u32 ((IntKind.wrap .u32 (x1.toNat : Int)) * 16777216)) (IntKind.wrap .u32 ((IntKind.wrap .u32 (x4.toNat : Int)) * 65536))) (IntKind.wrap .u32 ((IntKind.wrap .u32 (x7.toNat : Int)) * 256))) (IntKind.wrap .u32 (x10.toNat : Int)))
theorem c_sha_number {a0 : Txt} {r : Int} (hF : l_sha_number a0 = some r) : APure Tryz.prog 164 [sA a0] (.v (.int .u32 r)) := fun bs => by
  unfold l_sha_number at hF
  refine ACalls.wk ?_
  refine ACalls.in_ Tryz.func164 Tryz.ntmps164 (h := ?_)
  (repeat refine gc (h := ?_))
  refine AW.region ?_
  refine s_ Q.mo ?_
  refine AL.nil ?_
  have hF_ := idxT_b hF; clear hF; obtain ⟨x1, h2, h3, hF⟩ := hF_
  have hF_ := idxT_b hF; clear hF; obtain ⟨x4, h5, h6, hF⟩ := hF_
  have hF_ := idxT_b hF; clear hF; obtain ⟨x7, h8, h9, hF⟩ := hF_
  have hF_ := idxT_b hF; clear hF; obtain ⟨x10, h11, h12, hF⟩ := hF_
  (repeat refine gc (h := ?_))
  refine ADx.in_ (h := ?_)
  refine f_ 0 rfl (fun bs => Q.mo) ?_
  refine f_ 1 rfl (fun bs => Q.is h2 h3) ?_
  refine f_ 2 rfl (fun bs => Q.cv) ?_
  refine f_ 3 rfl (fun bs => Q.sl) ?_
  refine f_ 4 rfl (fun bs => Q.mo) ?_
  refine f_ 5 rfl (fun bs => Q.is h5 h6) ?_
  refine f_ 6 rfl (fun bs => Q.cv) ?_
  refine f_ 7 rfl (fun bs => Q.sl) ?_
  refine f_ 8 rfl (fun bs => Q.bt) ?_
  refine f_ 9 rfl (fun bs => Q.mo) ?_
  refine f_ 10 rfl (fun bs => Q.is h8 h9) ?_
  refine f_ 11 rfl (fun bs => Q.cv) ?_
  refine f_ 12 rfl (fun bs => Q.sl) ?_
  refine f_ 13 rfl (fun bs => Q.bt) ?_
  refine f_ 14 rfl (fun bs => Q.mo) ?_
  refine f_ 15 rfl (fun bs => Q.is h11 h12) ?_
  refine f_ 16 rfl (fun bs => Q.cv) ?_
  refine f_ 17 rfl (fun bs => Q.bt) ?_
  refine ADx.last 18 rfl (hq := Q.mo) (h := ?_)
  have hr_ := some_inj hF
  subst r
  (repeat refine gc (h := ?_))
  exact EndQ.fin (bs' := bs) (h := ⟨wkr_, rfl⟩) (hs := sl_)

noncomputable def l_math_bits_RotateLeft32 (a0 : Int) (a1 : Int) : Option (Int) :=
(ensure (0 ≤ (bitI .and .u64 (IntKind.wrap .u64 a1) 31) ∧ (bitI .and .u64 (IntKind.wrap .u64 a1) 31) ≤ 32)).bind fun _ =>
(ensure (0 ≤ (IntKind.wrap .u64 (32 - (bitI .and .u64 (IntKind.wrap .u64 a1) 31))) ∧ (IntKind.wrap .u64 (32 - (bitI .and .u64 (IntKind.wrap .u64 a1) 31))) ≤ 32)).bind fun _ =>
some (bitI .or .u32 (IntKind.wrap .u32 (a0 * (2 : Int) ^ (bitI .and .u64 (IntKind.wrap .u64 a1) 31).toNat)) (a0 / (2 : Int) ^ (IntKind.wrap .u64 (32 - (bitI .and .u64 (IntKind.wrap .u64 a1) 31))).toNat))
theorem c_math_bits_RotateLeft32 {a0 : Int} {a1 : Int} {r : Int} (hF : l_math_bits_RotateLeft32 a0 a1 = some r) : APure Tryz.prog 180 [.v (.int .u32 a0), iA a1] (.v (.int .u32 r)) := fun bs => by
  unfold l_math_bits_RotateLeft32 at hF
  refine ACalls.wk ?_
  refine ACalls.in_ Tryz.func180 Tryz.ntmps180 (h := ?_)
  (repeat refine gc (h := ?_))
  refine AW.region ?_
  refine s_ Q.mo ?_
  refine AL.nil ?_
  (repeat refine gc (h := ?_))
  refine AW.region ?_
  refine s_ Q.mo ?_
  refine s_ Q.cv ?_
  refine s_ Q.bt ?_
  refine s_ Q.mo ?_
  refine AL.nil ?_
  have hF_ := ens hF; clear hF; obtain ⟨he1, hF⟩ := hF_
  have hF_ := ens hF; clear hF; obtain ⟨he2, hF⟩ := hF_
  (repeat refine gc (h := ?_))
  refine AW.region ?_
  refine s_ Q.mo ?_
  refine s_ Q.mo ?_
  refine s_ (OpQ.shl (c := (2 : Int) ^ (bitI .and .u64 (IntKind.wrap .u64 a1) 31).toNat) rfl (Wk.refl _) (Wk.refl _) he1.1 (by show _ ≤ 32; omega) rfl) ?_
  refine s_ Q.mo ?_
  refine s_ Q.mo ?_
  refine s_ Q.ar ?_
  refine s_ (OpQ.shr (c := (2 : Int) ^ (IntKind.wrap .u64 (32 - (bitI .and .u64 (IntKind.wrap .u64 a1) 31))).toNat) rfl (Wk.refl _) (Wk.refl _) he2.1 (by show _ ≤ 32; omega) rfl) ?_
  refine s_ Q.bt ?_
  refine s_ Q.mo ?_
  refine AL.nil ?_
  have hr_ := some_inj hF
  subst r
  (repeat refine gc (h := ?_))
  exact EndQ.fin (bs' := bs) (h := ⟨wkr_, rfl⟩) (hs := sl_)

noncomputable def l_sha_right (a0 : Int) (a1 : Int) : Option (Int) :=
(ensure (-9223372036854775808 ≤ -a1 ∧ -a1 ≤ 9223372036854775807)).bind fun _ =>
(l_math_bits_RotateLeft32 a0 (-a1)).bind fun x2 =>
some x2
theorem c_sha_right {a0 : Int} {a1 : Int} {r : Int} (hF : l_sha_right a0 a1 = some r) : APure Tryz.prog 165 [.v (.int .u32 a0), iA a1] (.v (.int .u32 r)) := fun bs => by
  unfold l_sha_right at hF
  refine ACalls.wk ?_
  refine ACalls.in_ Tryz.func165 Tryz.ntmps165 (h := ?_)
  (repeat refine gc (h := ?_))
  refine AW.region ?_
  refine s_ Q.mo ?_
  refine AL.nil ?_
  have hF_ := ens hF; clear hF; obtain ⟨he1, hF⟩ := hF_
  have hF_ := bnd hF; clear hF; obtain ⟨x2, hc3, hF⟩ := hF_
  (repeat refine gc (h := ?_))
  refine AW.region ?_
  refine s_ Q.mo ?_
  refine s_ Q.mo ?_
  refine s_ (Q.ng (h := he1)) ?_
  refine s_ (OpQ.c (c_math_bits_RotateLeft32 hc3)) ?_
  refine s_ Q.mo ?_
  refine AL.nil ?_
  have hr_ := some_inj hF
  subst r
  (repeat refine gc (h := ?_))
  exact EndQ.fin (bs' := bs) (h := ⟨wkr_, rfl⟩) (hs := sl_)

end Go.Proofs.YtnkkfmnpkgjabaaGreat.X

/- Functions that the runner does not run: the document's digests, numbers of places; functions that are run by themselves; what is known of them. -/
namespace Go.Proofs.YtnkkfmnpkgjabaaGreat.Y
set_option linter.unusedVariables false
set_option linter.unusedSimpArgs false
/-! ### one's answers are known -/
noncomputable def knownF (a r : V) (d : FF) : FF := F.casesOn d fun g => .mk fun x args S k => Bool.casesOn (veqB args a) (g x args S k) (k r S)
noncomputable def knownL (l : List (V × V)) (d : FF) : FF := List.rec (motive := fun _ => FF) d (fun p _ ih => Prod.casesOn p fun a r => knownF a r ih) l
/-- A function by itself: of what there is it sees nothing. -/
noncomputable def isoF (d : FF) : FF := F.casesOn d fun g => .mk fun x args S k => Bool.casesOn (flat args) false (St.casesOn S fun e h nx tk => g x args ⟨.E, .E, 0, tk⟩ fun v S' => Bool.casesOn (flat v) false (St.casesOn S' fun _ _ _ tk' => k v ⟨e, h, nx, tk'⟩))
noncomputable def ovSha : FF := .mk fun _ args S k => vCs args fun a r => isNl r (vStr a fun l n => leN l 1048576 (shaS l n fun y => k (.str 32 y) S))
/-! ### a number's place -/
noncomputable def tkFind (i m : Nat) (tk : V) (f : Nat → Bool) (d : Bool) : Bool := V.rec (motive := fun _ => Bool) d (fun a _ _ ih => V.casesOn a ih (fun _ _ => ih) ih (fun _ _ => ih) (fun _ => ih) (fun _ _ => ih) (fun _ => ih) (fun j q => Bool.casesOn (Nat.beq j i) ih (Bool.casesOn (Nat.beq (Nat.div q 4294967296) m) ih (fNat (Nat.mod q 4294967296) f))) (fun _ _ _ _ _ _ => ih) (fun _ _ _ => ih) (fun _ _ => ih) (fun _ => ih) (fun _ => ih) (fun _ => ih) (fun _ => ih)) d (fun _ _ => d) (fun _ => d) (fun _ _ => d) (fun _ => d) (fun _ _ => d) (fun _ _ _ _ _ _ => d) (fun _ _ _ _ _ => d) (fun _ _ _ => d) (fun _ => d) (fun _ _ => d) (fun _ _ => d) (fun _ => d) tk
noncomputable def allB (m : Nat) (f : Nat → Bool) : Bool := Nat.rec (motive := fun _ => Bool) true (fun r ih => Bool.casesOn (f r) false ih) m
noncomputable def placeF (d : FF) : FF := F.casesOn d fun g => .mk fun x args S k => vCs args fun a r => V.casesOn a false (fun _ _ => false) false (fun _ _ => g x args S k) (fun _ => false) (fun _ _ => false) (fun _ => false) (fun _ _ => false) (fun _ _ _ _ _ _ => false) (fun _ _ _ => false) (fun _ _ => false) (fun _ => false) (fun _ => false) (fun _ => false)
  (fun i => vCs r fun b r2 => isNl r2 (vInt b fun kk n => Bool.casesOn (sameK kk .i64) false (Int.casesOn n (fun m => Bool.casesOn (Nat.ble 1 m) false (Bool.casesOn (Nat.blt m 4294967296) false (St.casesOn S fun e h nx tk => tkFind i m tk (fun r => k (.int .i64 (.ofNat r)) ⟨e, h, nx, tk⟩) (allB m fun r => k (.int .i64 (.ofNat r)) ⟨e, h, nx, .cs (.ptr i (Nat.add (Nat.mul m 4294967296) r)) tk⟩)))) (fun _ => false))))
section
variable {P : Program} {ξ : Nat → Int} {K : Nat}
theorem knownF_ok {a r : V} {d : FF} {x : X0} (hk : ∀ H, CallOk P ξ K a H H r) (hd : FunOk P ξ K (d.get x)) : FunOk P ξ K ((knownF a r d).get x) := fun args S k hi h => by
  have h1 : (Bool.casesOn (veqB args a) (d.get x args S k) (k r S) : Bool) = true := by
    revert h; unfold knownF; cases d; exact fun h => h
  cases he : veqB args a with
  | true =>
    rw [he] at h1
    have := veqB_eq he; subst this
    exact ⟨r, S, h1, rfl, hi, fun _ h => h, hk _⟩
  | false =>
    rw [he] at h1
    exact hd args S k hi h1
theorem knownL_ok {d : FF} {x : X0} (hd : FunOk P ξ K (d.get x)) : ∀ {l : List (V × V)}, (∀ p ∈ l, ∀ H, CallOk P ξ K p.1 H H p.2) → FunOk P ξ K ((knownL l d).get x)
  | [], _ => hd
  | p :: l, h => knownF_ok (fun H => h p (List.mem_cons_self ..) H) (knownL_ok hd fun q hq => h q (List.mem_cons_of_mem _ hq))
theorem isoF_ok {d : FF} {x : X0} (hd : FunOk P ξ K (d.get x)) : FunOk P ξ K ((isoF d).get x) := fun args S k hi h => by
  have h : (Bool.casesOn (flat args) false (St.casesOn S fun e h nx tk => d.get x args ⟨.E, .E, 0, tk⟩ fun v S' => Bool.casesOn (flat v) false (St.casesOn S' fun _ _ _ tk' => k v ⟨e, h, nx, tk'⟩)) : Bool) = true := by
    revert h; unfold isoF; cases d; exact fun h => h
  obtain ⟨h1, h⟩ := andB h
  cases S with
  | mk e hh nx tk =>
    have h : d.get x args (S00 tk) (fun v S' => Bool.casesOn (flat v) false (St.casesOn S' fun _ _ _ tk' => k v ⟨e, hh, nx, tk'⟩)) = true := h
    obtain ⟨v, S', k1, k2, k3, k4, k5, k6⟩ := hd args (S00 tk) _ ⟨fun i _ => hp00 tk i, hi.2⟩ h
    obtain ⟨f1, f2⟩ := andB k1
    cases S' with
    | mk e' h' nx' tk' =>
      have hsame : hp ⟨e, hh, nx, tk'⟩ = hp ⟨e, hh, nx, tk⟩ := rfl
      refine ⟨v, ⟨e, hh, nx, tk'⟩, f2, rfl, ⟨hi.1, k3.2⟩, fun _ h => h, k5, fun ρ w us hok hus => ?_⟩
      have hr0 : Ok (fun _ => .no) ξ (hp (S00 tk)) w := ⟨fun i j g c d h => by (cases h), fun i g c h => by (cases h), fun i h => rfl, fun i h => absurd rfl h, fun i h => by (cases h), fun i g c h => by (cases h)⟩
      have hu0 : TvL (fun _ => .no) ξ args us := by
        have : TvP (fun _ => .no) ξ args = TvP ρ ξ args := flat_eq h1
        unfold TvL at hus ⊢; rw [this]; exact hus
      refine (k6 (fun _ => .no) w us hr0 hu0).mono fun en w' ⟨u, e1, ρ', e2, e3, e4⟩ => ?_
      have hfr : ∀ g, g < w.heap.size → w'.heap[g]? = w.heap[g]? := fun g hg => e2.ev.frame g hg fun i c h => by cases h
      refine ⟨u, e1, ρ, .keep e2.ev.size hfr e2.ev.os e2.ev.tape e2.ev.output, hok.keep e2.ev.size hfr, ?_⟩
      have : TvP ρ' ξ v = TvP ρ ξ v := flat_eq f1
      unfold Tv at e4 ⊢; rw [← this]; exact e4
/-- A run by itself tells what is known. -/
theorem known_of {x : X0} (hx : FunOk P ξ K (x K)) {a r : V} (h : x K a (S00 .nl) (fun v S' => Bool.casesOn (veqB v r) false (flat r)) = true) (ha : flat a = true) : ∀ H, CallOk P ξ K a H H r := fun H => by
  obtain ⟨v, S', k1, k2, k3, k4, k5, k6⟩ := hx a (S00 .nl) _ ⟨fun i _ => hp00 .nl i, fun x hx => by cases hx⟩ h
  obtain ⟨f1, f2⟩ := andB k1
  have := veqB_eq f1; subst this
  refine ⟨k5, fun ρ w us hok hus => ?_⟩
  have hr0 : Ok (fun _ => .no) ξ (hp (S00 .nl)) w := ⟨fun i j g c d h => by (cases h), fun i g c h => by (cases h), fun i h => rfl, fun i h => absurd rfl h, fun i h => by (cases h), fun i g c h => by (cases h)⟩
  have hu0 : TvL (fun _ => .no) ξ a us := by
    have : TvP (fun _ => .no) ξ a = TvP ρ ξ a := flat_eq ha
    unfold TvL at hus ⊢; rw [this]; exact hus
  refine (k6 (fun _ => .no) w us hr0 hu0).mono fun en w' ⟨u, e1, ρ', e2, e3, e4⟩ => ?_
  have hfr : ∀ g, g < w.heap.size → w'.heap[g]? = w.heap[g]? := fun g hg => e2.ev.frame g hg fun i c h => by cases h
  refine ⟨u, e1, ρ, .keep e2.ev.size hfr e2.ev.os e2.ev.tape e2.ev.output, hok.keep e2.ev.size hfr, ?_⟩
  have : TvP ρ' ξ v = TvP ρ ξ v := flat_eq f2
  unfold Tv at e4 ⊢; rw [← this]; exact e4
theorem tkFind_ok {i m : Nat} {f : Nat → Bool} {d : Bool} : ∀ {tk : V}, tkFind i m tk f d = true → (∃ q, .ptr i q ∈ toL tk ∧ q / 4294967296 = m ∧ f (q % 4294967296) = true) ∨ d = true
  | .cs a r, h => by
    have ih : tkFind i m r f d = true → (∃ q, .ptr i q ∈ toL (.cs a r) ∧ q / 4294967296 = m ∧ f (q % 4294967296) = true) ∨ d = true := fun h => by
      rcases tkFind_ok h with ⟨q, h1, h2⟩ | h1
      · exact .inl ⟨q, List.mem_cons_of_mem _ h1, h2⟩
      · exact .inr h1
    cases a with
    | ptr j q =>
      have h : (Bool.casesOn (Nat.beq j i) (tkFind i m r f d) (Bool.casesOn (Nat.beq (Nat.div q 4294967296) m) (tkFind i m r f d) (fNat (Nat.mod q 4294967296) f)) : Bool) = true := h
      cases h1 : Nat.beq j i with
      | false => rw [h1] at h; exact ih h
      | true =>
        cases h2 : Nat.beq (Nat.div q 4294967296) m with
        | false => rw [h1, h2] at h; exact ih h
        | true =>
          rw [h1, h2] at h
          have h3 : fNat (Nat.mod q 4294967296) f = true := h
          rw [fNat_eq] at h3
          have e1 := Nat.eq_of_beq_eq_true h1
          have e2 := Nat.eq_of_beq_eq_true h2
          rw [e1]
          exact .inl ⟨q, List.mem_cons_self .., e2, h3⟩
    | _ => exact ih h
  | .nl, h => .inr h
  | .undef, h => .inr h
  | .int _ _, h => .inr h
  | .bool _, h => .inr h
  | .str _ _, h => .inr h
  | .nil _, h => .inr h
  | .ptr _ _, h => .inr h
  | .sl _ _ _ _ _ _, h => .inr h
  | .fn _ _ _, h => .inr h
  | .ifc _ _, h => .inr h
  | .mp _, h => .inr h
  | .agg _, h => .inr h
  | .tup _, h => .inr h
  | .arg _, h => .inr h
theorem allB_ok : ∀ {m : Nat} {f : Nat → Bool}, allB m f = true → ∀ r, r < m → f r = true
  | 0, _, _, r, hr => by omega
  | m + 1, f, h, r, hr => by
    obtain ⟨h1, h2⟩ := andB (a := f m) (b := allB m f) h
    by_cases e : r = m
    · rw [e]; exact h1
    · exact allB_ok h2 r (by omega)
def plc (v : Int) (m : Nat) : Int := let k := Int.tmod v m; if k < 0 then k + m else k
theorem plc_lt {v : Int} {m : Nat} (hm : 0 < m) : ∃ r : Nat, plc v m = (r : Int) ∧ r < m := by
  have h1 := Int.tmod_lt_of_pos v (b := (m : Int)) (by omega)
  have h2 : -(m : Int) < Int.tmod v m := by
    have := Int.tmod_lt_of_pos (-v) (b := (m : Int)) (by omega)
    rw [Int.neg_tmod] at this; omega
  unfold plc
  by_cases h : Int.tmod v m < 0
  · refine ⟨(Int.tmod v m + m).toNat, ?_, by omega⟩
    show (if Int.tmod v m < 0 then Int.tmod v m + m else Int.tmod v m) = _
    rw [if_pos h]; omega
  · refine ⟨(Int.tmod v m).toNat, ?_, by omega⟩
    show (if Int.tmod v m < 0 then Int.tmod v m + m else Int.tmod v m) = _
    rw [if_neg h]; omega
end
theorem place_eq {v : Int} {m : Nat} (h1 : 0 < m) (h2 : m < 4294967296) : X.l_law0_Place v m = some (plc v m) := by
  have h3 := Int.tmod_lt_of_pos v (b := (m : Int)) (by omega)
  have h4 : -(m : Int) < Int.tmod v m := by
    have := Int.tmod_lt_of_pos (-v) (b := (m : Int)) (by omega)
    rw [Int.neg_tmod] at this; omega
  unfold X.l_law0_Place plc
  rw [X.ensure_bind (by omega)]
  by_cases h : Int.tmod v m < 0
  · rw [show decide (Int.tmod v m < 0) = true by simp [h], cond_true, X.ensure_bind (by omega)]
    show _ = some (if Int.tmod v m < 0 then Int.tmod v m + m else Int.tmod v m)
    rw [if_pos h]
  · rw [show decide (Int.tmod v m < 0) = false by simp; omega, cond_false]
    show _ = some (if Int.tmod v m < 0 then Int.tmod v m + m else Int.tmod v m)
    rw [if_neg h]
section
variable {ξ : Nat → Int}
theorem placeCall {i m r : Nat} (h1 : 0 < m) (h2 : m < 4294967296) (hr : plc (ξ i) m = (r : Int)) (H : Nat → V) : CallOk Tryz.prog ξ 10 (.cs (.arg i) (.cs (.int .i64 (.ofNat m)) .nl)) H H (.int .i64 (.ofNat r)) := by
  refine pureCall (xs := [X.iA (ξ i), X.iA (m : Int)]) (y := X.iA (r : Int)) inferInstance (X.c_law0_Place (by rw [place_eq h1 h2, hr])) (fun ρ us hus => ?_) (fun ρ w u hu => ?_)
  · obtain ⟨u1, q, rfl, k1, k2⟩ := TvL_cs.1 hus
    obtain ⟨u2, q2, rfl, k3, k4⟩ := TvL_cs.1 k2
    have k1 : u1 = .int .i64 (ξ i) := k1
    have k3 : u2 = .int .i64 (m : Int) := k3
    rw [TvL_nl.1 k4, k1, k3]
    refine ⟨rfl, fun w k x hx => ?_⟩
    match k, hx with
    | 0, hx => cases hx; exact .v rfl
    | 1, hx => cases hx; exact .v rfl
  · cases hu; rfl
theorem placeF_ok {d : FF} {x : X0} (hd : FunOk Tryz.prog ξ 10 (d.get x)) : FunOk Tryz.prog ξ 10 ((placeF d).get x) := fun args S k hi h => by
  obtain ⟨g, rfl⟩ : ∃ g, d = .mk g := by cases d; exact ⟨_, rfl⟩
  obtain ⟨a, r, rfl, h0⟩ := vCs_ok (h : vCs args _ = true)
  cases a with
  | int kk n => exact hd _ S k hi h0
  | arg i =>
    obtain ⟨b, r2, rfl, h1⟩ := vCs_ok (h0 : vCs r _ = true)
    obtain ⟨rfl, h2⟩ := isNl_ok h1
    obtain ⟨kk, n, rfl, h3⟩ := vInt_ok h2
    cases hs : sameK kk .i64 with
    | false => rw [hs] at h3; cases h3
    | true =>
      rw [hs] at h3
      have := sameK_eq hs; subst this
      cases n with
      | negSucc n => cases h3
      | ofNat m =>
        have h3 : (Bool.casesOn (Nat.ble 1 m) false (Bool.casesOn (Nat.blt m 4294967296) false (St.casesOn S fun e h nx tk => tkFind i m tk (fun r => k (.int .i64 (.ofNat r)) ⟨e, h, nx, tk⟩) (allB m fun r => k (.int .i64 (.ofNat r)) ⟨e, h, nx, .cs (.ptr i (Nat.add (Nat.mul m 4294967296) r)) tk⟩))) : Bool) = true := h3
        obtain ⟨m1, h4⟩ := andB h3
        obtain ⟨m2, h5⟩ := andB h4
        have m1 : 0 < m := Nat.le_of_ble_eq_true m1
        have m2 : m < 4294967296 := Nat.le_of_ble_eq_true m2
        cases S with
        | mk e hh nx tk =>
          rcases tkFind_ok h5 with ⟨q, q1, q2, q3⟩ | h6
          · have hq : plc (ξ i) m = ((q % 4294967296 : Nat) : Int) := hi.2 (.ptr i q) q1 i m (q % 4294967296) (by congr 1; omega) m1 m2 (Nat.mod_lt _ (by omega))
            exact ⟨_, _, q3, rfl, hi, fun _ h => h, placeCall m1 m2 hq _⟩
          · obtain ⟨r, hr, hlt⟩ := plc_lt (v := ξ i) m1
            have h7 := allB_ok h6 r hlt
            refine ⟨_, _, h7, rfl, ⟨hi.1, fun x hx => ?_⟩, fun _ h => h, placeCall m1 m2 hr _⟩
            rcases List.mem_cons.1 (show x ∈ _ :: toL tk from hx) with e1 | e1
            · intro i' m' r' e2 k1 k2 k3
              rw [e1] at e2
              injection e2 with e3 e4
              subst e3
              have e4 : m * 4294967296 + r = m' * 4294967296 + r' := e4
              have : m = m' := by omega
              subst this
              have : r = r' := by omega
              subst this
              exact hr
            · exact hi.2 x e1
  | _ => cases h0
theorem sumCall {l n : Nat} (hl : l ≤ 1048576) (H : Nat → V) : CallOk Tryz.prog ξ 76 (.cs (.str l n) .nl) H H (.str 32 (shaD l n)) := by
  refine pureCall (xs := [X.sA (bs l n)]) (y := X.sA (bs 32 (shaD l n))) inferInstance (X.c_ref1_Sum (sum_eq hl)) (fun ρ us hus => ?_) (fun ρ w u hu => ?_)
  · obtain ⟨u1, q, rfl, k1, k2⟩ := TvL_cs.1 hus
    have k1 : u1 = .string (bs l n) := k1
    rw [TvL_nl.1 k2, k1]
    refine ⟨rfl, fun w k x hx => ?_⟩
    match k, hx with
    | 0, hx => cases hx; exact .v rfl
  · cases hu; rfl
theorem ovSha_ok {x : X0} : FunOk Tryz.prog ξ 76 (ovSha.get x) := fun args S k hi h => by
  obtain ⟨a, r, rfl, h0⟩ := vCs_ok (h : vCs args _ = true)
  obtain ⟨rfl, h1⟩ := isNl_ok h0
  obtain ⟨l, n, rfl, h2⟩ := vStr_ok h1
  obtain ⟨hl, h3⟩ := leN_ok h2
  rw [shaS_eq] at h3
  exact ⟨_, S, h3, rfl, hi, fun _ h => h, sumCall hl _⟩
end
end Go.Proofs.YtnkkfmnpkgjabaaGreat.Y

/- A word turned, natively; how functions are run when nothing is known. -/
namespace Go.Proofs.YtnkkfmnpkgjabaaGreat.Y
open Go.Proofs.YtnkkfmnpkgjabaaGreat.X (bitI l_math_bits_RotateLeft32 l_sha_right ensure_bind)
set_option linter.unusedVariables false
set_option linter.unusedSimpArgs false
theorem and31 : ∀ m : Fin 32, 0 < m.val → bitI .and .u64 (IntKind.wrap .u64 (-(m.val : Int))) 31 = ((32 - m.val : Nat) : Int) := by decide +kernel
theorem sub32 : ∀ m : Fin 32, 0 < m.val → IntKind.wrap .u64 (32 - ((32 - m.val : Nat) : Int)) = ((m.val : Nat) : Int) := by decide +kernel
theorem right_eq {x m : Nat} (hx : x < 4294967296) (hm : m < 32) (h0 : 0 < m) : l_sha_right (x : Int) (m : Int) = some ((rt x m : Nat) : Int) := by
  have e1 := and31 ⟨m, hm⟩ h0
  have e2 := sub32 ⟨m, hm⟩ h0
  simp only at e1 e2
  unfold l_sha_right l_math_bits_RotateLeft32
  rw [ensure_bind (by omega), e1, ensure_bind (by omega), e2, ensure_bind (by omega), Option.bind_some]
  have e3 : (x : Int) * (2 : Int) ^ ((32 - m : Nat) : Int).toNat = ((x * 2 ^ (32 - m) : Nat) : Int) := by
    rw [Int.toNat_natCast, Int.natCast_mul]; simp
  have e4 : (x : Int) / (2 : Int) ^ ((m : Nat) : Int).toNat = ((x / 2 ^ m : Nat) : Int) := by
    rw [Int.toNat_natCast, show (2 : Int) ^ m = ((2 ^ m : Nat) : Int) by simp]; rfl
  have hd : x / 2 ^ m < 4294967296 := Nat.lt_of_le_of_lt (Nat.div_le_self _ _) hx
  rw [e3, e4, wrap32, (bit32 (Nat.mod_lt _ (by omega)) hd).2.2, Nat.or_comm, rt_eq hx hm h0]
noncomputable def rightF (d : FF) : FF := F.casesOn d fun g => .mk fun x args S k => vCs args fun a r => vCs r fun b r2 => isNl r2 (vInt a fun ka n => vInt b fun kb m => Bool.casesOn (sameK ka .u32) false (Bool.casesOn (sameK kb .i64) false (Int.casesOn n (fun n => Int.casesOn m (fun m => Bool.casesOn (Nat.blt n 4294967296) false (Bool.casesOn (Nat.blt m 32) false (Bool.casesOn (Nat.ble 1 m) false (fNat (Nat.land (Nat.shiftRight (Nat.mul n 4294967297) m) m32) fun y => k (.int .u32 (.ofNat y)) S)))) (fun _ => false)) (fun _ => false))))
section
variable {ξ : Nat → Int}
theorem rightCall {n m : Nat} (hx : n < 4294967296) (hm : m < 32) (h0 : 0 < m) (H : Nat → V) : CallOk Tryz.prog ξ 165 (.cs (.int .u32 (.ofNat n)) (.cs (.int .i64 (.ofNat m)) .nl)) H H (.int .u32 (.ofNat (rt n m))) := by
  refine pureCall (xs := [.v (.int .u32 (n : Int)), X.iA (m : Int)]) (y := .v (.int .u32 ((rt n m : Nat) : Int))) inferInstance (X.c_sha_right (right_eq hx hm h0)) (fun ρ us hus => ?_) (fun ρ w u hu => ?_)
  · obtain ⟨u1, q, rfl, k1, k2⟩ := TvL_cs.1 hus
    obtain ⟨u2, q2, rfl, k3, k4⟩ := TvL_cs.1 k2
    have k1 : u1 = .int .u32 (n : Int) := k1
    have k3 : u2 = .int .i64 (m : Int) := k3
    rw [TvL_nl.1 k4, k1, k3]
    refine ⟨rfl, fun w k x hx => ?_⟩
    match k, hx with
    | 0, hx => cases hx; exact .v rfl
    | 1, hx => cases hx; exact .v rfl
  · cases hu; rfl
theorem rightF_ok {d : FF} {x : X0} : FunOk Tryz.prog ξ 165 ((rightF d).get x) := fun args S k hi h => by
  obtain ⟨g, rfl⟩ : ∃ g, d = .mk g := by cases d; exact ⟨_, rfl⟩
  obtain ⟨a, r, rfl, h0⟩ := vCs_ok (h : vCs args _ = true)
  obtain ⟨b, r2, rfl, h1⟩ := vCs_ok h0
  obtain ⟨rfl, h2⟩ := isNl_ok h1
  obtain ⟨ka, n, rfl, h3⟩ := vInt_ok h2
  obtain ⟨kb, m, rfl, h4⟩ := vInt_ok h3
  obtain ⟨s1, h5⟩ := andB h4
  obtain ⟨s2, h6⟩ := andB h5
  have := sameK_eq s1; subst this
  have := sameK_eq s2; subst this
  cases n with
  | negSucc n => cases h6
  | ofNat n =>
    cases m with
    | negSucc m => cases h6
    | ofNat m =>
      obtain ⟨c1, h7⟩ := andB (h6 : (Bool.casesOn (Nat.blt n 4294967296) false _ : Bool) = true)
      obtain ⟨c2, h8⟩ := andB h7
      obtain ⟨c3, h9⟩ := andB h8
      rw [fNat_eq, land_m] at h9
      exact ⟨_, S, h9, rfl, hi, fun _ h => h, rightCall (Nat.le_of_ble_eq_true c1) (Nat.le_of_ble_eq_true c2) (Nat.le_of_ble_eq_true c3) _⟩
end
/-! ### nothing is known -/
noncomputable def pw (op1 : Oper → CO) (n : FuncId) : FF := cFn Tryz.prog op1 n
noncomputable abbrev opP : Oper → CO := opc Tryz.prog 179
theorem ne_ok : NeOk Tryz.prog 179 := NeOk.of Tryz.func179 (by kernel_rfl) (by kernel_rfl) (by kernel_rfl) (by kernel_rfl)
theorem mo_ok : Tryz.prog.follows .mixedOrders = true := by rfl
noncomputable def ov0 (K : FuncId) : Option FF := Bool.casesOn (Nat.beq K 165) (Bool.casesOn (Nat.beq K 76) none (some ovSha)) (some (rightF noF))
theorem beq_cases {K n : Nat} {α : Type} {a b c : α} (h : (Bool.casesOn (Nat.beq K n) a b : α) = c) : (K = n ∧ b = c) ∨ a = c := by
  cases h1 : Nat.beq K n with
  | true => rw [h1] at h; exact .inl ⟨Nat.eq_of_beq_eq_true h1, h⟩
  | false => rw [h1] at h; exact .inr h
theorem ov0_ok (ξ : Nat → Int) : OvOk Tryz.prog ξ ov0 := fun K f h x hx => by
  rcases beq_cases h with ⟨rfl, h1⟩ | h1
  · cases h1; exact rightF_ok
  rcases beq_cases h1 with ⟨rfl, h2⟩ | h2
  · cases h2; exact ovSha_ok
  cases h2
noncomputable def x0 : X0 := callF Tryz.prog opP ov0 60
theorem x0_ok (ξ : Nat → Int) (K : FuncId) : FunOk Tryz.prog ξ K (x0 K) := callF_ok mo_ok (fun o => opc_ok _ _ ne_ok o) (ov0_ok ξ) 60 K
end Go.Proofs.YtnkkfmnpkgjabaaGreat.Y

/- What a run says of a law. -/
namespace Go.Proofs.YtnkkfmnpkgjabaaGreat.Y
open Go.RowKit Go.ChangeShapes Go.WideShapes
set_option linter.unusedVariables false
set_option linter.unusedSimpArgs false
section
variable {P : Program} {ξ : Nat → Int} {K : FuncId}
theorem TkOk.nl : TkOk ξ .nl := fun x hx => by cases hx
theorem TkOk.cs {i m r : Nat} {tk : V} (h : TkOk ξ tk) (hr : plc (ξ i) m = (r : Int)) (hr2 : r < 4294967296) : TkOk ξ (.cs (.ptr i (m * 4294967296 + r)) tk) := fun x hx => by
  rcases List.mem_cons.1 (show x ∈ _ :: toL tk from hx) with e1 | e1
  · intro i' m' r' e2 k1 k2 k3
    rw [e1] at e2
    injection e2 with e3 e4
    subst e3
    have : m = m' := by omega
    subst this
    have : r = r' := by omega
    subst this
    exact hr
  · exact h x e1
theorem callTrue {x : X0} (hx : FunOk P ξ K (x K)) {tk args : V} (htk : TkOk ξ tk) (h : x K args (S00 tk) (fun v _ => veqB v (.bool true)) = true) {us : List Value} (hus : TvL (fun _ => .no) ξ args us) (w : World) :
    Calls P K us.toArray w fun e w' => e = .returned (.bool true) ∧ Below w.heap.size w w' := by
  obtain ⟨v, S', k1, k2, k3, k4, k5, k6⟩ := hx args (S00 tk) _ ⟨fun i _ => hp00 tk i, htk⟩ h
  have := veqB_eq k1; subst this
  have hr0 : Ok (fun _ => .no) ξ (hp (S00 tk)) w := ⟨fun i j g c d h => by (cases h), fun i g c h => by (cases h), fun i h => rfl, fun i h => absurd rfl h, fun i h => by (cases h), fun i g c h => by (cases h)⟩
  refine (k6 (fun _ => .no) w us hr0 hus).mono fun en w' ⟨u, e1, ρ', e2, e3, e4⟩ => ?_
  have hfr : ∀ g, g < w.heap.size → w'.heap[g]? = w.heap[g]? := fun g hg => e2.ev.frame g hg fun i c h => by cases h
  have hu : u = .bool true := e4
  exact ⟨by rw [e1, hu], e2.ev.os, e2.ev.tape, e2.ev.output, e2.ev.size, hfr⟩
/-- Two numbers as an argument list. -/
def xi2 (a b : Int) (i : Nat) : Int := if i = 0 then a else b
def xi3 (a b c : Int) (i : Nat) : Int := if i = 0 then a else if i = 1 then b else c
end
end Go.Proofs.YtnkkfmnpkgjabaaGreat.Y
