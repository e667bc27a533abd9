/- The runner: operations by what the types are. -/
import Derived.Test.YtnkkfmnpkgjabaaGreatZw0c
namespace Go.Proofs.YtnkkfmnpkgjabaaGreat.Y
open Go.RowKit
set_option linter.unusedVariables false
set_option linter.unusedSimpArgs false
section
variable {P : Program} {ξ : Nat → Int} {o : Oper} {ty ty2 : TypeId} {x z y : Operand}
noncomputable def no1 : C1 := .mk fun _ _ => false
theorem no1_ok : Sound1 P ξ o no1.get := .false
noncomputable def when1 (b : Bool) (c : C1) : C1 := Bool.casesOn b no1 c
theorem when1_ok {b : Bool} {c : C1} (h : b = true → Sound1 P ξ o c.get) : Sound1 P ξ o (when1 b c).get := by
  cases b with
  | false => exact no1_ok
  | true => exact h rfl
/-! ### each kind -/
noncomputable def cBin (P : Program) (op : BinOp) (ty : TypeId) (x z : Operand) : C1 := match P.underlying ty with
  | some (.int _) => f2 (oBinI op) (opd x) (opd z)
  | some .string => f2 (oBinS op) (opd x) (opd z)
  | some .bool => f2 (oBinB op) (opd x) (opd z)
  | _ => match nilK P ty with
    | some q => match isConst z with
      | true => (match op with
        | .eql => f2 (oNil q false) (opd x) (opd z)
        | .neq => f2 (oNil q true) (opd x) (opd z)
        | _ => no1)
      | false => match P.underlying ty, op with
        | some (.pointer e), .neq => (match P.info? e with
          | some _ => f2 oPtrNe (opd x) (opd z)
          | none => no1)
        | _, _ => no1
    | none => no1
theorem cBin_ok {op : BinOp} (ho : o.op = .binOp op ty x z ty2) : Sound1 P ξ o (cBin P op ty x z).get := by
  unfold cBin
  split
  · rw [f2_get]; exact oBinI_ok ho
  · rw [f2_get]; exact oBinS_ok ho
  · rename_i h; rw [f2_get]; exact oBinB_ok h ho
  · split
    · rename_i q hq
      split
      · rename_i hz
        split
        · rw [f2_get]; exact oNil_ok hq hz rfl ho
        · rw [f2_get]; exact oNil_ok hq hz rfl ho
        · exact no1_ok
      · split
        · rename_i h1
          split
          · rename_i h2; rw [f2_get]; exact oPtrNe_ok h1 h2 ho
          · exact no1_ok
        · exact no1_ok
    · exact no1_ok
noncomputable def cConv (P : Program) (ty ty2 : TypeId) (x : Operand) : C1 := match P.underlying ty, P.underlying ty2 with
  | some .string, some .string => f1 oConvS (opd x)
  | some (.slice e), some .string => match P.underlying e with
    | some (.int .u8) => f1 oStr (opd x)
    | _ => no1
  | some (.pointer t), some .unsafePointer => match P.info? t with
    | some j => when1 (!(Nat.beq j.size 0)) (f1 (oAddr t j.size) (opd x))
    | none => no1
  | some .unsafePointer, some (.pointer t) => match P.info? t with
    | some j => when1 (!(Nat.beq j.size 0) && liesAt P P.depth t (j.size / P.cellsOf t) 0 t 1) (f1 (oAddr t j.size) (opd x))
    | none => no1
  | some _, some (.int j) => f1 (oConvI j) (opd x)
  | _, _ => no1
theorem cConv_ok (ho : o.op = .convert ty ty2 x) : Sound1 P ξ o (cConv P ty ty2 x).get := by
  unfold cConv
  split
  · rename_i h1 h2; rw [f1_get]; exact oConvS_ok h1 h2 ho
  · rename_i h1 h2
    split
    · rename_i h3; rw [f1_get]; exact oStr_ok h1 h2 h3 ho
    · exact no1_ok
  · rename_i h1 h2
    split
    · rename_i h3
      refine when1_ok fun hb => ?_
      rw [f1_get]; exact oAddr_ok h3 (by rw [Bool.not_eq_true'] at hb; intro e; rw [e] at hb; simp at hb) (.inl ⟨h1, h2⟩) ho
    · exact no1_ok
  · rename_i h1 h2
    split
    · rename_i h3
      refine when1_ok fun hb => ?_
      rw [Bool.and_eq_true] at hb
      rw [f1_get]; exact oAddr_ok h3 (by have hb := hb.1; rw [Bool.not_eq_true'] at hb; intro e; rw [e] at hb; simp at hb) (.inr ⟨h1, h2, hb.2⟩) ho
    · exact no1_ok
  · rename_i h1 h2; rw [f1_get]; exact oConvI_ok h1 h2 ho
  · exact no1_ok
noncomputable def cIdx (P : Program) (ty : TypeId) (x z : Operand) : C1 := match P.underlying ty with
  | some .string => f2 oIdxS (opd x) (opd z)
  | some (.array n e) => when1 ((P.underlying e).isSome && !(X.sizeN P e == 0)) (f2 (oIdxA (X.rowN P e) n (X.sizeN P e)) (opd x) (opd z))
  | _ => no1
theorem cIdx_ok (ho : o.op = .index ty x z) : Sound1 P ξ o (cIdx P ty x z).get := by
  unfold cIdx
  split
  · rename_i h; rw [f2_get]; exact oIdxS_ok h ho
  · rename_i n e h
    refine when1_ok fun hb => ?_
    rw [Bool.and_eq_true, Bool.not_eq_true'] at hb
    rw [f2_get]; exact oIdxA_ok h rfl hb.1 hb.2 ho
  · exact no1_ok
noncomputable def cField (P : Program) (ty : TypeId) (x : Operand) (f : Nat) : C1 := match P.underlying ty with
  | some (.struct fs) => match fs[f]? with
    | some fld => when1 ((P.underlying fld.type).isSome && !(X.sizeN P fld.type == 0)) (f1 (oField (X.rowN P fld.type) (X.sizeN P fld.type) fld.offset) (opd x))
    | none => no1
  | _ => no1
theorem cField_ok {f : Nat} (ho : o.op = .field ty x f) : Sound1 P ξ o (cField P ty x f).get := by
  unfold cField
  split
  · rename_i fs h
    split
    · rename_i fld hf
      refine when1_ok fun hb => ?_
      rw [Bool.and_eq_true, Bool.not_eq_true'] at hb
      rw [f1_get]; exact oField_ok h hf rfl hb.1 hb.2 ho
    · exact no1_ok
  · exact no1_ok
noncomputable def cFA (P : Program) (ty : TypeId) (x : Operand) (f : Nat) : C1 := match P.underlying ty with
  | some (.struct fs) => match fs[f]? with
    | some fld => when1 (!(X.sizeN P fld.type == 0)) (f1 (oFA fld.offset) (opd x))
    | none => no1
  | _ => no1
theorem cFA_ok {f : Nat} (ho : o.op = .fieldAddr ty x f) : Sound1 P ξ o (cFA P ty x f).get := by
  unfold cFA
  split
  · rename_i fs h
    split
    · rename_i fld hf
      refine when1_ok fun hb => ?_
      rw [Bool.not_eq_true'] at hb
      rw [f1_get]; exact oFA_ok h hf hb ho
    · exact no1_ok
  · exact no1_ok
noncomputable def cIA (P : Program) (ty : TypeId) (x z : Operand) : C1 := match P.underlying ty with
  | some (.slice e) => when1 (!(X.sizeN P e == 0)) (f2 (oIAs (X.sizeN P e)) (opd x) (opd z))
  | some (.array n e) => when1 (!(X.sizeN P e == 0)) (f2 (oIAp n (X.sizeN P e)) (opd x) (opd z))
  | _ => no1
theorem cIA_ok (ho : o.op = .indexAddr ty x z) : Sound1 P ξ o (cIA P ty x z).get := by
  unfold cIA
  split
  · rename_i e h
    refine when1_ok fun hb => ?_
    rw [Bool.not_eq_true'] at hb
    rw [f2_get]; exact oIAs_ok h hb ho
  · rename_i n e h
    refine when1_ok fun hb => ?_
    rw [Bool.not_eq_true'] at hb
    rw [f2_get]; exact oIAp_ok h hb ho
  · exact no1_ok
noncomputable def g3 (f : (St → K1 → Bool) → BF → BF → St → Kt → Bool) (a : O1) (b c : F BF) : C1 := F.casesOn a fun a => F.casesOn b fun b => F.casesOn c fun c => .mk (f a b c)
noncomputable def g4 (f : (St → K1 → Bool) → BF → BF → BF → St → Kt → Bool) (a : O1) (b c d : F BF) : C1 := F.casesOn a fun a => F.casesOn b fun b => F.casesOn c fun c => F.casesOn d fun d => .mk (f a b c d)
theorem g3_get {f} {a : O1} {b c : F BF} : (g3 f a b c).get = f a.get b.get c.get := by cases a; cases b; cases c; rfl
theorem g4_get {f} {a : O1} {b c d : F BF} : (g4 f a b c d).get = f a.get b.get c.get d.get := by cases a; cases b; cases c; cases d; rfl
noncomputable def cSlc (P : Program) (ty : TypeId) (x : Operand) (lo hi mx : Option Operand) : C1 := match P.underlying ty, hi, mx with
  | some .string, hi, none => g3 oSlS (opd x) (bnd lo) (bnd hi)
  | some (.slice e), hi, none => when1 (!(X.sizeN P e == 0)) (g3 (oSl2 (X.sizeN P e)) (opd x) (bnd lo) (bnd hi))
  | some (.slice e), some z, some y => when1 (!(X.sizeN P e == 0)) (g4 (oSl3 (X.sizeN P e)) (opd x) (bnd lo) (bnd (some z)) (bnd (some y)))
  | _, _, _ => no1
theorem cSlc_ok {lo hi mx : Option Operand} (ho : o.op = .slice ty x lo hi mx) : Sound1 P ξ o (cSlc P ty x lo hi mx).get := by
  unfold cSlc
  split
  · rename_i h; rw [g3_get]; exact oSlS_ok h ho
  · rename_i e h
    refine when1_ok fun hb => ?_
    rw [Bool.not_eq_true'] at hb
    rw [g3_get]; exact oSl2_ok h hb ho
  · rename_i e z y h
    refine when1_ok fun hb => ?_
    rw [Bool.not_eq_true'] at hb
    rw [g4_get]; exact oSl3_ok h hb ho
  · exact no1_ok
noncomputable def cLoad (P : Program) (ty : TypeId) (x : Operand) : C1 := match P.underlying ty, P.info? ty with
  | some d, some i => f1 (oLoad d.isRow i.size) (opd x)
  | _, _ => no1
theorem cLoad_ok (ho : o.op = .load ty x) : Sound1 P ξ o (cLoad P ty x).get := by
  unfold cLoad
  split
  · rename_i h1 h2; rw [f1_get]; exact oLoad_ok ⟨h1, h2⟩ ho
  · exact no1_ok
noncomputable def cStore (P : Program) (ty : TypeId) (x z : Operand) : C1 := match P.underlying ty, P.info? ty with
  | some d, some i => f2 (oStore i.size) (opd x) (opd z)
  | _, _ => no1
theorem cStore_ok (ho : o.op = .store ty x z) : Sound1 P ξ o (cStore P ty x z).get := by
  unfold cStore
  split
  · rename_i h1 h2; rw [f2_get]; exact oStore_ok ⟨h1, h2⟩ ho
  · exact no1_ok
noncomputable def cAlloc (P : Program) (ty : TypeId) : C1 := match P.underlying ty, P.info? ty with
  | some d, some i => match i.zero with
    | some zv => when1 (zeroOk zv) (.mk (oAlloc ty (zeroV zv)))
    | none => no1
  | _, _ => no1
theorem cAlloc_ok (ho : o.op = .alloc ty) : Sound1 P ξ o (cAlloc P ty).get := by
  unfold cAlloc
  split
  · rename_i h1 h2
    split
    · rename_i hz
      exact when1_ok fun hb => oAlloc_ok ⟨h1, h2⟩ hz hb ho
    · exact no1_ok
  · exact no1_ok
abbrev LFF := F (St → V → K1 → Bool)
noncomputable def gL (l0 : V) (f : LFF) : C1 := F.casesOn f fun f => .mk (oBuild l0 f)
theorem gL_get {l0 : V} {f : LFF} : (gL l0 f).get = oBuild l0 f.get := by cases f; rfl
noncomputable def cBuild (P : Program) (ty : TypeId) (parts : Array (Nat × Operand)) : C1 := match P.underlying ty, P.info? ty with
  | some (.struct fs), some i => match i.zero with
    | some zv => when1 (zeroOk zv && fs.all (fun f => (P.info? f.type).isSome)) (gL (zeroV zv) (fillL (plF P fs) parts.toList))
    | none => no1
  | some (.array n e), some i => match i.zero with
    | some zv => when1 (zeroOk zv && !(X.sizeN P e == 0)) (gL (zeroV zv) (fillL (fun i => some (i * X.sizeN P e, X.sizeN P e)) parts.toList))
    | none => no1
  | _, _ => no1
theorem cBuild_ok {parts : Array (Nat × Operand)} (ho : o.op = .build ty parts) : Sound1 P ξ o (cBuild P ty parts).get := by
  unfold cBuild
  split
  · rename_i fs i h1 h2
    split
    · rename_i zv hz
      refine when1_ok fun hb => ?_
      rw [Bool.and_eq_true] at hb
      rw [gL_get]; exact oBuildS_ok ⟨h1, h2⟩ hz hb.1 hb.2 ho
    · exact no1_ok
  · rename_i n e i h1 h2
    split
    · rename_i zv hz
      refine when1_ok fun hb => ?_
      rw [Bool.and_eq_true, Bool.not_eq_true'] at hb
      rw [gL_get]; exact oBuildA_ok ⟨h1, h2⟩ hz hb.1 hb.2 ho
    · exact no1_ok
  · exact no1_ok
def seqN : List Nat → Nat → Bool
  | [], _ => true
  | i :: r, k => Nat.beq i k && seqN r (k + 1)
theorem seqN_ok : ∀ {l : List Nat} {k : Nat}, seqN l k = true → l = List.range' k l.length
  | [], _, _ => rfl
  | i :: r, k, h => by
    simp only [seqN, Bool.and_eq_true] at h
    rw [Nat.eq_of_beq_eq_true h.1, List.length_cons, List.range'_succ, ← seqN_ok h.2]
noncomputable def cLits (P : Program) (ty : TypeId) (n : Nat) (parts : Array (Nat × Operand)) : C1 := match P.underlying ty, P.info? ty with
  | some (.slice e), some i1 => match P.underlying e, P.info? e with
    | some d2, some i2 => match i2.zero with
      | some zv => when1 (Nat.ble 1 i2.size && Nat.ble (n * i2.size) 16777216 && seqN (parts.toList.map (·.1)) 0 && Nat.beq parts.toList.length n) (F.casesOn (catL i2.size (parts.toList.map (·.2))) fun f => .mk (oLits e n i2.size f))
      | none => no1
    | _, _ => no1
  | _, _ => no1
theorem cLits_ok {n : Nat} {parts : Array (Nat × Operand)} (ho : o.op = .buildSlice ty n parts) : Sound1 P ξ o (cLits P ty n parts).get := by
  unfold cLits
  split
  · rename_i e i1 h1 h2
    split
    · rename_i d2 i2 h3 h4
      split
      · rename_i zv hz
        refine when1_ok fun hb => ?_
        simp only [Bool.and_eq_true] at hb
        obtain ⟨⟨⟨b1, b2⟩, b3⟩, b4⟩ := hb
        have hlen := Nat.eq_of_beq_eq_true b4
        have := oLits_ok (P := P) (ξ := ξ) (o := o) (d := d2) (i1 := i1) (i2 := i2) ⟨h1, h2⟩ ⟨h3, h4⟩ hz b1 b2 (by rw [seqN_ok b3, List.length_map, hlen, List.range_eq_range']) ho
        revert this
        cases catL i2.size (parts.toList.map (·.2)); exact fun h => h
      · exact no1_ok
    · exact no1_ok
  · exact no1_ok
noncomputable def cLen (P : Program) (ty : TypeId) (x : Operand) : C1 := match P.underlying ty with
  | some .string => f1 oLenS (opd x)
  | some (.slice _) => f1 oLen (opd x)
  | _ => no1
theorem cLen_ok (ho : o.op = .call { callee := .builtin .len, args := #[x], argTypes := #[ty] }) : Sound1 P ξ o (cLen P ty x).get := by
  unfold cLen
  split
  · rename_i h; rw [f1_get]; exact oLenS_ok h ho
  · rename_i h; rw [f1_get]; exact oLen_ok h ho
  · exact no1_ok
noncomputable def cApp (P : Program) (ty : TypeId) (x z : Operand) : C1 := match P.underlying ty with
  | some (.slice e) => match P.info? e with
    | some i => match i.zero with
      | some zv => when1 (Nat.beq zv.cells.size i.size && Nat.ble 1 i.size && Nat.ble 1 i.bytes && Nat.ble (16777216 * i.bytes) 140737488355328) (f2 (oApp e i.size 16777216) (opd x) (opd z))
      | none => no1
    | none => no1
  | _ => no1
theorem cApp_ok (ho : o.op = .call { callee := .builtin .append, args := #[x, z], argTypes := #[ty, ty] }) : Sound1 P ξ o (cApp P ty x z).get := by
  unfold cApp
  split
  · rename_i e h1
    split
    · rename_i i h2
      split
      · rename_i zv hz
        refine when1_ok fun hb => ?_
        simp only [Bool.and_eq_true] at hb
        obtain ⟨⟨⟨b1, b2⟩, b3⟩, b4⟩ := hb
        rw [f2_get]
        exact oApp_ok ⟨h1, i, zv, h2, hz, rfl, Nat.eq_of_beq_eq_true b1, Nat.le_of_ble_eq_true b2, Nat.le_of_ble_eq_true b3, by unfold maxLen; omega, Nat.le_of_ble_eq_true b4⟩ ho
      · exact no1_ok
    · exact no1_ok
  · exact no1_ok
noncomputable def cAppT (P : Program) (ty ty2 : TypeId) (x z : Operand) : C1 := match P.underlying ty, P.underlying ty2 with
  | some (.slice e), some .string => match P.info? e with
    | some i => match i.zero with
      | some (.int .u8 (.ofNat 0)) => when1 (Nat.beq i.size 1 && Nat.beq i.bytes 1) (f2 (oAppT e) (opd x) (opd z))
      | _ => no1
    | none => no1
  | _, _ => no1
theorem cAppT_ok (ho : o.op = .call { callee := .builtin .append, args := #[x, z], argTypes := #[ty, ty2] }) : Sound1 P ξ o (cAppT P ty ty2 x z).get := by
  unfold cAppT
  split
  · rename_i e h1 h2
    split
    · rename_i i h3
      split
      · rename_i hz
        refine when1_ok fun hb => ?_
        rw [Bool.and_eq_true] at hb
        rw [f2_get]; exact oAppT_ok h1 h2 h3 hz (Nat.eq_of_beq_eq_true hb.1) (Nat.eq_of_beq_eq_true hb.2) ho
      · exact no1_ok
    · exact no1_ok
  · exact no1_ok
noncomputable def cMake (P : Program) (ty : TypeId) (x z : Operand) : C1 := match P.underlying ty with
  | some (.slice e) => match P.info? e with
    | some i => match i.zero with
      | some zv => when1 (Nat.beq zv.cells.size i.size && Nat.ble 1 i.size && zeroOk zv && Nat.ble (65536 * i.bytes) 140737488355328) (f2 (oMake e i.size 65536 (zeroV zv)) (opd x) (opd z))
      | none => no1
    | none => no1
  | _ => no1
theorem cMake_ok (ho : o.op = .makeSlice ty x z) : Sound1 P ξ o (cMake P ty x z).get := by
  unfold cMake
  split
  · rename_i e h1
    split
    · rename_i i h2
      split
      · rename_i zv hz
        refine when1_ok fun hb => ?_
        simp only [Bool.and_eq_true] at hb
        obtain ⟨⟨⟨b1, b2⟩, b3⟩, b4⟩ := hb
        rw [f2_get]; exact oMake_ok h1 h2 hz (Nat.eq_of_beq_eq_true b1) (Nat.le_of_ble_eq_true b2) b3 (by unfold maxLen; omega) (Nat.le_of_ble_eq_true b4) ho
      · exact no1_ok
    · exact no1_ok
  · exact no1_ok
noncomputable def cClear (P : Program) (ty : TypeId) (x : Operand) : C1 := match P.underlying ty with
  | some (.slice e) => match P.info? e with
    | some i => match i.zero with
      | some zv => when1 (Nat.beq zv.cells.size i.size && Nat.ble 1 i.size && zeroOk zv) (f1 (oClear i.size (zeroV zv)) (opd x))
      | none => no1
    | none => no1
  | _ => no1
theorem cClear_ok (ho : o.op = .call { callee := .builtin .clear, args := #[x], argTypes := #[ty] }) : Sound1 P ξ o (cClear P ty x).get := by
  unfold cClear
  split
  · rename_i e h1
    split
    · rename_i i h2
      split
      · rename_i zv hz
        refine when1_ok fun hb => ?_
        simp only [Bool.and_eq_true] at hb
        obtain ⟨⟨b1, b2⟩, b3⟩ := hb
        rw [f1_get]; exact oClear_ok h1 h2 hz (Nat.eq_of_beq_eq_true b1) (Nat.le_of_ble_eq_true b2) b3 ho
      · exact no1_ok
    · exact no1_ok
  · exact no1_ok
noncomputable def cUStr (P : Program) (ty : TypeId) (x z : Operand) : C1 := match P.underlying ty with
  | some (.pointer e) => when1 (Nat.beq (P.cellsOf e) 1) (f2 (oUStr e) (opd x) (opd z))
  | _ => no1
theorem cUStr_ok (ho : o.op = .call { callee := .builtin .unsafeString, args := #[x, z], argTypes := #[ty, ty2] }) : Sound1 P ξ o (cUStr P ty x z).get := by
  unfold cUStr
  split
  · rename_i e h1
    refine when1_ok fun hb => ?_
    rw [f2_get]; exact oUStr_ok h1 (Nat.eq_of_beq_eq_true hb) ho
  · exact no1_ok
noncomputable def cLook (P : Program) (ty : TypeId) (x z : Operand) : C1 := match P.underlying ty with
  | some (.map kt et) => match P.info? et with
    | some i => match i.zero with
      | some zv => (match P.underlying kt with
        | some (.int _) => f2 (oLook preI keqA (cV zv)) (opd x) (opd z)
        | some .string => f2 (oLook preS keqA (cV zv)) (opd x) (opd z)
        | some (.array 2 e) => (match P.underlying e with
          | some (.int _) => when1 (Nat.beq (X.sizeN P e) 1) (f2 (oLook preP keqP (cV zv)) (opd x) (opd z))
          | _ => no1)
        | _ => no1)
      | none => no1
    | none => no1
  | _ => no1
theorem cLook_ok (ho : o.op = .lookup ty x z false) : Sound1 P ξ o (cLook P ty x z).get := by
  unfold cLook
  split
  · rename_i kt et h1
    split
    · rename_i i h2
      split
      · rename_i zv hz
        split
        · rename_i h3; rw [f2_get]; exact oLook_ok h1 (.int h3) h2 hz ho
        · rename_i h3; rw [f2_get]; exact oLook_ok h1 (.str h3) h2 hz ho
        · rename_i e h3
          split
          · rename_i h4
            refine when1_ok fun hb => ?_
            rw [f2_get]; exact oLook_ok h1 (.pair h3 h4 (Nat.eq_of_beq_eq_true hb)) h2 hz ho
          · exact no1_ok
        · exact no1_ok
      · exact no1_ok
    · exact no1_ok
  · exact no1_ok
noncomputable def cPutM (P : Program) (ty : TypeId) (x z y : Operand) : C1 := match P.underlying ty with
  | some (.map kt _) => (match P.underlying kt with
    | some (.int _) => f3 (oPutM preI keqA) (opd x) (opd z) (opd y)
    | some .string => f3 (oPutM preS keqA) (opd x) (opd z) (opd y)
    | some (.array 2 e) => (match P.underlying e with
      | some (.int _) => when1 (Nat.beq (X.sizeN P e) 1) (f3 (oPutM preP keqP) (opd x) (opd z) (opd y))
      | _ => no1)
    | _ => no1)
  | _ => no1
theorem cPutM_ok (ho : o.op = .mapUpdate ty x z y) : Sound1 P ξ o (cPutM P ty x z y).get := by
  unfold cPutM
  split
  · rename_i kt et h1
    split
    · rename_i h3; rw [f3_get]; exact oPutM_ok h1 (.int h3) ho
    · rename_i h3; rw [f3_get]; exact oPutM_ok h1 (.str h3) ho
    · rename_i e h3
      split
      · rename_i h4
        refine when1_ok fun hb => ?_
        rw [f3_get]; exact oPutM_ok h1 (.pair h3 h4 (Nat.eq_of_beq_eq_true hb)) ho
      · exact no1_ok
    · exact no1_ok
  · exact no1_ok
noncomputable def cFun (fn : Fn) (first caps : Array Operand) : C1 := match fn with
  | .func f => f2 (oFn f) (opL first.toList) (opL caps.toList)
  | _ => no1
theorem cFun_ok {fn : Fn} {first caps : Array Operand} (ho : o.op = .makeFunc fn first caps) : Sound1 P ξ o (cFun fn first caps).get := by
  unfold cFun
  split
  · rw [f2_get]; exact oFn_ok ho
  · exact no1_ok
noncomputable def cCall (y : Operand) (args : Array Operand) : CO := F.casesOn (opd y) fun g => F.casesOn (opL args.toList) fun al => .mk fun x => oCall g al x
theorem cCall_ok {args : Array Operand} {tys : Array TypeId} (ho : o.op = .call { callee := .value y, args, argTypes := tys }) : COok P ξ o (cCall y args) := fun x hx => by
  have := oCall_ok (P := P) (ξ := ξ) ho hx
  unfold cCall
  revert this
  cases opd y; cases opL args.toList; exact fun h => h
noncomputable def cBlt (P : Program) (b : Builtin) (args : Array Operand) (tys : Array TypeId) : C1 := match b, args, tys with
  | .len, ⟨[x]⟩, ⟨[ty]⟩ => cLen P ty x
  | .min, ⟨[x, z]⟩, _ => f2 (oMM2 false) (opd x) (opd z)
  | .max, ⟨[x, z]⟩, _ => f2 (oMM2 true) (opd x) (opd z)
  | .min, ⟨[x, z, y]⟩, _ => f3 (oMM3 false) (opd x) (opd z) (opd y)
  | .max, ⟨[x, z, y]⟩, _ => f3 (oMM3 true) (opd x) (opd z) (opd y)
  | .append, ⟨[x, z]⟩, ⟨[ty, ty2]⟩ => (match Nat.beq ty ty2 with
    | true => cApp P ty x z
    | false => cAppT P ty ty2 x z)
  | .clear, ⟨[x]⟩, ⟨[ty]⟩ => cClear P ty x
  | .unsafeSliceData, ⟨[x]⟩, _ => f1 oData (opd x)
  | .unsafeString, ⟨[x, z]⟩, ⟨[ty, _]⟩ => cUStr P ty x z
  | _, _, _ => no1
theorem cBlt_ok {b : Builtin} {args : Array Operand} {tys : Array TypeId} (ho : o.op = .call { callee := .builtin b, args, argTypes := tys }) : Sound1 P ξ o (cBlt P b args tys).get := by
  unfold cBlt
  split
  · exact cLen_ok ho
  · rw [f2_get]; exact oMM2_ok (mx := false) ho
  · rw [f2_get]; exact oMM2_ok (mx := true) ho
  · rw [f3_get]; exact oMM3_ok (mx := false) ho
  · rw [f3_get]; exact oMM3_ok (mx := true) ho
  · split
    · rename_i hb
      have := Nat.eq_of_beq_eq_true hb
      subst this
      exact cApp_ok ho
    · exact cAppT_ok ho
  · exact cClear_ok ho
  · rw [f1_get]; exact oData_ok ho
  · exact cUStr_ok ho
  · exact no1_ok
noncomputable def opc (P : Program) (ne : FuncId) (o : Oper) : CO := match o.op with
  | .move x => ofC1 (f1 oMove (opd x))
  | .assign x => ofC1 (f1 oMove (opd x))
  | .pick c a b => ofC1 (f3 oPick (opd c) (opd a) (opd b))
  | .binOp op ty x z _ => ofC1 (cBin P op ty x z)
  | .unOp op _ x => ofC1 (f1 (oUn op) (opd x))
  | .convert ty ty2 x => ofC1 (cConv P ty ty2 x)
  | .extract x i => ofC1 (f1 (oExt i) (opd x))
  | .nilCheck x => ofC1 (f1 oNilChk (opd x))
  | .makeFunc fn first caps => ofC1 (cFun fn first caps)
  | .index ty x z => ofC1 (cIdx P ty x z)
  | .field ty x f => ofC1 (cField P ty x f)
  | .fieldAddr ty x f => ofC1 (cFA P ty x f)
  | .indexAddr ty x z => ofC1 (cIA P ty x z)
  | .slice ty x lo hi mx => ofC1 (cSlc P ty x lo hi mx)
  | .load ty x => ofC1 (cLoad P ty x)
  | .store ty x z => ofC1 (cStore P ty x z)
  | .alloc ty => ofC1 (cAlloc P ty)
  | .box ty x => ofC1 (f1 (oBox ty) (opd x))
  | .build ty ps => ofC1 (cBuild P ty ps)
  | .buildSlice ty n ps => ofC1 (cLits P ty n ps)
  | .call { callee := .value (.func K), args := ⟨[x]⟩, .. } => (match Nat.beq K ne with
    | true => ofC1 (f1 oMove (opd x))
    | false => cCall (.func K) #[x])
  | .call { callee := .value y, args, .. } => cCall y args
  | .makeSlice ty x z => ofC1 (cMake P ty x z)
  | .makeMap _ none => ofC1 (.mk oMkMap)
  | .lookup ty x z false => ofC1 (cLook P ty x z)
  | .mapUpdate ty x z y => ofC1 (cPutM P ty x z y)
  | .call { callee := .builtin b, args, argTypes } => ofC1 (cBlt P b args argTypes)
  | _ => noO
theorem opc_ok (P : Program) (ξ : Nat → Int) {ne : FuncId} (hne : NeOk P ne) (o : Oper) : COok P ξ o (opc P ne o) := by
  unfold opc
  split
  · exact ofC1_ok (by rw [f1_get]; exact oMove_ok (.inl ‹_›))
  · exact ofC1_ok (by rw [f1_get]; exact oMove_ok (.inr ‹_›))
  · exact ofC1_ok (by rw [f3_get]; exact oPick_ok ‹_›)
  · exact ofC1_ok (cBin_ok ‹_›)
  · exact ofC1_ok (by rw [f1_get]; exact oUn_ok ‹_›)
  · exact ofC1_ok (cConv_ok ‹_›)
  · exact ofC1_ok (by rw [f1_get]; exact oExt_ok ‹_›)
  · exact ofC1_ok (by rw [f1_get]; exact oNilChk_ok ‹_›)
  · exact ofC1_ok (cFun_ok ‹_›)
  · exact ofC1_ok (cIdx_ok ‹_›)
  · exact ofC1_ok (cField_ok ‹_›)
  · exact ofC1_ok (cFA_ok ‹_›)
  · exact ofC1_ok (cIA_ok ‹_›)
  · exact ofC1_ok (cSlc_ok ‹_›)
  · exact ofC1_ok (cLoad_ok ‹_›)
  · exact ofC1_ok (cStore_ok ‹_›)
  · exact ofC1_ok (cAlloc_ok ‹_›)
  · exact ofC1_ok (by rw [f1_get]; exact oBox_ok ‹_›)
  · exact ofC1_ok (cBuild_ok ‹_›)
  · exact ofC1_ok (cLits_ok ‹_›)
  · split
    · rename_i hb
      have := Nat.eq_of_beq_eq_true hb
      subst this
      exact ofC1_ok (by rw [f1_get]; exact oSame_ok hne ‹_›)
    · exact cCall_ok ‹_›
  · exact cCall_ok ‹_›
  · exact ofC1_ok (cMake_ok ‹_›)
  · exact ofC1_ok (oMkMap_ok ‹_›)
  · exact ofC1_ok (cLook_ok ‹_›)
  · exact ofC1_ok (cPutM_ok ‹_›)
  · exact ofC1_ok (cBlt_ok ‹_›)
  · exact noO_ok
end
end Go.Proofs.YtnkkfmnpkgjabaaGreat.Y

/- The runner: digests, as the kernel reckons them quickly: definitions. -/
namespace Go.Proofs.YtnkkfmnpkgjabaaGreat.Y
set_option linter.unusedVariables false
set_option linter.unusedSimpArgs false
@[irreducible] def c32 : Nat := 4294967296
noncomputable def cmb (a b : Nat) : Nat := Nat.add (Nat.mul a c32) b
abbrev m32 : Nat := 4294967295
def shaK : List Nat := [1116352408, 1899447441, 3049323471, 3921009573, 961987163, 1508970993, 2453635748, 2870763221, 3624381080, 310598401, 607225278, 1426881987, 1925078388, 2162078206, 2614888103, 3248222580, 3835390401, 4022224774, 264347078, 604807628, 770255983, 1249150122, 1555081692, 1996064986, 2554220882, 2821834349, 2952996808, 3210313671, 3336571891, 3584528711, 113926993, 338241895, 666307205, 773529912, 1294757372, 1396182291, 1695183700, 1986661051, 2177026350, 2456956037, 2730485921, 2820302411, 3259730800, 3345764771, 3516065817, 3600352804, 4094571909, 275423344, 430227734, 506948616, 659060556, 883997877, 958139571, 1322822218, 1537002063, 1747873779, 1955562222, 2024104815, 2227730452, 2361852424, 2428436474, 2756734187, 3204031479, 3329325298]
noncomputable def rot3 (x i j l : Nat) : Nat := Nat.land (Nat.xor (Nat.xor (Nat.shiftRight (Nat.mul x 4294967297) i) (Nat.shiftRight (Nat.mul x 4294967297) j)) (Nat.shiftRight (Nat.mul x 4294967297) l)) m32
noncomputable def rot2 (x i j l : Nat) : Nat := Nat.xor (Nat.land (Nat.xor (Nat.shiftRight (Nat.mul x 4294967297) i) (Nat.shiftRight (Nat.mul x 4294967297) j)) m32) (Nat.shiftRight x l)
noncomputable def shaT1 (e f g h kc w : Nat) : Nat := Nat.add (Nat.add (Nat.add (Nat.add h (rot3 e 6 11 25)) (Nat.xor (Nat.land e f) (Nat.land (Nat.xor m32 e) g))) kc) w
noncomputable def shaT2 (a b c : Nat) : Nat := Nat.add (rot3 a 2 13 22) (Nat.xor (Nat.xor (Nat.land a b) (Nat.land a c)) (Nat.land b c))
noncomputable def shaW (w0 w1 w9 w14 : Nat) : Nat := Nat.land (Nat.add (Nat.add (Nat.add w0 (rot2 w1 7 18 3)) w9) (rot2 w14 17 19 10)) m32
noncomputable def shaR (ks : List Nat) : Nat → Nat → Nat → Nat → Nat → Nat → Nat → Nat → Nat → Nat → Nat → Nat → Nat → Nat → Nat → Nat → Nat → Nat → Nat → Nat → Nat → Nat → Nat → Nat → (Nat → Nat → Nat → Nat → Nat → Nat → Nat → Nat → Bool) → Bool := List.rec (motive := fun _ => Nat → Nat → Nat → Nat → Nat → Nat → Nat → Nat → Nat → Nat → Nat → Nat → Nat → Nat → Nat → Nat → Nat → Nat → Nat → Nat → Nat → Nat → Nat → Nat → (Nat → Nat → Nat → Nat → Nat → Nat → Nat → Nat → Bool) → Bool)
  (fun a b c d e f g h _ _ _ _ _ _ _ _ _ _ _ _ _ _ _ _ k => k a b c d e f g h)
  (fun kc _ ih a b c d e f g h w0 w1 w2 w3 w4 w5 w6 w7 w8 w9 w10 w11 w12 w13 w14 w15 k => fNat (shaT1 e f g h kc w0) fun t => fNat (Nat.land (Nat.add t (shaT2 a b c)) m32) fun a' => fNat (Nat.land (Nat.add d t) m32) fun e' => fNat (shaW w0 w1 w9 w14) fun w16 => ih a' a b c e' e f g w1 w2 w3 w4 w5 w6 w7 w8 w9 w10 w11 w12 w13 w14 w15 w16 k) ks
noncomputable def shaB (m : Nat) (a b c d e f g h : Nat) (k : Nat → Nat → Nat → Nat → Nat → Nat → Nat → Nat → Bool) : Bool := fNat (Nat.land (Nat.shiftRight m 480) m32) fun w0 => fNat (Nat.land (Nat.shiftRight m 448) m32) fun w1 => fNat (Nat.land (Nat.shiftRight m 416) m32) fun w2 => fNat (Nat.land (Nat.shiftRight m 384) m32) fun w3 => fNat (Nat.land (Nat.shiftRight m 352) m32) fun w4 => fNat (Nat.land (Nat.shiftRight m 320) m32) fun w5 => fNat (Nat.land (Nat.shiftRight m 288) m32) fun w6 => fNat (Nat.land (Nat.shiftRight m 256) m32) fun w7 => fNat (Nat.land (Nat.shiftRight m 224) m32) fun w8 => fNat (Nat.land (Nat.shiftRight m 192) m32) fun w9 => fNat (Nat.land (Nat.shiftRight m 160) m32) fun w10 => fNat (Nat.land (Nat.shiftRight m 128) m32) fun w11 => fNat (Nat.land (Nat.shiftRight m 96) m32) fun w12 => fNat (Nat.land (Nat.shiftRight m 64) m32) fun w13 => fNat (Nat.land (Nat.shiftRight m 32) m32) fun w14 => fNat (Nat.land (Nat.shiftRight m 0) m32) fun w15 => shaR shaK a b c d e f g h w0 w1 w2 w3 w4 w5 w6 w7 w8 w9 w10 w11 w12 w13 w14 w15 fun a1 b1 c1 d1 e1 f1 g1 h1 => fNat (Nat.land (Nat.add a a1) m32) fun a2 => fNat (Nat.land (Nat.add b b1) m32) fun b2 => fNat (Nat.land (Nat.add c c1) m32) fun c2 => fNat (Nat.land (Nat.add d d1) m32) fun d2 => fNat (Nat.land (Nat.add e e1) m32) fun e2 => fNat (Nat.land (Nat.add f f1) m32) fun f2 => fNat (Nat.land (Nat.add g g1) m32) fun g2 => fNat (Nat.land (Nat.add h h1) m32) fun h2 => k a2 b2 c2 d2 e2 f2 g2 h2
/-- So many blocks of a number, the first ones first. -/
noncomputable def shaM (m : Nat) (n : Nat) : Nat → Nat → Nat → Nat → Nat → Nat → Nat → Nat → (Nat → Nat → Nat → Nat → Nat → Nat → Nat → Nat → Bool) → Bool := Nat.rec (motive := fun _ => Nat → Nat → Nat → Nat → Nat → Nat → Nat → Nat → (Nat → Nat → Nat → Nat → Nat → Nat → Nat → Nat → Bool) → Bool) (fun a b c d e f g h k => k a b c d e f g h) (fun i ih a b c d e f g h k => shaB (Nat.shiftRight m (Nat.mul 512 i)) a b c d e f g h fun a b c d e f g h => ih a b c d e f g h k) n
noncomputable def shaS (l n : Nat) (k : Nat → Bool) : Bool := fNat (Nat.succ (Nat.div (Nat.add l 8) 64)) fun nb => fNat (Nat.add (Nat.mul (Nat.add (Nat.mul n 256) 128) (Nat.pow 256 (Nat.sub (Nat.mul 64 nb) (Nat.succ l)))) (Nat.mul 8 l)) fun m => shaM m nb 1779033703 3144134277 1013904242 2773480762 1359893119 2600822924 528734635 1541459225 fun a b c d e f g h => fNat (cmb (cmb (cmb (cmb (cmb (cmb (cmb a b) c) d) e) f) g) h) k
end Go.Proofs.YtnkkfmnpkgjabaaGreat.Y

/- The same logic: steps that find their own rule. -/
namespace Go.Proofs.YtnkkfmnpkgjabaaGreat.X
open Go.RowKit
set_option linter.unusedVariables false
set_option linter.unusedSimpArgs false

section
variable {P : Program} {N : Nat} {ops : Array Oper} {Q : Exit → T → BS → Prop} {rest : List Oper} {o : Oper} {t : T} {bs : BS} {y : A} {K : T → BS → Prop}
/-- The rule of a quiet operation is found by its kind. -/
theorem OpQ.auto (h : OpQ P o t bs y := by first
    | ((with_reducible show OpQ _ ⟨_, .move _, _, _, _, _⟩ _ _ _); first | exact OpQ.move_opt rfl (by rfl) (by first | assumption | rfl) | exact OpQ.move rfl (by (conv => lhs; whnf) <;> rfl))
    | ((with_reducible show OpQ _ ⟨_, .assign _, _, _, _, _⟩ _ _ _); exact OpQ.assign rfl (by (conv => lhs; whnf) <;> rfl))
    | ((with_reducible show OpQ _ ⟨_, .load _ _, _, _, _, _⟩ _ _ _); first | exact OpQ.load_ep rfl (by first | exact Wk.refl _ | exact Wk.nil | exact Wk.clip _ | exact Wk.tip _ _ _ | exact Wk.opt _ _ (by first | assumption | rfl) | exact Wk.gr _ _ | exact Wk.nil_gr | exact Wk.trans (Wk.opt _ _ (by first | assumption | rfl)) (by first | exact Wk.gr _ _ | exact Wk.nil | exact Wk.clip _ | exact Wk.tip _ _ _) | exact Wk.aggs (by repeat (first | exact Wks.nil | refine Wks.cons (by first | exact Wk.refl _ | exact Wk.nil | exact Wk.clip _ | exact Wk.tip _ _ _ | exact Wk.gr _ _ | exact Wk.nil_gr | exact Wk.nil_ow | exact Wk.ms_ow _ _ _) ?_)) rfl | exact Wk.nil_ow | exact Wk.ms_ow _ _ _ | exact Wk.ow_ms _ _ _) (by rfl) (by rfl) | exact OpQ.load_ptr rfl (by first | exact Wk.refl _ | exact Wk.nil | exact Wk.clip _ | exact Wk.tip _ _ _ | exact Wk.opt _ _ (by first | assumption | rfl) | exact Wk.gr _ _ | exact Wk.nil_gr | exact Wk.trans (Wk.opt _ _ (by first | assumption | rfl)) (by first | exact Wk.gr _ _ | exact Wk.nil | exact Wk.clip _ | exact Wk.tip _ _ _) | exact Wk.aggs (by repeat (first | exact Wks.nil | refine Wks.cons (by first | exact Wk.refl _ | exact Wk.nil | exact Wk.clip _ | exact Wk.tip _ _ _ | exact Wk.gr _ _ | exact Wk.nil_gr | exact Wk.nil_ow | exact Wk.ms_ow _ _ _) ?_)) rfl | exact Wk.nil_ow | exact Wk.ms_ow _ _ _ | exact Wk.ow_ms _ _ _) (by repeat (first | exact List.mem_cons_self | assumption | refine List.mem_cons_of_mem _ ?_ | refine mem_gB ?_ | refine mem_gO ?_)) (by rfl) (by rfl) | exact OpQ.loads_ptr_all rfl (by first | exact Wk.refl _ | exact Wk.nil | exact Wk.clip _ | exact Wk.tip _ _ _ | exact Wk.opt _ _ (by first | assumption | rfl) | exact Wk.gr _ _ | exact Wk.nil_gr | exact Wk.trans (Wk.opt _ _ (by first | assumption | rfl)) (by first | exact Wk.gr _ _ | exact Wk.nil | exact Wk.clip _ | exact Wk.tip _ _ _) | exact Wk.aggs (by repeat (first | exact Wks.nil | refine Wks.cons (by first | exact Wk.refl _ | exact Wk.nil | exact Wk.clip _ | exact Wk.tip _ _ _ | exact Wk.gr _ _ | exact Wk.nil_gr | exact Wk.nil_ow | exact Wk.ms_ow _ _ _) ?_)) rfl | exact Wk.nil_ow | exact Wk.ms_ow _ _ _ | exact Wk.ow_ms _ _ _) (by repeat (first | exact List.mem_cons_self | assumption | refine List.mem_cons_of_mem _ ?_ | refine mem_gB ?_ | refine mem_gO ?_)) (by rfl) (by rfl) | exact OpQ.loads_ep_all rfl (by first | exact Wk.refl _ | exact Wk.nil | exact Wk.clip _ | exact Wk.tip _ _ _ | exact Wk.opt _ _ (by first | assumption | rfl) | exact Wk.gr _ _ | exact Wk.nil_gr | exact Wk.trans (Wk.opt _ _ (by first | assumption | rfl)) (by first | exact Wk.gr _ _ | exact Wk.nil | exact Wk.clip _ | exact Wk.tip _ _ _) | exact Wk.aggs (by repeat (first | exact Wks.nil | refine Wks.cons (by first | exact Wk.refl _ | exact Wk.nil | exact Wk.clip _ | exact Wk.tip _ _ _ | exact Wk.gr _ _ | exact Wk.nil_gr | exact Wk.nil_ow | exact Wk.ms_ow _ _ _) ?_)) rfl | exact Wk.nil_ow | exact Wk.ms_ow _ _ _ | exact Wk.ow_ms _ _ _) (by rfl) (by rfl) | exact OpQ.load_row rfl (by first | exact Wk.refl _ | exact Wk.nil | exact Wk.clip _ | exact Wk.tip _ _ _ | exact Wk.opt _ _ (by first | assumption | rfl) | exact Wk.gr _ _ | exact Wk.nil_gr | exact Wk.trans (Wk.opt _ _ (by first | assumption | rfl)) (by first | exact Wk.gr _ _ | exact Wk.nil | exact Wk.clip _ | exact Wk.tip _ _ _) | exact Wk.aggs (by repeat (first | exact Wks.nil | refine Wks.cons (by first | exact Wk.refl _ | exact Wk.nil | exact Wk.clip _ | exact Wk.tip _ _ _ | exact Wk.gr _ _ | exact Wk.nil_gr | exact Wk.nil_ow | exact Wk.ms_ow _ _ _) ?_)) rfl | exact Wk.nil_ow | exact Wk.ms_ow _ _ _ | exact Wk.ow_ms _ _ _) (by repeat (first | exact List.mem_cons_self | assumption | refine List.mem_cons_of_mem _ ?_ | refine mem_gB ?_ | refine mem_gO ?_)) (by first | assumption | rfl) (by rfl) (by rfl) | exact OpQ.loads_row rfl (by first | exact Wk.refl _ | exact Wk.nil | exact Wk.clip _ | exact Wk.tip _ _ _ | exact Wk.opt _ _ (by first | assumption | rfl) | exact Wk.gr _ _ | exact Wk.nil_gr | exact Wk.trans (Wk.opt _ _ (by first | assumption | rfl)) (by first | exact Wk.gr _ _ | exact Wk.nil | exact Wk.clip _ | exact Wk.tip _ _ _) | exact Wk.aggs (by repeat (first | exact Wks.nil | refine Wks.cons (by first | exact Wk.refl _ | exact Wk.nil | exact Wk.clip _ | exact Wk.tip _ _ _ | exact Wk.gr _ _ | exact Wk.nil_gr | exact Wk.nil_ow | exact Wk.ms_ow _ _ _) ?_)) rfl | exact Wk.nil_ow | exact Wk.ms_ow _ _ _ | exact Wk.ow_ms _ _ _) (by repeat (first | exact List.mem_cons_self | assumption | refine List.mem_cons_of_mem _ ?_ | refine mem_gB ?_ | refine mem_gO ?_)) (by first | assumption | rfl) (by rfl) (by rfl) | exact OpQ.loads_ep rfl (by first | exact Wk.refl _ | exact Wk.nil | exact Wk.clip _ | exact Wk.tip _ _ _ | exact Wk.opt _ _ (by first | assumption | rfl) | exact Wk.gr _ _ | exact Wk.nil_gr | exact Wk.trans (Wk.opt _ _ (by first | assumption | rfl)) (by first | exact Wk.gr _ _ | exact Wk.nil | exact Wk.clip _ | exact Wk.tip _ _ _) | exact Wk.aggs (by repeat (first | exact Wks.nil | refine Wks.cons (by first | exact Wk.refl _ | exact Wk.nil | exact Wk.clip _ | exact Wk.tip _ _ _ | exact Wk.gr _ _ | exact Wk.nil_gr | exact Wk.nil_ow | exact Wk.ms_ow _ _ _) ?_)) rfl | exact Wk.nil_ow | exact Wk.ms_ow _ _ _ | exact Wk.ow_ms _ _ _) (by rfl) (by first | rfl | (simp; done) | (simp only [List.length_map]; omega) | (simp; omega) | omega) | exact OpQ.loads_ptr rfl (by first | exact Wk.refl _ | exact Wk.nil | exact Wk.clip _ | exact Wk.tip _ _ _ | exact Wk.opt _ _ (by first | assumption | rfl) | exact Wk.gr _ _ | exact Wk.nil_gr | exact Wk.trans (Wk.opt _ _ (by first | assumption | rfl)) (by first | exact Wk.gr _ _ | exact Wk.nil | exact Wk.clip _ | exact Wk.tip _ _ _) | exact Wk.aggs (by repeat (first | exact Wks.nil | refine Wks.cons (by first | exact Wk.refl _ | exact Wk.nil | exact Wk.clip _ | exact Wk.tip _ _ _ | exact Wk.gr _ _ | exact Wk.nil_gr | exact Wk.nil_ow | exact Wk.ms_ow _ _ _) ?_)) rfl | exact Wk.nil_ow | exact Wk.ms_ow _ _ _ | exact Wk.ow_ms _ _ _) (by repeat (first | exact List.mem_cons_self | assumption | refine List.mem_cons_of_mem _ ?_ | refine mem_gB ?_ | refine mem_gO ?_)) (by rfl) (by first | rfl | (simp; done) | (simp only [List.length_map]; omega) | (simp; omega) | omega))
    | ((with_reducible show OpQ _ ⟨_, .fieldAddr _ _ _, _, _, _, _⟩ _ _ _); first | exact OpQ.field_ptr rfl (by first | exact Wk.refl _ | exact Wk.nil | exact Wk.clip _ | exact Wk.tip _ _ _ | exact Wk.opt _ _ (by first | assumption | rfl) | exact Wk.gr _ _ | exact Wk.nil_gr | exact Wk.trans (Wk.opt _ _ (by first | assumption | rfl)) (by first | exact Wk.gr _ _ | exact Wk.nil | exact Wk.clip _ | exact Wk.tip _ _ _) | exact Wk.aggs (by repeat (first | exact Wks.nil | refine Wks.cons (by first | exact Wk.refl _ | exact Wk.nil | exact Wk.clip _ | exact Wk.tip _ _ _ | exact Wk.gr _ _ | exact Wk.nil_gr | exact Wk.nil_ow | exact Wk.ms_ow _ _ _) ?_)) rfl | exact Wk.nil_ow | exact Wk.ms_ow _ _ _ | exact Wk.ow_ms _ _ _) (by rfl) (by kernel_rfl) (by (conv => lhs; whnf) <;> rfl) (by first | ((simp only [Nat.zero_add, Nat.add_zero, Nat.reduceAdd, Nat.reduceMul, Int.toNat_natCast]) <;> rfl) | rfl) | exact OpQ.field_ep rfl (by first | exact Wk.refl _ | exact Wk.nil | exact Wk.clip _ | exact Wk.tip _ _ _ | exact Wk.opt _ _ (by first | assumption | rfl) | exact Wk.gr _ _ | exact Wk.nil_gr | exact Wk.trans (Wk.opt _ _ (by first | assumption | rfl)) (by first | exact Wk.gr _ _ | exact Wk.nil | exact Wk.clip _ | exact Wk.tip _ _ _) | exact Wk.aggs (by repeat (first | exact Wks.nil | refine Wks.cons (by first | exact Wk.refl _ | exact Wk.nil | exact Wk.clip _ | exact Wk.tip _ _ _ | exact Wk.gr _ _ | exact Wk.nil_gr | exact Wk.nil_ow | exact Wk.ms_ow _ _ _) ?_)) rfl | exact Wk.nil_ow | exact Wk.ms_ow _ _ _ | exact Wk.ow_ms _ _ _) (by rfl) (by kernel_rfl) (by (conv => lhs; whnf) <;> rfl) (by first | ((simp only [List.drop_succ_cons, List.drop_zero, List.take_succ_cons, List.take_zero]) <;> rfl) | rfl) | exact OpQ.field_rp rfl (by first | exact Wk.refl _ | exact Wk.nil | exact Wk.clip _ | exact Wk.tip _ _ _ | exact Wk.opt _ _ (by first | assumption | rfl) | exact Wk.gr _ _ | exact Wk.nil_gr | exact Wk.trans (Wk.opt _ _ (by first | assumption | rfl)) (by first | exact Wk.gr _ _ | exact Wk.nil | exact Wk.clip _ | exact Wk.tip _ _ _) | exact Wk.aggs (by repeat (first | exact Wks.nil | refine Wks.cons (by first | exact Wk.refl _ | exact Wk.nil | exact Wk.clip _ | exact Wk.tip _ _ _ | exact Wk.gr _ _ | exact Wk.nil_gr | exact Wk.nil_ow | exact Wk.ms_ow _ _ _) ?_)) rfl | exact Wk.nil_ow | exact Wk.ms_ow _ _ _ | exact Wk.ow_ms _ _ _) (by rfl) (by kernel_rfl) (by (conv => lhs; whnf) <;> rfl) (by first | ((simp only [Nat.zero_add, Nat.add_zero, Nat.reduceAdd, Nat.reduceMul, Int.toNat_natCast]) <;> rfl) | rfl))
    | ((with_reducible show OpQ _ ⟨_, .extract _ _, _, _, _, _⟩ _ _ _); exact OpQ.extract rfl (by first | exact Wk.refl _ | exact Wk.nil | exact Wk.clip _ | exact Wk.tip _ _ _ | exact Wk.opt _ _ (by first | assumption | rfl) | exact Wk.gr _ _ | exact Wk.nil_gr | exact Wk.trans (Wk.opt _ _ (by first | assumption | rfl)) (by first | exact Wk.gr _ _ | exact Wk.nil | exact Wk.clip _ | exact Wk.tip _ _ _) | exact Wk.aggs (by repeat (first | exact Wks.nil | refine Wks.cons (by first | exact Wk.refl _ | exact Wk.nil | exact Wk.clip _ | exact Wk.tip _ _ _ | exact Wk.gr _ _ | exact Wk.nil_gr | exact Wk.nil_ow | exact Wk.ms_ow _ _ _) ?_)) rfl | exact Wk.nil_ow | exact Wk.ms_ow _ _ _ | exact Wk.ow_ms _ _ _) (by rfl))
    | ((with_reducible show OpQ _ ⟨_, .pick _ _ _, _, _, _, _⟩ _ _ _); first | exact OpQ.pick_kt rfl (by first | exact Wk.refl _ | exact Wk.nil | exact Wk.clip _ | exact Wk.tip _ _ _ | exact Wk.opt _ _ (by first | assumption | rfl) | exact Wk.gr _ _ | exact Wk.nil_gr | exact Wk.trans (Wk.opt _ _ (by first | assumption | rfl)) (by first | exact Wk.gr _ _ | exact Wk.nil | exact Wk.clip _ | exact Wk.tip _ _ _) | exact Wk.aggs (by repeat (first | exact Wks.nil | refine Wks.cons (by first | exact Wk.refl _ | exact Wk.nil | exact Wk.clip _ | exact Wk.tip _ _ _ | exact Wk.gr _ _ | exact Wk.nil_gr | exact Wk.nil_ow | exact Wk.ms_ow _ _ _) ?_)) rfl | exact Wk.nil_ow | exact Wk.ms_ow _ _ _ | exact Wk.ow_ms _ _ _) (by assumption) (by (conv => lhs; whnf) <;> rfl) | exact OpQ.pick_kf rfl (by first | exact Wk.refl _ | exact Wk.nil | exact Wk.clip _ | exact Wk.tip _ _ _ | exact Wk.opt _ _ (by first | assumption | rfl) | exact Wk.gr _ _ | exact Wk.nil_gr | exact Wk.trans (Wk.opt _ _ (by first | assumption | rfl)) (by first | exact Wk.gr _ _ | exact Wk.nil | exact Wk.clip _ | exact Wk.tip _ _ _) | exact Wk.aggs (by repeat (first | exact Wks.nil | refine Wks.cons (by first | exact Wk.refl _ | exact Wk.nil | exact Wk.clip _ | exact Wk.tip _ _ _ | exact Wk.gr _ _ | exact Wk.nil_gr | exact Wk.nil_ow | exact Wk.ms_ow _ _ _) ?_)) rfl | exact Wk.nil_ow | exact Wk.ms_ow _ _ _ | exact Wk.ow_ms _ _ _) (by assumption) (by (conv => lhs; whnf) <;> rfl) | exact OpQ.pick_true_opt rfl (by first | exact Wk.refl _ | exact Wk.nil | exact Wk.clip _ | exact Wk.tip _ _ _ | exact Wk.opt _ _ (by first | assumption | rfl) | exact Wk.gr _ _ | exact Wk.nil_gr | exact Wk.trans (Wk.opt _ _ (by first | assumption | rfl)) (by first | exact Wk.gr _ _ | exact Wk.nil | exact Wk.clip _ | exact Wk.tip _ _ _) | exact Wk.aggs (by repeat (first | exact Wks.nil | refine Wks.cons (by first | exact Wk.refl _ | exact Wk.nil | exact Wk.clip _ | exact Wk.tip _ _ _ | exact Wk.gr _ _ | exact Wk.nil_gr | exact Wk.nil_ow | exact Wk.ms_ow _ _ _) ?_)) rfl | exact Wk.nil_ow | exact Wk.ms_ow _ _ _ | exact Wk.ow_ms _ _ _) (by (conv => lhs; whnf) <;> rfl) (by first | rfl | assumption | (simp; done)) | exact OpQ.pick_true rfl (by first | exact Wk.refl _ | exact Wk.nil | exact Wk.clip _ | exact Wk.tip _ _ _ | exact Wk.opt _ _ (by first | assumption | rfl) | exact Wk.gr _ _ | exact Wk.nil_gr | exact Wk.trans (Wk.opt _ _ (by first | assumption | rfl)) (by first | exact Wk.gr _ _ | exact Wk.nil | exact Wk.clip _ | exact Wk.tip _ _ _) | exact Wk.aggs (by repeat (first | exact Wks.nil | refine Wks.cons (by first | exact Wk.refl _ | exact Wk.nil | exact Wk.clip _ | exact Wk.tip _ _ _ | exact Wk.gr _ _ | exact Wk.nil_gr | exact Wk.nil_ow | exact Wk.ms_ow _ _ _) ?_)) rfl | exact Wk.nil_ow | exact Wk.ms_ow _ _ _ | exact Wk.ow_ms _ _ _) (by (conv => lhs; whnf) <;> rfl) | exact OpQ.pick_false_opt rfl (by first | exact Wk.refl _ | exact Wk.nil | exact Wk.clip _ | exact Wk.tip _ _ _ | exact Wk.opt _ _ (by first | assumption | rfl) | exact Wk.gr _ _ | exact Wk.nil_gr | exact Wk.trans (Wk.opt _ _ (by first | assumption | rfl)) (by first | exact Wk.gr _ _ | exact Wk.nil | exact Wk.clip _ | exact Wk.tip _ _ _) | exact Wk.aggs (by repeat (first | exact Wks.nil | refine Wks.cons (by first | exact Wk.refl _ | exact Wk.nil | exact Wk.clip _ | exact Wk.tip _ _ _ | exact Wk.gr _ _ | exact Wk.nil_gr | exact Wk.nil_ow | exact Wk.ms_ow _ _ _) ?_)) rfl | exact Wk.nil_ow | exact Wk.ms_ow _ _ _ | exact Wk.ow_ms _ _ _) (by (conv => lhs; whnf) <;> rfl) (by first | rfl | assumption | (simp; done)) | exact OpQ.pick_false rfl (by first | exact Wk.refl _ | exact Wk.nil | exact Wk.clip _ | exact Wk.tip _ _ _ | exact Wk.opt _ _ (by first | assumption | rfl) | exact Wk.gr _ _ | exact Wk.nil_gr | exact Wk.trans (Wk.opt _ _ (by first | assumption | rfl)) (by first | exact Wk.gr _ _ | exact Wk.nil | exact Wk.clip _ | exact Wk.tip _ _ _) | exact Wk.aggs (by repeat (first | exact Wks.nil | refine Wks.cons (by first | exact Wk.refl _ | exact Wk.nil | exact Wk.clip _ | exact Wk.tip _ _ _ | exact Wk.gr _ _ | exact Wk.nil_gr | exact Wk.nil_ow | exact Wk.ms_ow _ _ _) ?_)) rfl | exact Wk.nil_ow | exact Wk.ms_ow _ _ _ | exact Wk.ow_ms _ _ _) (by (conv => lhs; whnf) <;> rfl) | exact OpQ.pick_and rfl (by first | exact Wk.refl _ | exact Wk.nil | exact Wk.clip _ | exact Wk.tip _ _ _ | exact Wk.opt _ _ (by first | assumption | rfl) | exact Wk.gr _ _ | exact Wk.nil_gr | exact Wk.trans (Wk.opt _ _ (by first | assumption | rfl)) (by first | exact Wk.gr _ _ | exact Wk.nil | exact Wk.clip _ | exact Wk.tip _ _ _) | exact Wk.aggs (by repeat (first | exact Wks.nil | refine Wks.cons (by first | exact Wk.refl _ | exact Wk.nil | exact Wk.clip _ | exact Wk.tip _ _ _ | exact Wk.gr _ _ | exact Wk.nil_gr | exact Wk.nil_ow | exact Wk.ms_ow _ _ _) ?_)) rfl | exact Wk.nil_ow | exact Wk.ms_ow _ _ _ | exact Wk.ow_ms _ _ _) (by rfl) (by first | exact fun h => h | (intro hb; simp [*]; done) | simp_all) | exact OpQ.pick_or rfl (by first | exact Wk.refl _ | exact Wk.nil | exact Wk.clip _ | exact Wk.tip _ _ _ | exact Wk.opt _ _ (by first | assumption | rfl) | exact Wk.gr _ _ | exact Wk.nil_gr | exact Wk.trans (Wk.opt _ _ (by first | assumption | rfl)) (by first | exact Wk.gr _ _ | exact Wk.nil | exact Wk.clip _ | exact Wk.tip _ _ _) | exact Wk.aggs (by repeat (first | exact Wks.nil | refine Wks.cons (by first | exact Wk.refl _ | exact Wk.nil | exact Wk.clip _ | exact Wk.tip _ _ _ | exact Wk.gr _ _ | exact Wk.nil_gr | exact Wk.nil_ow | exact Wk.ms_ow _ _ _) ?_)) rfl | exact Wk.nil_ow | exact Wk.ms_ow _ _ _ | exact Wk.ow_ms _ _ _) (by rfl) (by first | exact fun h => by rw [h]; rfl | (intro hb; simp [*]; done) | simp_all))
    | ((with_reducible show OpQ _ ⟨_, .binOp .add _ _ _ _, _, _, _, _⟩ _ _ _); first | exact OpQ.add rfl (by first | exact Wk.refl _ | exact Wk.nil | exact Wk.clip _ | exact Wk.tip _ _ _ | exact Wk.opt _ _ (by first | assumption | rfl) | exact Wk.gr _ _ | exact Wk.nil_gr | exact Wk.trans (Wk.opt _ _ (by first | assumption | rfl)) (by first | exact Wk.gr _ _ | exact Wk.nil | exact Wk.clip _ | exact Wk.tip _ _ _) | exact Wk.aggs (by repeat (first | exact Wks.nil | refine Wks.cons (by first | exact Wk.refl _ | exact Wk.nil | exact Wk.clip _ | exact Wk.tip _ _ _ | exact Wk.gr _ _ | exact Wk.nil_gr | exact Wk.nil_ow | exact Wk.ms_ow _ _ _) ?_)) rfl | exact Wk.nil_ow | exact Wk.ms_ow _ _ _ | exact Wk.ow_ms _ _ _) (by first | exact Wk.refl _ | exact Wk.nil | exact Wk.clip _ | exact Wk.tip _ _ _ | exact Wk.opt _ _ (by first | assumption | rfl) | exact Wk.gr _ _ | exact Wk.nil_gr | exact Wk.trans (Wk.opt _ _ (by first | assumption | rfl)) (by first | exact Wk.gr _ _ | exact Wk.nil | exact Wk.clip _ | exact Wk.tip _ _ _) | exact Wk.aggs (by repeat (first | exact Wks.nil | refine Wks.cons (by first | exact Wk.refl _ | exact Wk.nil | exact Wk.clip _ | exact Wk.tip _ _ _ | exact Wk.gr _ _ | exact Wk.nil_gr | exact Wk.nil_ow | exact Wk.ms_ow _ _ _) ?_)) rfl | exact Wk.nil_ow | exact Wk.ms_ow _ _ _ | exact Wk.ow_ms _ _ _) (by first | assumption | decide) | exact OpQ.cat rfl (by first | exact Wk.refl _ | exact Wk.nil | exact Wk.clip _ | exact Wk.tip _ _ _ | exact Wk.opt _ _ (by first | assumption | rfl) | exact Wk.gr _ _ | exact Wk.nil_gr | exact Wk.trans (Wk.opt _ _ (by first | assumption | rfl)) (by first | exact Wk.gr _ _ | exact Wk.nil | exact Wk.clip _ | exact Wk.tip _ _ _) | exact Wk.aggs (by repeat (first | exact Wks.nil | refine Wks.cons (by first | exact Wk.refl _ | exact Wk.nil | exact Wk.clip _ | exact Wk.tip _ _ _ | exact Wk.gr _ _ | exact Wk.nil_gr | exact Wk.nil_ow | exact Wk.ms_ow _ _ _) ?_)) rfl | exact Wk.nil_ow | exact Wk.ms_ow _ _ _ | exact Wk.ow_ms _ _ _) (by first | exact Wk.refl _ | exact Wk.nil | exact Wk.clip _ | exact Wk.tip _ _ _ | exact Wk.opt _ _ (by first | assumption | rfl) | exact Wk.gr _ _ | exact Wk.nil_gr | exact Wk.trans (Wk.opt _ _ (by first | assumption | rfl)) (by first | exact Wk.gr _ _ | exact Wk.nil | exact Wk.clip _ | exact Wk.tip _ _ _) | exact Wk.aggs (by repeat (first | exact Wks.nil | refine Wks.cons (by first | exact Wk.refl _ | exact Wk.nil | exact Wk.clip _ | exact Wk.tip _ _ _ | exact Wk.gr _ _ | exact Wk.nil_gr | exact Wk.nil_ow | exact Wk.ms_ow _ _ _) ?_)) rfl | exact Wk.nil_ow | exact Wk.ms_ow _ _ _ | exact Wk.ow_ms _ _ _) (by assumption) | exact OpQ.arith rfl (by first | exact Wk.refl _ | exact Wk.nil | exact Wk.clip _ | exact Wk.tip _ _ _ | exact Wk.opt _ _ (by first | assumption | rfl) | exact Wk.gr _ _ | exact Wk.nil_gr | exact Wk.trans (Wk.opt _ _ (by first | assumption | rfl)) (by first | exact Wk.gr _ _ | exact Wk.nil | exact Wk.clip _ | exact Wk.tip _ _ _) | exact Wk.aggs (by repeat (first | exact Wks.nil | refine Wks.cons (by first | exact Wk.refl _ | exact Wk.nil | exact Wk.clip _ | exact Wk.tip _ _ _ | exact Wk.gr _ _ | exact Wk.nil_gr | exact Wk.nil_ow | exact Wk.ms_ow _ _ _) ?_)) rfl | exact Wk.nil_ow | exact Wk.ms_ow _ _ _ | exact Wk.ow_ms _ _ _) (by first | exact Wk.refl _ | exact Wk.nil | exact Wk.clip _ | exact Wk.tip _ _ _ | exact Wk.opt _ _ (by first | assumption | rfl) | exact Wk.gr _ _ | exact Wk.nil_gr | exact Wk.trans (Wk.opt _ _ (by first | assumption | rfl)) (by first | exact Wk.gr _ _ | exact Wk.nil | exact Wk.clip _ | exact Wk.tip _ _ _) | exact Wk.aggs (by repeat (first | exact Wks.nil | refine Wks.cons (by first | exact Wk.refl _ | exact Wk.nil | exact Wk.clip _ | exact Wk.tip _ _ _ | exact Wk.gr _ _ | exact Wk.nil_gr | exact Wk.nil_ow | exact Wk.ms_ow _ _ _) ?_)) rfl | exact Wk.nil_ow | exact Wk.ms_ow _ _ _ | exact Wk.ow_ms _ _ _) (by rfl))
    | ((with_reducible show OpQ _ ⟨_, .binOp .sub _ _ _ _, _, _, _, _⟩ _ _ _); first | exact OpQ.sub rfl (by first | exact Wk.refl _ | exact Wk.nil | exact Wk.clip _ | exact Wk.tip _ _ _ | exact Wk.opt _ _ (by first | assumption | rfl) | exact Wk.gr _ _ | exact Wk.nil_gr | exact Wk.trans (Wk.opt _ _ (by first | assumption | rfl)) (by first | exact Wk.gr _ _ | exact Wk.nil | exact Wk.clip _ | exact Wk.tip _ _ _) | exact Wk.aggs (by repeat (first | exact Wks.nil | refine Wks.cons (by first | exact Wk.refl _ | exact Wk.nil | exact Wk.clip _ | exact Wk.tip _ _ _ | exact Wk.gr _ _ | exact Wk.nil_gr | exact Wk.nil_ow | exact Wk.ms_ow _ _ _) ?_)) rfl | exact Wk.nil_ow | exact Wk.ms_ow _ _ _ | exact Wk.ow_ms _ _ _) (by first | exact Wk.refl _ | exact Wk.nil | exact Wk.clip _ | exact Wk.tip _ _ _ | exact Wk.opt _ _ (by first | assumption | rfl) | exact Wk.gr _ _ | exact Wk.nil_gr | exact Wk.trans (Wk.opt _ _ (by first | assumption | rfl)) (by first | exact Wk.gr _ _ | exact Wk.nil | exact Wk.clip _ | exact Wk.tip _ _ _) | exact Wk.aggs (by repeat (first | exact Wks.nil | refine Wks.cons (by first | exact Wk.refl _ | exact Wk.nil | exact Wk.clip _ | exact Wk.tip _ _ _ | exact Wk.gr _ _ | exact Wk.nil_gr | exact Wk.nil_ow | exact Wk.ms_ow _ _ _) ?_)) rfl | exact Wk.nil_ow | exact Wk.ms_ow _ _ _ | exact Wk.ow_ms _ _ _) (by first | assumption | decide) | exact OpQ.arith rfl (by first | exact Wk.refl _ | exact Wk.nil | exact Wk.clip _ | exact Wk.tip _ _ _ | exact Wk.opt _ _ (by first | assumption | rfl) | exact Wk.gr _ _ | exact Wk.nil_gr | exact Wk.trans (Wk.opt _ _ (by first | assumption | rfl)) (by first | exact Wk.gr _ _ | exact Wk.nil | exact Wk.clip _ | exact Wk.tip _ _ _) | exact Wk.aggs (by repeat (first | exact Wks.nil | refine Wks.cons (by first | exact Wk.refl _ | exact Wk.nil | exact Wk.clip _ | exact Wk.tip _ _ _ | exact Wk.gr _ _ | exact Wk.nil_gr | exact Wk.nil_ow | exact Wk.ms_ow _ _ _) ?_)) rfl | exact Wk.nil_ow | exact Wk.ms_ow _ _ _ | exact Wk.ow_ms _ _ _) (by first | exact Wk.refl _ | exact Wk.nil | exact Wk.clip _ | exact Wk.tip _ _ _ | exact Wk.opt _ _ (by first | assumption | rfl) | exact Wk.gr _ _ | exact Wk.nil_gr | exact Wk.trans (Wk.opt _ _ (by first | assumption | rfl)) (by first | exact Wk.gr _ _ | exact Wk.nil | exact Wk.clip _ | exact Wk.tip _ _ _) | exact Wk.aggs (by repeat (first | exact Wks.nil | refine Wks.cons (by first | exact Wk.refl _ | exact Wk.nil | exact Wk.clip _ | exact Wk.tip _ _ _ | exact Wk.gr _ _ | exact Wk.nil_gr | exact Wk.nil_ow | exact Wk.ms_ow _ _ _) ?_)) rfl | exact Wk.nil_ow | exact Wk.ms_ow _ _ _ | exact Wk.ow_ms _ _ _) (by rfl))
    | ((with_reducible show OpQ _ ⟨_, .binOp .mul _ _ _ _, _, _, _, _⟩ _ _ _); first | exact OpQ.mul rfl (by first | exact Wk.refl _ | exact Wk.nil | exact Wk.clip _ | exact Wk.tip _ _ _ | exact Wk.opt _ _ (by first | assumption | rfl) | exact Wk.gr _ _ | exact Wk.nil_gr | exact Wk.trans (Wk.opt _ _ (by first | assumption | rfl)) (by first | exact Wk.gr _ _ | exact Wk.nil | exact Wk.clip _ | exact Wk.tip _ _ _) | exact Wk.aggs (by repeat (first | exact Wks.nil | refine Wks.cons (by first | exact Wk.refl _ | exact Wk.nil | exact Wk.clip _ | exact Wk.tip _ _ _ | exact Wk.gr _ _ | exact Wk.nil_gr | exact Wk.nil_ow | exact Wk.ms_ow _ _ _) ?_)) rfl | exact Wk.nil_ow | exact Wk.ms_ow _ _ _ | exact Wk.ow_ms _ _ _) (by first | exact Wk.refl _ | exact Wk.nil | exact Wk.clip _ | exact Wk.tip _ _ _ | exact Wk.opt _ _ (by first | assumption | rfl) | exact Wk.gr _ _ | exact Wk.nil_gr | exact Wk.trans (Wk.opt _ _ (by first | assumption | rfl)) (by first | exact Wk.gr _ _ | exact Wk.nil | exact Wk.clip _ | exact Wk.tip _ _ _) | exact Wk.aggs (by repeat (first | exact Wks.nil | refine Wks.cons (by first | exact Wk.refl _ | exact Wk.nil | exact Wk.clip _ | exact Wk.tip _ _ _ | exact Wk.gr _ _ | exact Wk.nil_gr | exact Wk.nil_ow | exact Wk.ms_ow _ _ _) ?_)) rfl | exact Wk.nil_ow | exact Wk.ms_ow _ _ _ | exact Wk.ow_ms _ _ _) (by first | assumption | decide) | exact OpQ.arith rfl (by first | exact Wk.refl _ | exact Wk.nil | exact Wk.clip _ | exact Wk.tip _ _ _ | exact Wk.opt _ _ (by first | assumption | rfl) | exact Wk.gr _ _ | exact Wk.nil_gr | exact Wk.trans (Wk.opt _ _ (by first | assumption | rfl)) (by first | exact Wk.gr _ _ | exact Wk.nil | exact Wk.clip _ | exact Wk.tip _ _ _) | exact Wk.aggs (by repeat (first | exact Wks.nil | refine Wks.cons (by first | exact Wk.refl _ | exact Wk.nil | exact Wk.clip _ | exact Wk.tip _ _ _ | exact Wk.gr _ _ | exact Wk.nil_gr | exact Wk.nil_ow | exact Wk.ms_ow _ _ _) ?_)) rfl | exact Wk.nil_ow | exact Wk.ms_ow _ _ _ | exact Wk.ow_ms _ _ _) (by first | exact Wk.refl _ | exact Wk.nil | exact Wk.clip _ | exact Wk.tip _ _ _ | exact Wk.opt _ _ (by first | assumption | rfl) | exact Wk.gr _ _ | exact Wk.nil_gr | exact Wk.trans (Wk.opt _ _ (by first | assumption | rfl)) (by first | exact Wk.gr _ _ | exact Wk.nil | exact Wk.clip _ | exact Wk.tip _ _ _) | exact Wk.aggs (by repeat (first | exact Wks.nil | refine Wks.cons (by first | exact Wk.refl _ | exact Wk.nil | exact Wk.clip _ | exact Wk.tip _ _ _ | exact Wk.gr _ _ | exact Wk.nil_gr | exact Wk.nil_ow | exact Wk.ms_ow _ _ _) ?_)) rfl | exact Wk.nil_ow | exact Wk.ms_ow _ _ _ | exact Wk.ow_ms _ _ _) (by rfl))
    | ((with_reducible show OpQ _ ⟨_, .binOp .quo _ _ _ _, _, _, _, _⟩ _ _ _); exact OpQ.quo_any rfl (by first | exact Wk.refl _ | exact Wk.nil | exact Wk.clip _ | exact Wk.tip _ _ _ | exact Wk.opt _ _ (by first | assumption | rfl) | exact Wk.gr _ _ | exact Wk.nil_gr | exact Wk.trans (Wk.opt _ _ (by first | assumption | rfl)) (by first | exact Wk.gr _ _ | exact Wk.nil | exact Wk.clip _ | exact Wk.tip _ _ _) | exact Wk.aggs (by repeat (first | exact Wks.nil | refine Wks.cons (by first | exact Wk.refl _ | exact Wk.nil | exact Wk.clip _ | exact Wk.tip _ _ _ | exact Wk.gr _ _ | exact Wk.nil_gr | exact Wk.nil_ow | exact Wk.ms_ow _ _ _) ?_)) rfl | exact Wk.nil_ow | exact Wk.ms_ow _ _ _ | exact Wk.ow_ms _ _ _) (by first | exact Wk.refl _ | exact Wk.nil | exact Wk.clip _ | exact Wk.tip _ _ _ | exact Wk.opt _ _ (by first | assumption | rfl) | exact Wk.gr _ _ | exact Wk.nil_gr | exact Wk.trans (Wk.opt _ _ (by first | assumption | rfl)) (by first | exact Wk.gr _ _ | exact Wk.nil | exact Wk.clip _ | exact Wk.tip _ _ _) | exact Wk.aggs (by repeat (first | exact Wks.nil | refine Wks.cons (by first | exact Wk.refl _ | exact Wk.nil | exact Wk.clip _ | exact Wk.tip _ _ _ | exact Wk.gr _ _ | exact Wk.nil_gr | exact Wk.nil_ow | exact Wk.ms_ow _ _ _) ?_)) rfl | exact Wk.nil_ow | exact Wk.ms_ow _ _ _ | exact Wk.ow_ms _ _ _) (by first | assumption | decide))
    | ((with_reducible show OpQ _ ⟨_, .binOp .rem _ _ _ _, _, _, _, _⟩ _ _ _); exact OpQ.rem_any rfl (by first | exact Wk.refl _ | exact Wk.nil | exact Wk.clip _ | exact Wk.tip _ _ _ | exact Wk.opt _ _ (by first | assumption | rfl) | exact Wk.gr _ _ | exact Wk.nil_gr | exact Wk.trans (Wk.opt _ _ (by first | assumption | rfl)) (by first | exact Wk.gr _ _ | exact Wk.nil | exact Wk.clip _ | exact Wk.tip _ _ _) | exact Wk.aggs (by repeat (first | exact Wks.nil | refine Wks.cons (by first | exact Wk.refl _ | exact Wk.nil | exact Wk.clip _ | exact Wk.tip _ _ _ | exact Wk.gr _ _ | exact Wk.nil_gr | exact Wk.nil_ow | exact Wk.ms_ow _ _ _) ?_)) rfl | exact Wk.nil_ow | exact Wk.ms_ow _ _ _ | exact Wk.ow_ms _ _ _) (by first | exact Wk.refl _ | exact Wk.nil | exact Wk.clip _ | exact Wk.tip _ _ _ | exact Wk.opt _ _ (by first | assumption | rfl) | exact Wk.gr _ _ | exact Wk.nil_gr | exact Wk.trans (Wk.opt _ _ (by first | assumption | rfl)) (by first | exact Wk.gr _ _ | exact Wk.nil | exact Wk.clip _ | exact Wk.tip _ _ _) | exact Wk.aggs (by repeat (first | exact Wks.nil | refine Wks.cons (by first | exact Wk.refl _ | exact Wk.nil | exact Wk.clip _ | exact Wk.tip _ _ _ | exact Wk.gr _ _ | exact Wk.nil_gr | exact Wk.nil_ow | exact Wk.ms_ow _ _ _) ?_)) rfl | exact Wk.nil_ow | exact Wk.ms_ow _ _ _ | exact Wk.ow_ms _ _ _) (by first | assumption | decide))
    | ((with_reducible show OpQ _ ⟨_, .binOp .shr _ _ _ _, _, _, _, _⟩ _ _ _); exact OpQ.shr rfl (by first | exact Wk.refl _ | exact Wk.nil | exact Wk.clip _ | exact Wk.tip _ _ _ | exact Wk.opt _ _ (by first | assumption | rfl) | exact Wk.gr _ _ | exact Wk.nil_gr | exact Wk.trans (Wk.opt _ _ (by first | assumption | rfl)) (by first | exact Wk.gr _ _ | exact Wk.nil | exact Wk.clip _ | exact Wk.tip _ _ _) | exact Wk.aggs (by repeat (first | exact Wks.nil | refine Wks.cons (by first | exact Wk.refl _ | exact Wk.nil | exact Wk.clip _ | exact Wk.tip _ _ _ | exact Wk.gr _ _ | exact Wk.nil_gr | exact Wk.nil_ow | exact Wk.ms_ow _ _ _) ?_)) rfl | exact Wk.nil_ow | exact Wk.ms_ow _ _ _ | exact Wk.ow_ms _ _ _) (by first | exact Wk.refl _ | exact Wk.nil | exact Wk.clip _ | exact Wk.tip _ _ _ | exact Wk.opt _ _ (by first | assumption | rfl) | exact Wk.gr _ _ | exact Wk.nil_gr | exact Wk.trans (Wk.opt _ _ (by first | assumption | rfl)) (by first | exact Wk.gr _ _ | exact Wk.nil | exact Wk.clip _ | exact Wk.tip _ _ _) | exact Wk.aggs (by repeat (first | exact Wks.nil | refine Wks.cons (by first | exact Wk.refl _ | exact Wk.nil | exact Wk.clip _ | exact Wk.tip _ _ _ | exact Wk.gr _ _ | exact Wk.nil_gr | exact Wk.nil_ow | exact Wk.ms_ow _ _ _) ?_)) rfl | exact Wk.nil_ow | exact Wk.ms_ow _ _ _ | exact Wk.ow_ms _ _ _) (by decide) (by decide) (by (simp only [Int.reduceToNat, Int.reducePow]) <;> rfl))
    | ((with_reducible show OpQ _ ⟨_, .binOp .shl _ _ _ _, _, _, _, _⟩ _ _ _); exact OpQ.shl rfl (by first | exact Wk.refl _ | exact Wk.nil | exact Wk.clip _ | exact Wk.tip _ _ _ | exact Wk.opt _ _ (by first | assumption | rfl) | exact Wk.gr _ _ | exact Wk.nil_gr | exact Wk.trans (Wk.opt _ _ (by first | assumption | rfl)) (by first | exact Wk.gr _ _ | exact Wk.nil | exact Wk.clip _ | exact Wk.tip _ _ _) | exact Wk.aggs (by repeat (first | exact Wks.nil | refine Wks.cons (by first | exact Wk.refl _ | exact Wk.nil | exact Wk.clip _ | exact Wk.tip _ _ _ | exact Wk.gr _ _ | exact Wk.nil_gr | exact Wk.nil_ow | exact Wk.ms_ow _ _ _) ?_)) rfl | exact Wk.nil_ow | exact Wk.ms_ow _ _ _ | exact Wk.ow_ms _ _ _) (by first | exact Wk.refl _ | exact Wk.nil | exact Wk.clip _ | exact Wk.tip _ _ _ | exact Wk.opt _ _ (by first | assumption | rfl) | exact Wk.gr _ _ | exact Wk.nil_gr | exact Wk.trans (Wk.opt _ _ (by first | assumption | rfl)) (by first | exact Wk.gr _ _ | exact Wk.nil | exact Wk.clip _ | exact Wk.tip _ _ _) | exact Wk.aggs (by repeat (first | exact Wks.nil | refine Wks.cons (by first | exact Wk.refl _ | exact Wk.nil | exact Wk.clip _ | exact Wk.tip _ _ _ | exact Wk.gr _ _ | exact Wk.nil_gr | exact Wk.nil_ow | exact Wk.ms_ow _ _ _) ?_)) rfl | exact Wk.nil_ow | exact Wk.ms_ow _ _ _ | exact Wk.ow_ms _ _ _) (by decide) (by decide) (by (simp only [Int.reduceToNat, Int.reducePow]) <;> rfl))
    | ((with_reducible show OpQ _ ⟨_, .binOp _ _ _ _ _, _, _, _, _⟩ _ _ _); first | exact OpQ.cmp rfl (by first | exact Wk.refl _ | exact Wk.nil | exact Wk.clip _ | exact Wk.tip _ _ _ | exact Wk.opt _ _ (by first | assumption | rfl) | exact Wk.gr _ _ | exact Wk.nil_gr | exact Wk.trans (Wk.opt _ _ (by first | assumption | rfl)) (by first | exact Wk.gr _ _ | exact Wk.nil | exact Wk.clip _ | exact Wk.tip _ _ _) | exact Wk.aggs (by repeat (first | exact Wks.nil | refine Wks.cons (by first | exact Wk.refl _ | exact Wk.nil | exact Wk.clip _ | exact Wk.tip _ _ _ | exact Wk.gr _ _ | exact Wk.nil_gr | exact Wk.nil_ow | exact Wk.ms_ow _ _ _) ?_)) rfl | exact Wk.nil_ow | exact Wk.ms_ow _ _ _ | exact Wk.ow_ms _ _ _) (by first | exact Wk.refl _ | exact Wk.nil | exact Wk.clip _ | exact Wk.tip _ _ _ | exact Wk.opt _ _ (by first | assumption | rfl) | exact Wk.gr _ _ | exact Wk.nil_gr | exact Wk.trans (Wk.opt _ _ (by first | assumption | rfl)) (by first | exact Wk.gr _ _ | exact Wk.nil | exact Wk.clip _ | exact Wk.tip _ _ _) | exact Wk.aggs (by repeat (first | exact Wks.nil | refine Wks.cons (by first | exact Wk.refl _ | exact Wk.nil | exact Wk.clip _ | exact Wk.tip _ _ _ | exact Wk.gr _ _ | exact Wk.nil_gr | exact Wk.nil_ow | exact Wk.ms_ow _ _ _) ?_)) rfl | exact Wk.nil_ow | exact Wk.ms_ow _ _ _ | exact Wk.ow_ms _ _ _) (by rfl) | exact OpQ.cmps rfl (by first | exact Wk.refl _ | exact Wk.nil | exact Wk.clip _ | exact Wk.tip _ _ _ | exact Wk.opt _ _ (by first | assumption | rfl) | exact Wk.gr _ _ | exact Wk.nil_gr | exact Wk.trans (Wk.opt _ _ (by first | assumption | rfl)) (by first | exact Wk.gr _ _ | exact Wk.nil | exact Wk.clip _ | exact Wk.tip _ _ _) | exact Wk.aggs (by repeat (first | exact Wks.nil | refine Wks.cons (by first | exact Wk.refl _ | exact Wk.nil | exact Wk.clip _ | exact Wk.tip _ _ _ | exact Wk.gr _ _ | exact Wk.nil_gr | exact Wk.nil_ow | exact Wk.ms_ow _ _ _) ?_)) rfl | exact Wk.nil_ow | exact Wk.ms_ow _ _ _ | exact Wk.ow_ms _ _ _) (by first | exact Wk.refl _ | exact Wk.nil | exact Wk.clip _ | exact Wk.tip _ _ _ | exact Wk.opt _ _ (by first | assumption | rfl) | exact Wk.gr _ _ | exact Wk.nil_gr | exact Wk.trans (Wk.opt _ _ (by first | assumption | rfl)) (by first | exact Wk.gr _ _ | exact Wk.nil | exact Wk.clip _ | exact Wk.tip _ _ _) | exact Wk.aggs (by repeat (first | exact Wks.nil | refine Wks.cons (by first | exact Wk.refl _ | exact Wk.nil | exact Wk.clip _ | exact Wk.tip _ _ _ | exact Wk.gr _ _ | exact Wk.nil_gr | exact Wk.nil_ow | exact Wk.ms_ow _ _ _) ?_)) rfl | exact Wk.nil_ow | exact Wk.ms_ow _ _ _ | exact Wk.ow_ms _ _ _) (by rfl) | exact OpQ.eq_bool rfl (by first | exact Wk.refl _ | exact Wk.nil | exact Wk.clip _ | exact Wk.tip _ _ _ | exact Wk.opt _ _ (by first | assumption | rfl) | exact Wk.gr _ _ | exact Wk.nil_gr | exact Wk.trans (Wk.opt _ _ (by first | assumption | rfl)) (by first | exact Wk.gr _ _ | exact Wk.nil | exact Wk.clip _ | exact Wk.tip _ _ _) | exact Wk.aggs (by repeat (first | exact Wks.nil | refine Wks.cons (by first | exact Wk.refl _ | exact Wk.nil | exact Wk.clip _ | exact Wk.tip _ _ _ | exact Wk.gr _ _ | exact Wk.nil_gr | exact Wk.nil_ow | exact Wk.ms_ow _ _ _) ?_)) rfl | exact Wk.nil_ow | exact Wk.ms_ow _ _ _ | exact Wk.ow_ms _ _ _) (by first | exact Wk.refl _ | exact Wk.nil | exact Wk.clip _ | exact Wk.tip _ _ _ | exact Wk.opt _ _ (by first | assumption | rfl) | exact Wk.gr _ _ | exact Wk.nil_gr | exact Wk.trans (Wk.opt _ _ (by first | assumption | rfl)) (by first | exact Wk.gr _ _ | exact Wk.nil | exact Wk.clip _ | exact Wk.tip _ _ _) | exact Wk.aggs (by repeat (first | exact Wks.nil | refine Wks.cons (by first | exact Wk.refl _ | exact Wk.nil | exact Wk.clip _ | exact Wk.tip _ _ _ | exact Wk.gr _ _ | exact Wk.nil_gr | exact Wk.nil_ow | exact Wk.ms_ow _ _ _) ?_)) rfl | exact Wk.nil_ow | exact Wk.ms_ow _ _ _ | exact Wk.ow_ms _ _ _) | exact OpQ.neq_bool rfl (by first | exact Wk.refl _ | exact Wk.nil | exact Wk.clip _ | exact Wk.tip _ _ _ | exact Wk.opt _ _ (by first | assumption | rfl) | exact Wk.gr _ _ | exact Wk.nil_gr | exact Wk.trans (Wk.opt _ _ (by first | assumption | rfl)) (by first | exact Wk.gr _ _ | exact Wk.nil | exact Wk.clip _ | exact Wk.tip _ _ _) | exact Wk.aggs (by repeat (first | exact Wks.nil | refine Wks.cons (by first | exact Wk.refl _ | exact Wk.nil | exact Wk.clip _ | exact Wk.tip _ _ _ | exact Wk.gr _ _ | exact Wk.nil_gr | exact Wk.nil_ow | exact Wk.ms_ow _ _ _) ?_)) rfl | exact Wk.nil_ow | exact Wk.ms_ow _ _ _ | exact Wk.ow_ms _ _ _) (by first | exact Wk.refl _ | exact Wk.nil | exact Wk.clip _ | exact Wk.tip _ _ _ | exact Wk.opt _ _ (by first | assumption | rfl) | exact Wk.gr _ _ | exact Wk.nil_gr | exact Wk.trans (Wk.opt _ _ (by first | assumption | rfl)) (by first | exact Wk.gr _ _ | exact Wk.nil | exact Wk.clip _ | exact Wk.tip _ _ _) | exact Wk.aggs (by repeat (first | exact Wks.nil | refine Wks.cons (by first | exact Wk.refl _ | exact Wk.nil | exact Wk.clip _ | exact Wk.tip _ _ _ | exact Wk.gr _ _ | exact Wk.nil_gr | exact Wk.nil_ow | exact Wk.ms_ow _ _ _) ?_)) rfl | exact Wk.nil_ow | exact Wk.ms_ow _ _ _ | exact Wk.ow_ms _ _ _) | exact OpQ.nil_nil rfl (by first | exact Wk.refl _ | exact Wk.nil | exact Wk.clip _ | exact Wk.tip _ _ _ | exact Wk.opt _ _ (by first | assumption | rfl) | exact Wk.gr _ _ | exact Wk.nil_gr | exact Wk.trans (Wk.opt _ _ (by first | assumption | rfl)) (by first | exact Wk.gr _ _ | exact Wk.nil | exact Wk.clip _ | exact Wk.tip _ _ _) | exact Wk.aggs (by repeat (first | exact Wks.nil | refine Wks.cons (by first | exact Wk.refl _ | exact Wk.nil | exact Wk.clip _ | exact Wk.tip _ _ _ | exact Wk.gr _ _ | exact Wk.nil_gr | exact Wk.nil_ow | exact Wk.ms_ow _ _ _) ?_)) rfl | exact Wk.nil_ow | exact Wk.ms_ow _ _ _ | exact Wk.ow_ms _ _ _) | exact OpQ.nil_not rfl (by first | exact Wk.refl _ | exact Wk.nil | exact Wk.clip _ | exact Wk.tip _ _ _ | exact Wk.opt _ _ (by first | assumption | rfl) | exact Wk.gr _ _ | exact Wk.nil_gr | exact Wk.trans (Wk.opt _ _ (by first | assumption | rfl)) (by first | exact Wk.gr _ _ | exact Wk.nil | exact Wk.clip _ | exact Wk.tip _ _ _) | exact Wk.aggs (by repeat (first | exact Wks.nil | refine Wks.cons (by first | exact Wk.refl _ | exact Wk.nil | exact Wk.clip _ | exact Wk.tip _ _ _ | exact Wk.gr _ _ | exact Wk.nil_gr | exact Wk.nil_ow | exact Wk.ms_ow _ _ _) ?_)) rfl | exact Wk.nil_ow | exact Wk.ms_ow _ _ _ | exact Wk.ow_ms _ _ _))
    | ((with_reducible show OpQ _ ⟨_, .indexAddr _ _ _, _, _, _, _⟩ _ _ _); first | exact OpQ.idx_map rfl (by first | exact Wk.refl _ | exact Wk.nil | exact Wk.clip _ | exact Wk.tip _ _ _ | exact Wk.opt _ _ (by first | assumption | rfl) | exact Wk.gr _ _ | exact Wk.nil_gr | exact Wk.trans (Wk.opt _ _ (by first | assumption | rfl)) (by first | exact Wk.gr _ _ | exact Wk.nil | exact Wk.clip _ | exact Wk.tip _ _ _) | exact Wk.aggs (by repeat (first | exact Wks.nil | refine Wks.cons (by first | exact Wk.refl _ | exact Wk.nil | exact Wk.clip _ | exact Wk.tip _ _ _ | exact Wk.gr _ _ | exact Wk.nil_gr | exact Wk.nil_ow | exact Wk.ms_ow _ _ _) ?_)) rfl | exact Wk.nil_ow | exact Wk.ms_ow _ _ _ | exact Wk.ow_ms _ _ _) (by first | exact Wk.refl _ | exact Wk.nil | exact Wk.clip _ | exact Wk.tip _ _ _ | exact Wk.opt _ _ (by first | assumption | rfl) | exact Wk.gr _ _ | exact Wk.nil_gr | exact Wk.trans (Wk.opt _ _ (by first | assumption | rfl)) (by first | exact Wk.gr _ _ | exact Wk.nil | exact Wk.clip _ | exact Wk.tip _ _ _) | exact Wk.aggs (by repeat (first | exact Wks.nil | refine Wks.cons (by first | exact Wk.refl _ | exact Wk.nil | exact Wk.clip _ | exact Wk.tip _ _ _ | exact Wk.gr _ _ | exact Wk.nil_gr | exact Wk.nil_ow | exact Wk.ms_ow _ _ _) ?_)) rfl | exact Wk.nil_ow | exact Wk.ms_ow _ _ _ | exact Wk.ow_ms _ _ _) (by first | assumption | decide) (by first | assumption | rfl) (by rfl) | exact OpQ.idx_sl rfl (by first | exact Wk.refl _ | exact Wk.nil | exact Wk.clip _ | exact Wk.tip _ _ _ | exact Wk.opt _ _ (by first | assumption | rfl) | exact Wk.gr _ _ | exact Wk.nil_gr | exact Wk.trans (Wk.opt _ _ (by first | assumption | rfl)) (by first | exact Wk.gr _ _ | exact Wk.nil | exact Wk.clip _ | exact Wk.tip _ _ _) | exact Wk.aggs (by repeat (first | exact Wks.nil | refine Wks.cons (by first | exact Wk.refl _ | exact Wk.nil | exact Wk.clip _ | exact Wk.tip _ _ _ | exact Wk.gr _ _ | exact Wk.nil_gr | exact Wk.nil_ow | exact Wk.ms_ow _ _ _) ?_)) rfl | exact Wk.nil_ow | exact Wk.ms_ow _ _ _ | exact Wk.ow_ms _ _ _) (by first | exact Wk.refl _ | exact Wk.nil | exact Wk.clip _ | exact Wk.tip _ _ _ | exact Wk.opt _ _ (by first | assumption | rfl) | exact Wk.gr _ _ | exact Wk.nil_gr | exact Wk.trans (Wk.opt _ _ (by first | assumption | rfl)) (by first | exact Wk.gr _ _ | exact Wk.nil | exact Wk.clip _ | exact Wk.tip _ _ _) | exact Wk.aggs (by repeat (first | exact Wks.nil | refine Wks.cons (by first | exact Wk.refl _ | exact Wk.nil | exact Wk.clip _ | exact Wk.tip _ _ _ | exact Wk.gr _ _ | exact Wk.nil_gr | exact Wk.nil_ow | exact Wk.ms_ow _ _ _) ?_)) rfl | exact Wk.nil_ow | exact Wk.ms_ow _ _ _ | exact Wk.ow_ms _ _ _) (by omega) (by first | assumption | rfl) (by first | assumption | rfl) | exact OpQ.idx_rows rfl (by first | exact Wk.refl _ | exact Wk.nil | exact Wk.clip _ | exact Wk.tip _ _ _ | exact Wk.opt _ _ (by first | assumption | rfl) | exact Wk.gr _ _ | exact Wk.nil_gr | exact Wk.trans (Wk.opt _ _ (by first | assumption | rfl)) (by first | exact Wk.gr _ _ | exact Wk.nil | exact Wk.clip _ | exact Wk.tip _ _ _) | exact Wk.aggs (by repeat (first | exact Wks.nil | refine Wks.cons (by first | exact Wk.refl _ | exact Wk.nil | exact Wk.clip _ | exact Wk.tip _ _ _ | exact Wk.gr _ _ | exact Wk.nil_gr | exact Wk.nil_ow | exact Wk.ms_ow _ _ _) ?_)) rfl | exact Wk.nil_ow | exact Wk.ms_ow _ _ _ | exact Wk.ow_ms _ _ _) (by first | exact Wk.refl _ | exact Wk.nil | exact Wk.clip _ | exact Wk.tip _ _ _ | exact Wk.opt _ _ (by first | assumption | rfl) | exact Wk.gr _ _ | exact Wk.nil_gr | exact Wk.trans (Wk.opt _ _ (by first | assumption | rfl)) (by first | exact Wk.gr _ _ | exact Wk.nil | exact Wk.clip _ | exact Wk.tip _ _ _) | exact Wk.aggs (by repeat (first | exact Wks.nil | refine Wks.cons (by first | exact Wk.refl _ | exact Wk.nil | exact Wk.clip _ | exact Wk.tip _ _ _ | exact Wk.gr _ _ | exact Wk.nil_gr | exact Wk.nil_ow | exact Wk.ms_ow _ _ _) ?_)) rfl | exact Wk.nil_ow | exact Wk.ms_ow _ _ _ | exact Wk.ow_ms _ _ _) (by first | assumption | decide) (by first | ((simp only [Nat.zero_add, Nat.add_zero, Nat.reduceAdd, Nat.reduceMul, Int.toNat_natCast]) <;> rfl) | rfl) | exact OpQ.idx_ep rfl (by first | exact Wk.refl _ | exact Wk.nil | exact Wk.clip _ | exact Wk.tip _ _ _ | exact Wk.opt _ _ (by first | assumption | rfl) | exact Wk.gr _ _ | exact Wk.nil_gr | exact Wk.trans (Wk.opt _ _ (by first | assumption | rfl)) (by first | exact Wk.gr _ _ | exact Wk.nil | exact Wk.clip _ | exact Wk.tip _ _ _) | exact Wk.aggs (by repeat (first | exact Wks.nil | refine Wks.cons (by first | exact Wk.refl _ | exact Wk.nil | exact Wk.clip _ | exact Wk.tip _ _ _ | exact Wk.gr _ _ | exact Wk.nil_gr | exact Wk.nil_ow | exact Wk.ms_ow _ _ _) ?_)) rfl | exact Wk.nil_ow | exact Wk.ms_ow _ _ _ | exact Wk.ow_ms _ _ _) (by first | exact Wk.refl _ | exact Wk.nil | exact Wk.clip _ | exact Wk.tip _ _ _ | exact Wk.opt _ _ (by first | assumption | rfl) | exact Wk.gr _ _ | exact Wk.nil_gr | exact Wk.trans (Wk.opt _ _ (by first | assumption | rfl)) (by first | exact Wk.gr _ _ | exact Wk.nil | exact Wk.clip _ | exact Wk.tip _ _ _) | exact Wk.aggs (by repeat (first | exact Wks.nil | refine Wks.cons (by first | exact Wk.refl _ | exact Wk.nil | exact Wk.clip _ | exact Wk.tip _ _ _ | exact Wk.gr _ _ | exact Wk.nil_gr | exact Wk.nil_ow | exact Wk.ms_ow _ _ _) ?_)) rfl | exact Wk.nil_ow | exact Wk.ms_ow _ _ _ | exact Wk.ow_ms _ _ _) (by omega))
    | ((with_reducible show OpQ _ ⟨_, .call ⟨.builtin .len, _, _⟩, _, _, _, _⟩ _ _ _); first | exact OpQ.len_map rfl (by first | exact Wk.refl _ | exact Wk.nil | exact Wk.clip _ | exact Wk.tip _ _ _ | exact Wk.opt _ _ (by first | assumption | rfl) | exact Wk.gr _ _ | exact Wk.nil_gr | exact Wk.trans (Wk.opt _ _ (by first | assumption | rfl)) (by first | exact Wk.gr _ _ | exact Wk.nil | exact Wk.clip _ | exact Wk.tip _ _ _) | exact Wk.aggs (by repeat (first | exact Wks.nil | refine Wks.cons (by first | exact Wk.refl _ | exact Wk.nil | exact Wk.clip _ | exact Wk.tip _ _ _ | exact Wk.gr _ _ | exact Wk.nil_gr | exact Wk.nil_ow | exact Wk.ms_ow _ _ _) ?_)) rfl | exact Wk.nil_ow | exact Wk.ms_ow _ _ _ | exact Wk.ow_ms _ _ _) | exact OpQ.len_sl rfl (by first | exact Wk.refl _ | exact Wk.nil | exact Wk.clip _ | exact Wk.tip _ _ _ | exact Wk.opt _ _ (by first | assumption | rfl) | exact Wk.gr _ _ | exact Wk.nil_gr | exact Wk.trans (Wk.opt _ _ (by first | assumption | rfl)) (by first | exact Wk.gr _ _ | exact Wk.nil | exact Wk.clip _ | exact Wk.tip _ _ _) | exact Wk.aggs (by repeat (first | exact Wks.nil | refine Wks.cons (by first | exact Wk.refl _ | exact Wk.nil | exact Wk.clip _ | exact Wk.tip _ _ _ | exact Wk.gr _ _ | exact Wk.nil_gr | exact Wk.nil_ow | exact Wk.ms_ow _ _ _) ?_)) rfl | exact Wk.nil_ow | exact Wk.ms_ow _ _ _ | exact Wk.ow_ms _ _ _) | exact OpQ.len_str rfl (by first | exact Wk.refl _ | exact Wk.nil | exact Wk.clip _ | exact Wk.tip _ _ _ | exact Wk.opt _ _ (by first | assumption | rfl) | exact Wk.gr _ _ | exact Wk.nil_gr | exact Wk.trans (Wk.opt _ _ (by first | assumption | rfl)) (by first | exact Wk.gr _ _ | exact Wk.nil | exact Wk.clip _ | exact Wk.tip _ _ _) | exact Wk.aggs (by repeat (first | exact Wks.nil | refine Wks.cons (by first | exact Wk.refl _ | exact Wk.nil | exact Wk.clip _ | exact Wk.tip _ _ _ | exact Wk.gr _ _ | exact Wk.nil_gr | exact Wk.nil_ow | exact Wk.ms_ow _ _ _) ?_)) rfl | exact Wk.nil_ow | exact Wk.ms_ow _ _ _ | exact Wk.ow_ms _ _ _) | exact OpQ.len_ms rfl (by first | exact Wk.refl _ | exact Wk.nil | exact Wk.clip _ | exact Wk.tip _ _ _ | exact Wk.opt _ _ (by first | assumption | rfl) | exact Wk.gr _ _ | exact Wk.nil_gr | exact Wk.trans (Wk.opt _ _ (by first | assumption | rfl)) (by first | exact Wk.gr _ _ | exact Wk.nil | exact Wk.clip _ | exact Wk.tip _ _ _) | exact Wk.aggs (by repeat (first | exact Wks.nil | refine Wks.cons (by first | exact Wk.refl _ | exact Wk.nil | exact Wk.clip _ | exact Wk.tip _ _ _ | exact Wk.gr _ _ | exact Wk.nil_gr | exact Wk.nil_ow | exact Wk.ms_ow _ _ _) ?_)) rfl | exact Wk.nil_ow | exact Wk.ms_ow _ _ _ | exact Wk.ow_ms _ _ _))
    | ((with_reducible show OpQ _ ⟨_, .call ⟨.builtin .append, _, _⟩, _, _, _, _⟩ _ _ _); exact OpQ.app_zero rfl (by (conv => lhs; whnf) <;> rfl) (by first | exact .clip _ | exact .nil | exact .tip _ _ _) (by first | exact Wk.refl _ | exact Wk.nil | exact Wk.clip _ | exact Wk.tip _ _ _ | exact Wk.opt _ _ (by first | assumption | rfl) | exact Wk.gr _ _ | exact Wk.nil_gr | exact Wk.trans (Wk.opt _ _ (by first | assumption | rfl)) (by first | exact Wk.gr _ _ | exact Wk.nil | exact Wk.clip _ | exact Wk.tip _ _ _) | exact Wk.aggs (by repeat (first | exact Wks.nil | refine Wks.cons (by first | exact Wk.refl _ | exact Wk.nil | exact Wk.clip _ | exact Wk.tip _ _ _ | exact Wk.gr _ _ | exact Wk.nil_gr | exact Wk.nil_ow | exact Wk.ms_ow _ _ _) ?_)) rfl | exact Wk.nil_ow | exact Wk.ms_ow _ _ _ | exact Wk.ow_ms _ _ _))
    | ((with_reducible show OpQ _ ⟨_, .call ⟨.builtin .cap, _, _⟩, _, _, _, _⟩ _ _ _); exact OpQ.cap_ms rfl (by first | exact Wk.refl _ | exact Wk.nil | exact Wk.clip _ | exact Wk.tip _ _ _ | exact Wk.opt _ _ (by first | assumption | rfl) | exact Wk.gr _ _ | exact Wk.nil_gr | exact Wk.trans (Wk.opt _ _ (by first | assumption | rfl)) (by first | exact Wk.gr _ _ | exact Wk.nil | exact Wk.clip _ | exact Wk.tip _ _ _) | exact Wk.aggs (by repeat (first | exact Wks.nil | refine Wks.cons (by first | exact Wk.refl _ | exact Wk.nil | exact Wk.clip _ | exact Wk.tip _ _ _ | exact Wk.gr _ _ | exact Wk.nil_gr | exact Wk.nil_ow | exact Wk.ms_ow _ _ _) ?_)) rfl | exact Wk.nil_ow | exact Wk.ms_ow _ _ _ | exact Wk.ow_ms _ _ _))
    | ((with_reducible show OpQ _ ⟨_, .call ⟨.builtin .max, _, _⟩, _, _, _, _⟩ _ _ _); exact OpQ.maxI rfl (by first | exact Wk.refl _ | exact Wk.nil | exact Wk.clip _ | exact Wk.tip _ _ _ | exact Wk.opt _ _ (by first | assumption | rfl) | exact Wk.gr _ _ | exact Wk.nil_gr | exact Wk.trans (Wk.opt _ _ (by first | assumption | rfl)) (by first | exact Wk.gr _ _ | exact Wk.nil | exact Wk.clip _ | exact Wk.tip _ _ _) | exact Wk.aggs (by repeat (first | exact Wks.nil | refine Wks.cons (by first | exact Wk.refl _ | exact Wk.nil | exact Wk.clip _ | exact Wk.tip _ _ _ | exact Wk.gr _ _ | exact Wk.nil_gr | exact Wk.nil_ow | exact Wk.ms_ow _ _ _) ?_)) rfl | exact Wk.nil_ow | exact Wk.ms_ow _ _ _ | exact Wk.ow_ms _ _ _) (by first | exact Wk.refl _ | exact Wk.nil | exact Wk.clip _ | exact Wk.tip _ _ _ | exact Wk.opt _ _ (by first | assumption | rfl) | exact Wk.gr _ _ | exact Wk.nil_gr | exact Wk.trans (Wk.opt _ _ (by first | assumption | rfl)) (by first | exact Wk.gr _ _ | exact Wk.nil | exact Wk.clip _ | exact Wk.tip _ _ _) | exact Wk.aggs (by repeat (first | exact Wks.nil | refine Wks.cons (by first | exact Wk.refl _ | exact Wk.nil | exact Wk.clip _ | exact Wk.tip _ _ _ | exact Wk.gr _ _ | exact Wk.nil_gr | exact Wk.nil_ow | exact Wk.ms_ow _ _ _) ?_)) rfl | exact Wk.nil_ow | exact Wk.ms_ow _ _ _ | exact Wk.ow_ms _ _ _))
    | ((with_reducible show OpQ _ ⟨_, .call ⟨.builtin .min, _, _⟩, _, _, _, _⟩ _ _ _); exact OpQ.minI rfl (by first | exact Wk.refl _ | exact Wk.nil | exact Wk.clip _ | exact Wk.tip _ _ _ | exact Wk.opt _ _ (by first | assumption | rfl) | exact Wk.gr _ _ | exact Wk.nil_gr | exact Wk.trans (Wk.opt _ _ (by first | assumption | rfl)) (by first | exact Wk.gr _ _ | exact Wk.nil | exact Wk.clip _ | exact Wk.tip _ _ _) | exact Wk.aggs (by repeat (first | exact Wks.nil | refine Wks.cons (by first | exact Wk.refl _ | exact Wk.nil | exact Wk.clip _ | exact Wk.tip _ _ _ | exact Wk.gr _ _ | exact Wk.nil_gr | exact Wk.nil_ow | exact Wk.ms_ow _ _ _) ?_)) rfl | exact Wk.nil_ow | exact Wk.ms_ow _ _ _ | exact Wk.ow_ms _ _ _) (by first | exact Wk.refl _ | exact Wk.nil | exact Wk.clip _ | exact Wk.tip _ _ _ | exact Wk.opt _ _ (by first | assumption | rfl) | exact Wk.gr _ _ | exact Wk.nil_gr | exact Wk.trans (Wk.opt _ _ (by first | assumption | rfl)) (by first | exact Wk.gr _ _ | exact Wk.nil | exact Wk.clip _ | exact Wk.tip _ _ _) | exact Wk.aggs (by repeat (first | exact Wks.nil | refine Wks.cons (by first | exact Wk.refl _ | exact Wk.nil | exact Wk.clip _ | exact Wk.tip _ _ _ | exact Wk.gr _ _ | exact Wk.nil_gr | exact Wk.nil_ow | exact Wk.ms_ow _ _ _) ?_)) rfl | exact Wk.nil_ow | exact Wk.ms_ow _ _ _ | exact Wk.ow_ms _ _ _))
    | ((with_reducible show OpQ _ ⟨_, .unOp .not _ _, _, _, _, _⟩ _ _ _); exact OpQ.not rfl (by first | exact Wk.refl _ | exact Wk.nil | exact Wk.clip _ | exact Wk.tip _ _ _ | exact Wk.opt _ _ (by first | assumption | rfl) | exact Wk.gr _ _ | exact Wk.nil_gr | exact Wk.trans (Wk.opt _ _ (by first | assumption | rfl)) (by first | exact Wk.gr _ _ | exact Wk.nil | exact Wk.clip _ | exact Wk.tip _ _ _) | exact Wk.aggs (by repeat (first | exact Wks.nil | refine Wks.cons (by first | exact Wk.refl _ | exact Wk.nil | exact Wk.clip _ | exact Wk.tip _ _ _ | exact Wk.gr _ _ | exact Wk.nil_gr | exact Wk.nil_ow | exact Wk.ms_ow _ _ _) ?_)) rfl | exact Wk.nil_ow | exact Wk.ms_ow _ _ _ | exact Wk.ow_ms _ _ _))
    | ((with_reducible show OpQ _ ⟨_, .unOp .neg _ _, _, _, _, _⟩ _ _ _); exact OpQ.neg rfl (by first | exact Wk.refl _ | exact Wk.nil | exact Wk.clip _ | exact Wk.tip _ _ _ | exact Wk.opt _ _ (by first | assumption | rfl) | exact Wk.gr _ _ | exact Wk.nil_gr | exact Wk.trans (Wk.opt _ _ (by first | assumption | rfl)) (by first | exact Wk.gr _ _ | exact Wk.nil | exact Wk.clip _ | exact Wk.tip _ _ _) | exact Wk.aggs (by repeat (first | exact Wks.nil | refine Wks.cons (by first | exact Wk.refl _ | exact Wk.nil | exact Wk.clip _ | exact Wk.tip _ _ _ | exact Wk.gr _ _ | exact Wk.nil_gr | exact Wk.nil_ow | exact Wk.ms_ow _ _ _) ?_)) rfl | exact Wk.nil_ow | exact Wk.ms_ow _ _ _ | exact Wk.ow_ms _ _ _) (by first | assumption | decide))
    | ((with_reducible show OpQ _ ⟨_, .nilCheck _, _, _, _, _⟩ _ _ _); first | exact OpQ.nilCheck_ptr rfl (by first | exact Wk.refl _ | exact Wk.nil | exact Wk.clip _ | exact Wk.tip _ _ _ | exact Wk.opt _ _ (by first | assumption | rfl) | exact Wk.gr _ _ | exact Wk.nil_gr | exact Wk.trans (Wk.opt _ _ (by first | assumption | rfl)) (by first | exact Wk.gr _ _ | exact Wk.nil | exact Wk.clip _ | exact Wk.tip _ _ _) | exact Wk.aggs (by repeat (first | exact Wks.nil | refine Wks.cons (by first | exact Wk.refl _ | exact Wk.nil | exact Wk.clip _ | exact Wk.tip _ _ _ | exact Wk.gr _ _ | exact Wk.nil_gr | exact Wk.nil_ow | exact Wk.ms_ow _ _ _) ?_)) rfl | exact Wk.nil_ow | exact Wk.ms_ow _ _ _ | exact Wk.ow_ms _ _ _) | exact OpQ.nilCheck_ep rfl (by first | exact Wk.refl _ | exact Wk.nil | exact Wk.clip _ | exact Wk.tip _ _ _ | exact Wk.opt _ _ (by first | assumption | rfl) | exact Wk.gr _ _ | exact Wk.nil_gr | exact Wk.trans (Wk.opt _ _ (by first | assumption | rfl)) (by first | exact Wk.gr _ _ | exact Wk.nil | exact Wk.clip _ | exact Wk.tip _ _ _) | exact Wk.aggs (by repeat (first | exact Wks.nil | refine Wks.cons (by first | exact Wk.refl _ | exact Wk.nil | exact Wk.clip _ | exact Wk.tip _ _ _ | exact Wk.gr _ _ | exact Wk.nil_gr | exact Wk.nil_ow | exact Wk.ms_ow _ _ _) ?_)) rfl | exact Wk.nil_ow | exact Wk.ms_ow _ _ _ | exact Wk.ow_ms _ _ _) | exact OpQ.nilCheck_fn rfl (by first | exact Wk.refl _ | exact Wk.nil | exact Wk.clip _ | exact Wk.tip _ _ _ | exact Wk.opt _ _ (by first | assumption | rfl) | exact Wk.gr _ _ | exact Wk.nil_gr | exact Wk.trans (Wk.opt _ _ (by first | assumption | rfl)) (by first | exact Wk.gr _ _ | exact Wk.nil | exact Wk.clip _ | exact Wk.tip _ _ _) | exact Wk.aggs (by repeat (first | exact Wks.nil | refine Wks.cons (by first | exact Wk.refl _ | exact Wk.nil | exact Wk.clip _ | exact Wk.tip _ _ _ | exact Wk.gr _ _ | exact Wk.nil_gr | exact Wk.nil_ow | exact Wk.ms_ow _ _ _) ?_)) rfl | exact Wk.nil_ow | exact Wk.ms_ow _ _ _ | exact Wk.ow_ms _ _ _))
    | ((with_reducible show OpQ _ ⟨_, .makeFunc _ _ _, _, _, _, _⟩ _ _ _); exact OpQ.makeFunc rfl (by rfl) (by rfl))
    | ((with_reducible show OpQ _ ⟨_, .index _ _ _, _, _, _, _⟩ _ _ _); exact OpQ.idx_str rfl (by first | exact Wk.refl _ | exact Wk.nil | exact Wk.clip _ | exact Wk.tip _ _ _ | exact Wk.opt _ _ (by first | assumption | rfl) | exact Wk.gr _ _ | exact Wk.nil_gr | exact Wk.trans (Wk.opt _ _ (by first | assumption | rfl)) (by first | exact Wk.gr _ _ | exact Wk.nil | exact Wk.clip _ | exact Wk.tip _ _ _) | exact Wk.aggs (by repeat (first | exact Wks.nil | refine Wks.cons (by first | exact Wk.refl _ | exact Wk.nil | exact Wk.clip _ | exact Wk.tip _ _ _ | exact Wk.gr _ _ | exact Wk.nil_gr | exact Wk.nil_ow | exact Wk.ms_ow _ _ _) ?_)) rfl | exact Wk.nil_ow | exact Wk.ms_ow _ _ _ | exact Wk.ow_ms _ _ _) (by first | exact Wk.refl _ | exact Wk.nil | exact Wk.clip _ | exact Wk.tip _ _ _ | exact Wk.opt _ _ (by first | assumption | rfl) | exact Wk.gr _ _ | exact Wk.nil_gr | exact Wk.trans (Wk.opt _ _ (by first | assumption | rfl)) (by first | exact Wk.gr _ _ | exact Wk.nil | exact Wk.clip _ | exact Wk.tip _ _ _) | exact Wk.aggs (by repeat (first | exact Wks.nil | refine Wks.cons (by first | exact Wk.refl _ | exact Wk.nil | exact Wk.clip _ | exact Wk.tip _ _ _ | exact Wk.gr _ _ | exact Wk.nil_gr | exact Wk.nil_ow | exact Wk.ms_ow _ _ _) ?_)) rfl | exact Wk.nil_ow | exact Wk.ms_ow _ _ _ | exact Wk.ow_ms _ _ _) (by omega) (by assumption))
    | ((with_reducible show OpQ _ ⟨_, .field _ _ _, _, _, _, _⟩ _ _ _); first | exact OpQ.field_one rfl (by first | exact Wk.refl _ | exact Wk.nil | exact Wk.clip _ | exact Wk.tip _ _ _ | exact Wk.opt _ _ (by first | assumption | rfl) | exact Wk.gr _ _ | exact Wk.nil_gr | exact Wk.trans (Wk.opt _ _ (by first | assumption | rfl)) (by first | exact Wk.gr _ _ | exact Wk.nil | exact Wk.clip _ | exact Wk.tip _ _ _) | exact Wk.aggs (by repeat (first | exact Wks.nil | refine Wks.cons (by first | exact Wk.refl _ | exact Wk.nil | exact Wk.clip _ | exact Wk.tip _ _ _ | exact Wk.gr _ _ | exact Wk.nil_gr | exact Wk.nil_ow | exact Wk.ms_ow _ _ _) ?_)) rfl | exact Wk.nil_ow | exact Wk.ms_ow _ _ _ | exact Wk.ow_ms _ _ _) (by rfl) (by kernel_rfl) (by (conv => lhs; whnf) <;> rfl) (by rfl) | exact OpQ.field_row rfl (by first | exact Wk.refl _ | exact Wk.nil | exact Wk.clip _ | exact Wk.tip _ _ _ | exact Wk.opt _ _ (by first | assumption | rfl) | exact Wk.gr _ _ | exact Wk.nil_gr | exact Wk.trans (Wk.opt _ _ (by first | assumption | rfl)) (by first | exact Wk.gr _ _ | exact Wk.nil | exact Wk.clip _ | exact Wk.tip _ _ _) | exact Wk.aggs (by repeat (first | exact Wks.nil | refine Wks.cons (by first | exact Wk.refl _ | exact Wk.nil | exact Wk.clip _ | exact Wk.tip _ _ _ | exact Wk.gr _ _ | exact Wk.nil_gr | exact Wk.nil_ow | exact Wk.ms_ow _ _ _) ?_)) rfl | exact Wk.nil_ow | exact Wk.ms_ow _ _ _ | exact Wk.ow_ms _ _ _) (by rfl) (by kernel_rfl) (by kernel_rfl) (by (conv => lhs; whnf) <;> rfl) (by (conv => lhs; whnf) <;> rfl) (by first | rfl | (simp; done) | (simp only [List.length_map]; omega) | (simp; omega) | omega) (by first | ((simp only [List.drop_succ_cons, List.drop_zero, List.take_succ_cons, List.take_zero]) <;> rfl) | rfl))
    | ((with_reducible show OpQ _ ⟨_, .slice _ _ _ _ _, _, _, _, _⟩ _ _ _); first | exact OpQ.front_ms rfl (by first | exact Wk.refl _ | exact Wk.nil | exact Wk.clip _ | exact Wk.tip _ _ _ | exact Wk.opt _ _ (by first | assumption | rfl) | exact Wk.gr _ _ | exact Wk.nil_gr | exact Wk.trans (Wk.opt _ _ (by first | assumption | rfl)) (by first | exact Wk.gr _ _ | exact Wk.nil | exact Wk.clip _ | exact Wk.tip _ _ _) | exact Wk.aggs (by repeat (first | exact Wks.nil | refine Wks.cons (by first | exact Wk.refl _ | exact Wk.nil | exact Wk.clip _ | exact Wk.tip _ _ _ | exact Wk.gr _ _ | exact Wk.nil_gr | exact Wk.nil_ow | exact Wk.ms_ow _ _ _) ?_)) rfl | exact Wk.nil_ow | exact Wk.ms_ow _ _ _ | exact Wk.ow_ms _ _ _) (by first | exact Bnd.none _ | exact Bnd.some (by first | exact Wk.refl _ | exact Wk.nil | exact Wk.clip _ | exact Wk.tip _ _ _ | exact Wk.opt _ _ (by first | assumption | rfl) | exact Wk.gr _ _ | exact Wk.nil_gr | exact Wk.trans (Wk.opt _ _ (by first | assumption | rfl)) (by first | exact Wk.gr _ _ | exact Wk.nil | exact Wk.clip _ | exact Wk.tip _ _ _) | exact Wk.aggs (by repeat (first | exact Wks.nil | refine Wks.cons (by first | exact Wk.refl _ | exact Wk.nil | exact Wk.clip _ | exact Wk.tip _ _ _ | exact Wk.gr _ _ | exact Wk.nil_gr | exact Wk.nil_ow | exact Wk.ms_ow _ _ _) ?_)) rfl | exact Wk.nil_ow | exact Wk.ms_ow _ _ _ | exact Wk.ow_ms _ _ _) (by omega) (by first | ((simp only [Nat.zero_add, Nat.add_zero, Nat.reduceAdd, Nat.reduceMul, Int.toNat_natCast]) <;> rfl) | rfl)) (by first | exact Bnd.none _ | exact Bnd.some (by first | exact Wk.refl _ | exact Wk.nil | exact Wk.clip _ | exact Wk.tip _ _ _ | exact Wk.opt _ _ (by first | assumption | rfl) | exact Wk.gr _ _ | exact Wk.nil_gr | exact Wk.trans (Wk.opt _ _ (by first | assumption | rfl)) (by first | exact Wk.gr _ _ | exact Wk.nil | exact Wk.clip _ | exact Wk.tip _ _ _) | exact Wk.aggs (by repeat (first | exact Wks.nil | refine Wks.cons (by first | exact Wk.refl _ | exact Wk.nil | exact Wk.clip _ | exact Wk.tip _ _ _ | exact Wk.gr _ _ | exact Wk.nil_gr | exact Wk.nil_ow | exact Wk.ms_ow _ _ _) ?_)) rfl | exact Wk.nil_ow | exact Wk.ms_ow _ _ _ | exact Wk.ow_ms _ _ _) (by omega) (by first | ((simp only [Nat.zero_add, Nat.add_zero, Nat.reduceAdd, Nat.reduceMul, Int.toNat_natCast]) <;> rfl) | rfl)) (by first | exact .inl rfl | exact .inr (Option.some_ne_none _)) (by omega) (by omega) | exact OpQ.part_ms rfl (by first | exact Wk.refl _ | exact Wk.nil | exact Wk.clip _ | exact Wk.tip _ _ _ | exact Wk.opt _ _ (by first | assumption | rfl) | exact Wk.gr _ _ | exact Wk.nil_gr | exact Wk.trans (Wk.opt _ _ (by first | assumption | rfl)) (by first | exact Wk.gr _ _ | exact Wk.nil | exact Wk.clip _ | exact Wk.tip _ _ _) | exact Wk.aggs (by repeat (first | exact Wks.nil | refine Wks.cons (by first | exact Wk.refl _ | exact Wk.nil | exact Wk.clip _ | exact Wk.tip _ _ _ | exact Wk.gr _ _ | exact Wk.nil_gr | exact Wk.nil_ow | exact Wk.ms_ow _ _ _) ?_)) rfl | exact Wk.nil_ow | exact Wk.ms_ow _ _ _ | exact Wk.ow_ms _ _ _) (by first | exact Bnd.none _ | exact Bnd.some (by first | exact Wk.refl _ | exact Wk.nil | exact Wk.clip _ | exact Wk.tip _ _ _ | exact Wk.opt _ _ (by first | assumption | rfl) | exact Wk.gr _ _ | exact Wk.nil_gr | exact Wk.trans (Wk.opt _ _ (by first | assumption | rfl)) (by first | exact Wk.gr _ _ | exact Wk.nil | exact Wk.clip _ | exact Wk.tip _ _ _) | exact Wk.aggs (by repeat (first | exact Wks.nil | refine Wks.cons (by first | exact Wk.refl _ | exact Wk.nil | exact Wk.clip _ | exact Wk.tip _ _ _ | exact Wk.gr _ _ | exact Wk.nil_gr | exact Wk.nil_ow | exact Wk.ms_ow _ _ _) ?_)) rfl | exact Wk.nil_ow | exact Wk.ms_ow _ _ _ | exact Wk.ow_ms _ _ _) (by omega) (by first | ((simp only [Nat.zero_add, Nat.add_zero, Nat.reduceAdd, Nat.reduceMul, Int.toNat_natCast]) <;> rfl) | rfl)) (by first | exact Bnd.none _ | exact Bnd.some (by first | exact Wk.refl _ | exact Wk.nil | exact Wk.clip _ | exact Wk.tip _ _ _ | exact Wk.opt _ _ (by first | assumption | rfl) | exact Wk.gr _ _ | exact Wk.nil_gr | exact Wk.trans (Wk.opt _ _ (by first | assumption | rfl)) (by first | exact Wk.gr _ _ | exact Wk.nil | exact Wk.clip _ | exact Wk.tip _ _ _) | exact Wk.aggs (by repeat (first | exact Wks.nil | refine Wks.cons (by first | exact Wk.refl _ | exact Wk.nil | exact Wk.clip _ | exact Wk.tip _ _ _ | exact Wk.gr _ _ | exact Wk.nil_gr | exact Wk.nil_ow | exact Wk.ms_ow _ _ _) ?_)) rfl | exact Wk.nil_ow | exact Wk.ms_ow _ _ _ | exact Wk.ow_ms _ _ _) (by omega) (by first | ((simp only [Nat.zero_add, Nat.add_zero, Nat.reduceAdd, Nat.reduceMul, Int.toNat_natCast]) <;> rfl) | rfl)) (by first | exact Bnd.none _ | exact Bnd.some (by first | exact Wk.refl _ | exact Wk.nil | exact Wk.clip _ | exact Wk.tip _ _ _ | exact Wk.opt _ _ (by first | assumption | rfl) | exact Wk.gr _ _ | exact Wk.nil_gr | exact Wk.trans (Wk.opt _ _ (by first | assumption | rfl)) (by first | exact Wk.gr _ _ | exact Wk.nil | exact Wk.clip _ | exact Wk.tip _ _ _) | exact Wk.aggs (by repeat (first | exact Wks.nil | refine Wks.cons (by first | exact Wk.refl _ | exact Wk.nil | exact Wk.clip _ | exact Wk.tip _ _ _ | exact Wk.gr _ _ | exact Wk.nil_gr | exact Wk.nil_ow | exact Wk.ms_ow _ _ _) ?_)) rfl | exact Wk.nil_ow | exact Wk.ms_ow _ _ _ | exact Wk.ow_ms _ _ _) (by omega) (by first | ((simp only [Nat.zero_add, Nat.add_zero, Nat.reduceAdd, Nat.reduceMul, Int.toNat_natCast]) <;> rfl) | rfl)) (by first | exact .inl rfl | exact .inr (Option.some_ne_none _)) (by omega) (by omega) (by omega) (by omega) (by first | ((simp only [Nat.zero_add, Nat.add_zero, Nat.reduceAdd, Nat.reduceMul, Int.toNat_natCast]) <;> rfl) | rfl) | exact OpQ.part_nothing rfl (by first | exact Wk.refl _ | exact Wk.nil | exact Wk.clip _ | exact Wk.tip _ _ _ | exact Wk.opt _ _ (by first | assumption | rfl) | exact Wk.gr _ _ | exact Wk.nil_gr | exact Wk.trans (Wk.opt _ _ (by first | assumption | rfl)) (by first | exact Wk.gr _ _ | exact Wk.nil | exact Wk.clip _ | exact Wk.tip _ _ _) | exact Wk.aggs (by repeat (first | exact Wks.nil | refine Wks.cons (by first | exact Wk.refl _ | exact Wk.nil | exact Wk.clip _ | exact Wk.tip _ _ _ | exact Wk.gr _ _ | exact Wk.nil_gr | exact Wk.nil_ow | exact Wk.ms_ow _ _ _) ?_)) rfl | exact Wk.nil_ow | exact Wk.ms_ow _ _ _ | exact Wk.ow_ms _ _ _) (by first | exact Bnd.none _ | exact Bnd.some (by first | exact Wk.refl _ | exact Wk.nil | exact Wk.clip _ | exact Wk.tip _ _ _ | exact Wk.opt _ _ (by first | assumption | rfl) | exact Wk.gr _ _ | exact Wk.nil_gr | exact Wk.trans (Wk.opt _ _ (by first | assumption | rfl)) (by first | exact Wk.gr _ _ | exact Wk.nil | exact Wk.clip _ | exact Wk.tip _ _ _) | exact Wk.aggs (by repeat (first | exact Wks.nil | refine Wks.cons (by first | exact Wk.refl _ | exact Wk.nil | exact Wk.clip _ | exact Wk.tip _ _ _ | exact Wk.gr _ _ | exact Wk.nil_gr | exact Wk.nil_ow | exact Wk.ms_ow _ _ _) ?_)) rfl | exact Wk.nil_ow | exact Wk.ms_ow _ _ _ | exact Wk.ow_ms _ _ _) (by omega) (by first | ((simp only [Nat.zero_add, Nat.add_zero, Nat.reduceAdd, Nat.reduceMul, Int.toNat_natCast]) <;> rfl) | rfl)) (by first | exact Bnd.none _ | exact Bnd.some (by first | exact Wk.refl _ | exact Wk.nil | exact Wk.clip _ | exact Wk.tip _ _ _ | exact Wk.opt _ _ (by first | assumption | rfl) | exact Wk.gr _ _ | exact Wk.nil_gr | exact Wk.trans (Wk.opt _ _ (by first | assumption | rfl)) (by first | exact Wk.gr _ _ | exact Wk.nil | exact Wk.clip _ | exact Wk.tip _ _ _) | exact Wk.aggs (by repeat (first | exact Wks.nil | refine Wks.cons (by first | exact Wk.refl _ | exact Wk.nil | exact Wk.clip _ | exact Wk.tip _ _ _ | exact Wk.gr _ _ | exact Wk.nil_gr | exact Wk.nil_ow | exact Wk.ms_ow _ _ _) ?_)) rfl | exact Wk.nil_ow | exact Wk.ms_ow _ _ _ | exact Wk.ow_ms _ _ _) (by omega) (by first | ((simp only [Nat.zero_add, Nat.add_zero, Nat.reduceAdd, Nat.reduceMul, Int.toNat_natCast]) <;> rfl) | rfl)) (by omega) (by repeat (first | exact List.mem_cons_self | assumption | refine List.mem_cons_of_mem _ ?_ | refine mem_gB ?_ | refine mem_gO ?_)) (by omega) (by omega) | exact OpQ.clip_all rfl (by first | exact Wk.refl _ | exact Wk.nil | exact Wk.clip _ | exact Wk.tip _ _ _ | exact Wk.opt _ _ (by first | assumption | rfl) | exact Wk.gr _ _ | exact Wk.nil_gr | exact Wk.trans (Wk.opt _ _ (by first | assumption | rfl)) (by first | exact Wk.gr _ _ | exact Wk.nil | exact Wk.clip _ | exact Wk.tip _ _ _) | exact Wk.aggs (by repeat (first | exact Wks.nil | refine Wks.cons (by first | exact Wk.refl _ | exact Wk.nil | exact Wk.clip _ | exact Wk.tip _ _ _ | exact Wk.gr _ _ | exact Wk.nil_gr | exact Wk.nil_ow | exact Wk.ms_ow _ _ _) ?_)) rfl | exact Wk.nil_ow | exact Wk.ms_ow _ _ _ | exact Wk.ow_ms _ _ _) (by first | assumption | (intro r hr; simp at hr; done) | (intro r hr; simp at hr; subst hr; rfl) | (intro r hr; simp at hr; (rcases hr with ⟨_, _, rfl⟩ | rfl) <;> rfl) | (intro r hr; simp at hr; (obtain ⟨_, _, rfl⟩ := hr); rfl)) (by first | exact Bnd.none _ | exact Bnd.some (by first | exact Wk.refl _ | exact Wk.nil | exact Wk.clip _ | exact Wk.tip _ _ _ | exact Wk.opt _ _ (by first | assumption | rfl) | exact Wk.gr _ _ | exact Wk.nil_gr | exact Wk.trans (Wk.opt _ _ (by first | assumption | rfl)) (by first | exact Wk.gr _ _ | exact Wk.nil | exact Wk.clip _ | exact Wk.tip _ _ _) | exact Wk.aggs (by repeat (first | exact Wks.nil | refine Wks.cons (by first | exact Wk.refl _ | exact Wk.nil | exact Wk.clip _ | exact Wk.tip _ _ _ | exact Wk.gr _ _ | exact Wk.nil_gr | exact Wk.nil_ow | exact Wk.ms_ow _ _ _) ?_)) rfl | exact Wk.nil_ow | exact Wk.ms_ow _ _ _ | exact Wk.ow_ms _ _ _) (by omega) (by first | ((simp only [Nat.zero_add, Nat.add_zero, Nat.reduceAdd, Nat.reduceMul, Int.toNat_natCast]) <;> rfl) | rfl)) (by intro c; exact (by first | exact Bnd.none _ | exact Bnd.some (by first | exact Wk.refl _ | exact Wk.nil | exact Wk.clip _ | exact Wk.tip _ _ _ | exact Wk.opt _ _ (by first | assumption | rfl) | exact Wk.gr _ _ | exact Wk.nil_gr | exact Wk.trans (Wk.opt _ _ (by first | assumption | rfl)) (by first | exact Wk.gr _ _ | exact Wk.nil | exact Wk.clip _ | exact Wk.tip _ _ _) | exact Wk.aggs (by repeat (first | exact Wks.nil | refine Wks.cons (by first | exact Wk.refl _ | exact Wk.nil | exact Wk.clip _ | exact Wk.tip _ _ _ | exact Wk.gr _ _ | exact Wk.nil_gr | exact Wk.nil_ow | exact Wk.ms_ow _ _ _) ?_)) rfl | exact Wk.nil_ow | exact Wk.ms_ow _ _ _ | exact Wk.ow_ms _ _ _) (by omega) (by first | ((simp only [Nat.zero_add, Nat.add_zero, Nat.reduceAdd, Nat.reduceMul, Int.toNat_natCast]) <;> rfl) | rfl))) (by exact ⟨Option.some_ne_none _, Option.some_ne_none _⟩) (by first | rfl | (simp; done) | (simp only [List.length_map]; omega) | (simp; omega) | omega) | exact OpQ.part_clip rfl (by first | exact Wk.refl _ | exact Wk.nil | exact Wk.clip _ | exact Wk.tip _ _ _ | exact Wk.opt _ _ (by first | assumption | rfl) | exact Wk.gr _ _ | exact Wk.nil_gr | exact Wk.trans (Wk.opt _ _ (by first | assumption | rfl)) (by first | exact Wk.gr _ _ | exact Wk.nil | exact Wk.clip _ | exact Wk.tip _ _ _) | exact Wk.aggs (by repeat (first | exact Wks.nil | refine Wks.cons (by first | exact Wk.refl _ | exact Wk.nil | exact Wk.clip _ | exact Wk.tip _ _ _ | exact Wk.gr _ _ | exact Wk.nil_gr | exact Wk.nil_ow | exact Wk.ms_ow _ _ _) ?_)) rfl | exact Wk.nil_ow | exact Wk.ms_ow _ _ _ | exact Wk.ow_ms _ _ _) (by first | assumption | (intro r hr; simp at hr; done) | (intro r hr; simp at hr; subst hr; rfl) | (intro r hr; simp at hr; (rcases hr with ⟨_, _, rfl⟩ | rfl) <;> rfl) | (intro r hr; simp at hr; (obtain ⟨_, _, rfl⟩ := hr); rfl)) (by first | exact Bnd.none _ | exact Bnd.some (by first | exact Wk.refl _ | exact Wk.nil | exact Wk.clip _ | exact Wk.tip _ _ _ | exact Wk.opt _ _ (by first | assumption | rfl) | exact Wk.gr _ _ | exact Wk.nil_gr | exact Wk.trans (Wk.opt _ _ (by first | assumption | rfl)) (by first | exact Wk.gr _ _ | exact Wk.nil | exact Wk.clip _ | exact Wk.tip _ _ _) | exact Wk.aggs (by repeat (first | exact Wks.nil | refine Wks.cons (by first | exact Wk.refl _ | exact Wk.nil | exact Wk.clip _ | exact Wk.tip _ _ _ | exact Wk.gr _ _ | exact Wk.nil_gr | exact Wk.nil_ow | exact Wk.ms_ow _ _ _) ?_)) rfl | exact Wk.nil_ow | exact Wk.ms_ow _ _ _ | exact Wk.ow_ms _ _ _) (by omega) (by first | ((simp only [Nat.zero_add, Nat.add_zero, Nat.reduceAdd, Nat.reduceMul, Int.toNat_natCast]) <;> rfl) | rfl)) (by first | exact Bnd.none _ | exact Bnd.some (by first | exact Wk.refl _ | exact Wk.nil | exact Wk.clip _ | exact Wk.tip _ _ _ | exact Wk.opt _ _ (by first | assumption | rfl) | exact Wk.gr _ _ | exact Wk.nil_gr | exact Wk.trans (Wk.opt _ _ (by first | assumption | rfl)) (by first | exact Wk.gr _ _ | exact Wk.nil | exact Wk.clip _ | exact Wk.tip _ _ _) | exact Wk.aggs (by repeat (first | exact Wks.nil | refine Wks.cons (by first | exact Wk.refl _ | exact Wk.nil | exact Wk.clip _ | exact Wk.tip _ _ _ | exact Wk.gr _ _ | exact Wk.nil_gr | exact Wk.nil_ow | exact Wk.ms_ow _ _ _) ?_)) rfl | exact Wk.nil_ow | exact Wk.ms_ow _ _ _ | exact Wk.ow_ms _ _ _) (by omega) (by first | ((simp only [Nat.zero_add, Nat.add_zero, Nat.reduceAdd, Nat.reduceMul, Int.toNat_natCast]) <;> rfl) | rfl)) (by intro c; exact (by first | exact Bnd.none _ | exact Bnd.some (by first | exact Wk.refl _ | exact Wk.nil | exact Wk.clip _ | exact Wk.tip _ _ _ | exact Wk.opt _ _ (by first | assumption | rfl) | exact Wk.gr _ _ | exact Wk.nil_gr | exact Wk.trans (Wk.opt _ _ (by first | assumption | rfl)) (by first | exact Wk.gr _ _ | exact Wk.nil | exact Wk.clip _ | exact Wk.tip _ _ _) | exact Wk.aggs (by repeat (first | exact Wks.nil | refine Wks.cons (by first | exact Wk.refl _ | exact Wk.nil | exact Wk.clip _ | exact Wk.tip _ _ _ | exact Wk.gr _ _ | exact Wk.nil_gr | exact Wk.nil_ow | exact Wk.ms_ow _ _ _) ?_)) rfl | exact Wk.nil_ow | exact Wk.ms_ow _ _ _ | exact Wk.ow_ms _ _ _) (by omega) (by first | ((simp only [Nat.zero_add, Nat.add_zero, Nat.reduceAdd, Nat.reduceMul, Int.toNat_natCast]) <;> rfl) | rfl))) (by exact ⟨Option.some_ne_none _, Option.some_ne_none _⟩) (by first | omega | (simp; done) | (simp; omega)) (by first | omega | (simp; done) | (simp; omega)) | exact OpQ.front rfl (by first | exact Wk.refl _ | exact Wk.nil | exact Wk.clip _ | exact Wk.tip _ _ _ | exact Wk.opt _ _ (by first | assumption | rfl) | exact Wk.gr _ _ | exact Wk.nil_gr | exact Wk.trans (Wk.opt _ _ (by first | assumption | rfl)) (by first | exact Wk.gr _ _ | exact Wk.nil | exact Wk.clip _ | exact Wk.tip _ _ _) | exact Wk.aggs (by repeat (first | exact Wks.nil | refine Wks.cons (by first | exact Wk.refl _ | exact Wk.nil | exact Wk.clip _ | exact Wk.tip _ _ _ | exact Wk.gr _ _ | exact Wk.nil_gr | exact Wk.nil_ow | exact Wk.ms_ow _ _ _) ?_)) rfl | exact Wk.nil_ow | exact Wk.ms_ow _ _ _ | exact Wk.ow_ms _ _ _) (by first | assumption | (intro r hr; simp at hr; done) | (intro r hr; simp at hr; subst hr; rfl) | (intro r hr; simp at hr; (rcases hr with ⟨_, _, rfl⟩ | rfl) <;> rfl) | (intro r hr; simp at hr; (obtain ⟨_, _, rfl⟩ := hr); rfl)) (by first | exact Bnd.none _ | exact Bnd.some (by first | exact Wk.refl _ | exact Wk.nil | exact Wk.clip _ | exact Wk.tip _ _ _ | exact Wk.opt _ _ (by first | assumption | rfl) | exact Wk.gr _ _ | exact Wk.nil_gr | exact Wk.trans (Wk.opt _ _ (by first | assumption | rfl)) (by first | exact Wk.gr _ _ | exact Wk.nil | exact Wk.clip _ | exact Wk.tip _ _ _) | exact Wk.aggs (by repeat (first | exact Wks.nil | refine Wks.cons (by first | exact Wk.refl _ | exact Wk.nil | exact Wk.clip _ | exact Wk.tip _ _ _ | exact Wk.gr _ _ | exact Wk.nil_gr | exact Wk.nil_ow | exact Wk.ms_ow _ _ _) ?_)) rfl | exact Wk.nil_ow | exact Wk.ms_ow _ _ _ | exact Wk.ow_ms _ _ _) (by omega) (by first | ((simp only [Nat.zero_add, Nat.add_zero, Nat.reduceAdd, Nat.reduceMul, Int.toNat_natCast]) <;> rfl) | rfl)) (by first | omega | (simp; done) | (simp; omega)) | exact OpQ.back rfl (by first | exact Wk.refl _ | exact Wk.nil | exact Wk.clip _ | exact Wk.tip _ _ _ | exact Wk.opt _ _ (by first | assumption | rfl) | exact Wk.gr _ _ | exact Wk.nil_gr | exact Wk.trans (Wk.opt _ _ (by first | assumption | rfl)) (by first | exact Wk.gr _ _ | exact Wk.nil | exact Wk.clip _ | exact Wk.tip _ _ _) | exact Wk.aggs (by repeat (first | exact Wks.nil | refine Wks.cons (by first | exact Wk.refl _ | exact Wk.nil | exact Wk.clip _ | exact Wk.tip _ _ _ | exact Wk.gr _ _ | exact Wk.nil_gr | exact Wk.nil_ow | exact Wk.ms_ow _ _ _) ?_)) rfl | exact Wk.nil_ow | exact Wk.ms_ow _ _ _ | exact Wk.ow_ms _ _ _) (by first | assumption | (intro r hr; simp at hr; done) | (intro r hr; simp at hr; subst hr; rfl) | (intro r hr; simp at hr; (rcases hr with ⟨_, _, rfl⟩ | rfl) <;> rfl) | (intro r hr; simp at hr; (obtain ⟨_, _, rfl⟩ := hr); rfl)) (by first | exact Bnd.none _ | exact Bnd.some (by first | exact Wk.refl _ | exact Wk.nil | exact Wk.clip _ | exact Wk.tip _ _ _ | exact Wk.opt _ _ (by first | assumption | rfl) | exact Wk.gr _ _ | exact Wk.nil_gr | exact Wk.trans (Wk.opt _ _ (by first | assumption | rfl)) (by first | exact Wk.gr _ _ | exact Wk.nil | exact Wk.clip _ | exact Wk.tip _ _ _) | exact Wk.aggs (by repeat (first | exact Wks.nil | refine Wks.cons (by first | exact Wk.refl _ | exact Wk.nil | exact Wk.clip _ | exact Wk.tip _ _ _ | exact Wk.gr _ _ | exact Wk.nil_gr | exact Wk.nil_ow | exact Wk.ms_ow _ _ _) ?_)) rfl | exact Wk.nil_ow | exact Wk.ms_ow _ _ _ | exact Wk.ow_ms _ _ _) (by omega) (by first | ((simp only [Nat.zero_add, Nat.add_zero, Nat.reduceAdd, Nat.reduceMul, Int.toNat_natCast]) <;> rfl) | rfl)) (by first | omega | (simp; done) | (simp; omega)) | exact OpQ.part_sl rfl (by first | exact Wk.refl _ | exact Wk.nil | exact Wk.clip _ | exact Wk.tip _ _ _ | exact Wk.opt _ _ (by first | assumption | rfl) | exact Wk.gr _ _ | exact Wk.nil_gr | exact Wk.trans (Wk.opt _ _ (by first | assumption | rfl)) (by first | exact Wk.gr _ _ | exact Wk.nil | exact Wk.clip _ | exact Wk.tip _ _ _) | exact Wk.aggs (by repeat (first | exact Wks.nil | refine Wks.cons (by first | exact Wk.refl _ | exact Wk.nil | exact Wk.clip _ | exact Wk.tip _ _ _ | exact Wk.gr _ _ | exact Wk.nil_gr | exact Wk.nil_ow | exact Wk.ms_ow _ _ _) ?_)) rfl | exact Wk.nil_ow | exact Wk.ms_ow _ _ _ | exact Wk.ow_ms _ _ _) (by first | assumption | (intro r hr; simp at hr; done) | (intro r hr; simp at hr; subst hr; rfl) | (intro r hr; simp at hr; (rcases hr with ⟨_, _, rfl⟩ | rfl) <;> rfl) | (intro r hr; simp at hr; (obtain ⟨_, _, rfl⟩ := hr); rfl)) (by first | exact Bnd.none _ | exact Bnd.some (by first | exact Wk.refl _ | exact Wk.nil | exact Wk.clip _ | exact Wk.tip _ _ _ | exact Wk.opt _ _ (by first | assumption | rfl) | exact Wk.gr _ _ | exact Wk.nil_gr | exact Wk.trans (Wk.opt _ _ (by first | assumption | rfl)) (by first | exact Wk.gr _ _ | exact Wk.nil | exact Wk.clip _ | exact Wk.tip _ _ _) | exact Wk.aggs (by repeat (first | exact Wks.nil | refine Wks.cons (by first | exact Wk.refl _ | exact Wk.nil | exact Wk.clip _ | exact Wk.tip _ _ _ | exact Wk.gr _ _ | exact Wk.nil_gr | exact Wk.nil_ow | exact Wk.ms_ow _ _ _) ?_)) rfl | exact Wk.nil_ow | exact Wk.ms_ow _ _ _ | exact Wk.ow_ms _ _ _) (by omega) (by first | ((simp only [Nat.zero_add, Nat.add_zero, Nat.reduceAdd, Nat.reduceMul, Int.toNat_natCast]) <;> rfl) | rfl)) (by first | exact Bnd.none _ | exact Bnd.some (by first | exact Wk.refl _ | exact Wk.nil | exact Wk.clip _ | exact Wk.tip _ _ _ | exact Wk.opt _ _ (by first | assumption | rfl) | exact Wk.gr _ _ | exact Wk.nil_gr | exact Wk.trans (Wk.opt _ _ (by first | assumption | rfl)) (by first | exact Wk.gr _ _ | exact Wk.nil | exact Wk.clip _ | exact Wk.tip _ _ _) | exact Wk.aggs (by repeat (first | exact Wks.nil | refine Wks.cons (by first | exact Wk.refl _ | exact Wk.nil | exact Wk.clip _ | exact Wk.tip _ _ _ | exact Wk.gr _ _ | exact Wk.nil_gr | exact Wk.nil_ow | exact Wk.ms_ow _ _ _) ?_)) rfl | exact Wk.nil_ow | exact Wk.ms_ow _ _ _ | exact Wk.ow_ms _ _ _) (by omega) (by first | ((simp only [Nat.zero_add, Nat.add_zero, Nat.reduceAdd, Nat.reduceMul, Int.toNat_natCast]) <;> rfl) | rfl)) (by first | omega | (simp; done) | (simp; omega)) (by first | omega | (simp; done) | (simp; omega)) | exact OpQ.part_str rfl (by first | exact Wk.refl _ | exact Wk.nil | exact Wk.clip _ | exact Wk.tip _ _ _ | exact Wk.opt _ _ (by first | assumption | rfl) | exact Wk.gr _ _ | exact Wk.nil_gr | exact Wk.trans (Wk.opt _ _ (by first | assumption | rfl)) (by first | exact Wk.gr _ _ | exact Wk.nil | exact Wk.clip _ | exact Wk.tip _ _ _) | exact Wk.aggs (by repeat (first | exact Wks.nil | refine Wks.cons (by first | exact Wk.refl _ | exact Wk.nil | exact Wk.clip _ | exact Wk.tip _ _ _ | exact Wk.gr _ _ | exact Wk.nil_gr | exact Wk.nil_ow | exact Wk.ms_ow _ _ _) ?_)) rfl | exact Wk.nil_ow | exact Wk.ms_ow _ _ _ | exact Wk.ow_ms _ _ _) (by first | exact Bnd.none _ | exact Bnd.some (by first | exact Wk.refl _ | exact Wk.nil | exact Wk.clip _ | exact Wk.tip _ _ _ | exact Wk.opt _ _ (by first | assumption | rfl) | exact Wk.gr _ _ | exact Wk.nil_gr | exact Wk.trans (Wk.opt _ _ (by first | assumption | rfl)) (by first | exact Wk.gr _ _ | exact Wk.nil | exact Wk.clip _ | exact Wk.tip _ _ _) | exact Wk.aggs (by repeat (first | exact Wks.nil | refine Wks.cons (by first | exact Wk.refl _ | exact Wk.nil | exact Wk.clip _ | exact Wk.tip _ _ _ | exact Wk.gr _ _ | exact Wk.nil_gr | exact Wk.nil_ow | exact Wk.ms_ow _ _ _) ?_)) rfl | exact Wk.nil_ow | exact Wk.ms_ow _ _ _ | exact Wk.ow_ms _ _ _) (by omega) (by first | ((simp only [Nat.zero_add, Nat.add_zero, Nat.reduceAdd, Nat.reduceMul, Int.toNat_natCast]) <;> rfl) | rfl)) (by first | exact Bnd.none _ | exact Bnd.some (by first | exact Wk.refl _ | exact Wk.nil | exact Wk.clip _ | exact Wk.tip _ _ _ | exact Wk.opt _ _ (by first | assumption | rfl) | exact Wk.gr _ _ | exact Wk.nil_gr | exact Wk.trans (Wk.opt _ _ (by first | assumption | rfl)) (by first | exact Wk.gr _ _ | exact Wk.nil | exact Wk.clip _ | exact Wk.tip _ _ _) | exact Wk.aggs (by repeat (first | exact Wks.nil | refine Wks.cons (by first | exact Wk.refl _ | exact Wk.nil | exact Wk.clip _ | exact Wk.tip _ _ _ | exact Wk.gr _ _ | exact Wk.nil_gr | exact Wk.nil_ow | exact Wk.ms_ow _ _ _) ?_)) rfl | exact Wk.nil_ow | exact Wk.ms_ow _ _ _ | exact Wk.ow_ms _ _ _) (by omega) (by first | ((simp only [Nat.zero_add, Nat.add_zero, Nat.reduceAdd, Nat.reduceMul, Int.toNat_natCast]) <;> rfl) | rfl)) (by omega) (by omega))
    | ((with_reducible show OpQ _ ⟨_, .buildSlice _ _ _, _, _, _, _⟩ _ _ _); exact OpQ.lits rfl (by simp only [List.map_cons, List.map_nil] <;> rfl) rfl (by repeat (first | exact Rows_.nil | (apply Rows_.cons; exact Wk.of_eq (by (conv => lhs; whnf) <;> rfl); exact (by first | exact .inl rfl | exact .inr ⟨_, rfl⟩)))) (by rfl) (by first | rfl | (simp [cellsOf]; done) | (simp only [List.map_cons, List.map_nil, cellsOf]) <;> rfl) (by first | ((simp only [List.map_cons, List.map_nil, cellsOf]) <;> rfl) | rfl) (by decide) (by decide))
    | ((with_reducible show OpQ _ ⟨_, .build _ _, _, _, _, _⟩ _ _ _); first | exact OpQ.build_struct rfl (by repeat (first | exact Bld.nil _ | (apply Bld.cons; rfl; exact Wk.of_eq (by (conv => lhs; whnf) <;> rfl); exact (by first | exact .inl rfl | exact .inr ⟨_, rfl⟩); exact (by first | rfl | (simp [cellsOf]; done) | (simp only [List.map_cons, List.map_nil, cellsOf]) <;> rfl); exact (by first | rfl | (simp; done) | (simp only [List.length_map]; omega) | (simp; omega) | omega); exact (by first | ((simp only [spl, cellsOf, List.set_cons_zero, List.set_cons_succ]) <;> rfl) | rfl)))) | exact OpQ.build_arr rfl (by repeat (first | exact Bld.nil _ | (apply Bld.cons; rfl; exact Wk.of_eq (by (conv => lhs; whnf) <;> rfl); exact (by first | exact .inl rfl | exact .inr ⟨_, rfl⟩); exact (by first | rfl | (simp [cellsOf]; done) | (simp only [List.map_cons, List.map_nil, cellsOf]) <;> rfl); exact (by first | rfl | (simp; done) | (simp only [List.length_map]; omega) | (simp; omega) | omega); exact (by first | ((simp only [spl, cellsOf, List.set_cons_zero, List.set_cons_succ]) <;> rfl) | rfl)))))) : OpQ P o t bs y := h
/-- A quiet operation that writes a temporary. -/
theorem AL.s {d : Nat} (hg : o.guard = none := by rfl) (hd : o.dst = some d := by rfl) (hN : Nat.blt d N = true := by rfl) (hk : okOps o = true := by rfl) (hq : OpQ P o t bs y := by exact OpQ.auto)
    (h : AL P N ops Q rest ((d, y) :: t) bs) : AL P N ops Q (o :: rest) t bs :=
  .q hq hg hk (by rw [hd]; exact hN) (by rw [hd]; exact h)
theorem AL.s0 (hd : o.dst = none := by rfl) (hg : o.guard = none := by rfl) (hk : okOps o = true := by rfl) (hq : OpQ P o t bs y := by exact OpQ.auto)
    (h : AL P N ops Q rest t bs) : AL P N ops Q (o :: rest) t bs :=
  .q hq hg hk (by rw [hd]; rfl) (by rw [hd]; exact h)
theorem AL.gd {d j dj : Nat} {oj : Oper} {want bc : Bool} (hg : o.guard = some (j, want) := by rfl) (hj : ops[j]? = some oj := by rfl) (hdj : oj.dst = some dj := by rfl) (hl : GB t dj want bc := by first | exact GB.v (by first | exact Wk.refl _ | exact Wk.nil | exact Wk.clip _ | exact Wk.tip _ _ _ | exact Wk.opt _ _ (by first | assumption | rfl) | exact Wk.gr _ _ | exact Wk.nil_gr | exact Wk.trans (Wk.opt _ _ (by first | assumption | rfl)) (by first | exact Wk.gr _ _ | exact Wk.nil | exact Wk.clip _ | exact Wk.tip _ _ _) | exact Wk.aggs (by repeat (first | exact Wks.nil | refine Wks.cons (by first | exact Wk.refl _ | exact Wk.nil | exact Wk.clip _ | exact Wk.tip _ _ _ | exact Wk.gr _ _ | exact Wk.nil_gr | exact Wk.nil_ow | exact Wk.ms_ow _ _ _) ?_)) rfl | exact Wk.nil_ow | exact Wk.ms_ow _ _ _ | exact Wk.ow_ms _ _ _) (by first | exact bqt _ | exact bqf _ | exact cbt _ _ | exact cbf _ _ | rfl) | exact GB.o (by rfl) (by first | exact bqt _ | exact bqf _ | exact cbt _ _ | exact cbf _ _ | rfl)) (hlt : dj < N := by decide) (hk : okOps o = true := by rfl) (hd : o.dst = some d := by rfl) (hN : Nat.blt d N = true := by rfl) (hq : bc = true → OpQ P o t bs y := by (intro hgb; exact OpQ.auto))
    (h : AL P N ops Q rest ((d, .opt bc y) :: t) bs) : AL P N ops Q (o :: rest) t bs :=
  .guard hg hj hdj hl hlt hq hk (by rw [hd]; exact hN) (by rw [hd]; exact h)
/-- Guards whose Bool is known. -/
theorem AL.gTt {d j dj : Nat} {oj : Oper} (hg : o.guard = some (j, true) := by rfl) (hj : ops[j]? = some oj := by rfl) (hdj : oj.dst = some dj := by rfl) (hl : Wk (look t dj) (.v (.bool true)) := by exact (by first | exact Wk.refl _ | exact Wk.nil | exact Wk.clip _ | exact Wk.tip _ _ _ | exact Wk.opt _ _ (by first | assumption | rfl) | exact Wk.gr _ _ | exact Wk.nil_gr | exact Wk.trans (Wk.opt _ _ (by first | assumption | rfl)) (by first | exact Wk.gr _ _ | exact Wk.nil | exact Wk.clip _ | exact Wk.tip _ _ _) | exact Wk.aggs (by repeat (first | exact Wks.nil | refine Wks.cons (by first | exact Wk.refl _ | exact Wk.nil | exact Wk.clip _ | exact Wk.tip _ _ _ | exact Wk.gr _ _ | exact Wk.nil_gr | exact Wk.nil_ow | exact Wk.ms_ow _ _ _) ?_)) rfl | exact Wk.nil_ow | exact Wk.ms_ow _ _ _ | exact Wk.ow_ms _ _ _)) (hq : OpQ P o t bs y := by exact OpQ.auto) (hlt : dj < N := by decide) (hk : okOps o = true := by rfl) (hd : o.dst = some d := by rfl) (hN : Nat.blt d N = true := by rfl)
    (h : AL P N ops Q rest ((d, y) :: t) bs) : AL P N ops Q (o :: rest) t bs :=
  .guard_in hg hj hdj hl hlt hq.w hk (by rw [hd]; exact hN) (fun _ _ ⟨h1, h2⟩ => by subst h1; subst h2; rw [hd]; exact h)
theorem AL.gFf {d j dj : Nat} {oj : Oper} (hg : o.guard = some (j, false) := by rfl) (hj : ops[j]? = some oj := by rfl) (hdj : oj.dst = some dj := by rfl) (hl : Wk (look t dj) (.v (.bool false)) := by exact (by first | exact Wk.refl _ | exact Wk.nil | exact Wk.clip _ | exact Wk.tip _ _ _ | exact Wk.opt _ _ (by first | assumption | rfl) | exact Wk.gr _ _ | exact Wk.nil_gr | exact Wk.trans (Wk.opt _ _ (by first | assumption | rfl)) (by first | exact Wk.gr _ _ | exact Wk.nil | exact Wk.clip _ | exact Wk.tip _ _ _) | exact Wk.aggs (by repeat (first | exact Wks.nil | refine Wks.cons (by first | exact Wk.refl _ | exact Wk.nil | exact Wk.clip _ | exact Wk.tip _ _ _ | exact Wk.gr _ _ | exact Wk.nil_gr | exact Wk.nil_ow | exact Wk.ms_ow _ _ _) ?_)) rfl | exact Wk.nil_ow | exact Wk.ms_ow _ _ _ | exact Wk.ow_ms _ _ _)) (hq : OpQ P o t bs y := by exact OpQ.auto) (hlt : dj < N := by decide) (hk : okOps o = true := by rfl) (hd : o.dst = some d := by rfl) (hN : Nat.blt d N = true := by rfl)
    (h : AL P N ops Q rest ((d, y) :: t) bs) : AL P N ops Q (o :: rest) t bs :=
  .guard_in hg hj hdj hl hlt hq.w hk (by rw [hd]; exact hN) (fun _ _ ⟨h1, h2⟩ => by subst h1; subst h2; rw [hd]; exact h)
theorem AL.gTf {d j dj : Nat} {oj : Oper} (hg : o.guard = some (j, true) := by rfl) (hj : ops[j]? = some oj := by rfl) (hdj : oj.dst = some dj := by rfl) (hl : Wk (look t dj) (.v (.bool false)) := by exact (by first | exact Wk.refl _ | exact Wk.nil | exact Wk.clip _ | exact Wk.tip _ _ _ | exact Wk.opt _ _ (by first | assumption | rfl) | exact Wk.gr _ _ | exact Wk.nil_gr | exact Wk.trans (Wk.opt _ _ (by first | assumption | rfl)) (by first | exact Wk.gr _ _ | exact Wk.nil | exact Wk.clip _ | exact Wk.tip _ _ _) | exact Wk.aggs (by repeat (first | exact Wks.nil | refine Wks.cons (by first | exact Wk.refl _ | exact Wk.nil | exact Wk.clip _ | exact Wk.tip _ _ _ | exact Wk.gr _ _ | exact Wk.nil_gr | exact Wk.nil_ow | exact Wk.ms_ow _ _ _) ?_)) rfl | exact Wk.nil_ow | exact Wk.ms_ow _ _ _ | exact Wk.ow_ms _ _ _)) (hlt : dj < N := by decide) (hd : o.dst = some d := by rfl) (hN : Nat.blt d N = true := by rfl)
    (h : AL P N ops Q rest ((d, .junk) :: t) bs) : AL P N ops Q (o :: rest) t bs :=
  .guard_out hg hj hdj hl hlt rfl (by rw [hd]; exact hN) (by rw [hd]; exact h)
theorem AL.gFt {d j dj : Nat} {oj : Oper} (hg : o.guard = some (j, false) := by rfl) (hj : ops[j]? = some oj := by rfl) (hdj : oj.dst = some dj := by rfl) (hl : Wk (look t dj) (.v (.bool true)) := by exact (by first | exact Wk.refl _ | exact Wk.nil | exact Wk.clip _ | exact Wk.tip _ _ _ | exact Wk.opt _ _ (by first | assumption | rfl) | exact Wk.gr _ _ | exact Wk.nil_gr | exact Wk.trans (Wk.opt _ _ (by first | assumption | rfl)) (by first | exact Wk.gr _ _ | exact Wk.nil | exact Wk.clip _ | exact Wk.tip _ _ _) | exact Wk.aggs (by repeat (first | exact Wks.nil | refine Wks.cons (by first | exact Wk.refl _ | exact Wk.nil | exact Wk.clip _ | exact Wk.tip _ _ _ | exact Wk.gr _ _ | exact Wk.nil_gr | exact Wk.nil_ow | exact Wk.ms_ow _ _ _) ?_)) rfl | exact Wk.nil_ow | exact Wk.ms_ow _ _ _ | exact Wk.ow_ms _ _ _)) (hlt : dj < N := by decide) (hd : o.dst = some d := by rfl) (hN : Nat.blt d N = true := by rfl)
    (h : AL P N ops Q rest ((d, .junk) :: t) bs) : AL P N ops Q (o :: rest) t bs :=
  .guard_out hg hj hdj hl hlt rfl (by rw [hd]; exact hN) (by rw [hd]; exact h)
/-- Guards that are known by a hypothesis. -/
theorem AL.gk {d j dj : Nat} {oj : Oper} {want e : Bool} (hg : o.guard = some (j, want) := by rfl) (hj : ops[j]? = some oj := by rfl) (hdj : oj.dst = some dj := by rfl) (hl : Wk (look t dj) (.v (.bool e)) := by exact (by first | exact Wk.refl _ | exact Wk.nil | exact Wk.clip _ | exact Wk.tip _ _ _ | exact Wk.opt _ _ (by first | assumption | rfl) | exact Wk.gr _ _ | exact Wk.nil_gr | exact Wk.trans (Wk.opt _ _ (by first | assumption | rfl)) (by first | exact Wk.gr _ _ | exact Wk.nil | exact Wk.clip _ | exact Wk.tip _ _ _) | exact Wk.aggs (by repeat (first | exact Wks.nil | refine Wks.cons (by first | exact Wk.refl _ | exact Wk.nil | exact Wk.clip _ | exact Wk.tip _ _ _ | exact Wk.gr _ _ | exact Wk.nil_gr | exact Wk.nil_ow | exact Wk.ms_ow _ _ _) ?_)) rfl | exact Wk.nil_ow | exact Wk.ms_ow _ _ _ | exact Wk.ow_ms _ _ _)) (he : e = want := by first | rfl | assumption) (hq : OpQ P o t bs y := by exact OpQ.auto) (hlt : dj < N := by decide) (hk : okOps o = true := by rfl) (hd : o.dst = some d := by rfl) (hN : Nat.blt d N = true := by rfl)
    (h : AL P N ops Q rest ((d, y) :: t) bs) : AL P N ops Q (o :: rest) t bs := by
  subst he
  exact .guard_in hg hj hdj hl hlt hq.w hk (by rw [hd]; exact hN) (fun _ _ ⟨h1, h2⟩ => by subst h1; subst h2; rw [hd]; exact h)
theorem AL.gs {d j dj : Nat} {oj : Oper} {want : Bool} (hg : o.guard = some (j, want) := by rfl) (hj : ops[j]? = some oj := by rfl) (hdj : oj.dst = some dj := by rfl) (hl : GB t dj want false := by exact (by first | exact GB.sv (by first | exact Wk.refl _ | exact Wk.nil | exact Wk.clip _ | exact Wk.tip _ _ _ | exact Wk.opt _ _ (by first | assumption | rfl) | exact Wk.gr _ _ | exact Wk.nil_gr | exact Wk.trans (Wk.opt _ _ (by first | assumption | rfl)) (by first | exact Wk.gr _ _ | exact Wk.nil | exact Wk.clip _ | exact Wk.tip _ _ _) | exact Wk.aggs (by repeat (first | exact Wks.nil | refine Wks.cons (by first | exact Wk.refl _ | exact Wk.nil | exact Wk.clip _ | exact Wk.tip _ _ _ | exact Wk.gr _ _ | exact Wk.nil_gr | exact Wk.nil_ow | exact Wk.ms_ow _ _ _) ?_)) rfl | exact Wk.nil_ow | exact Wk.ms_ow _ _ _ | exact Wk.ow_ms _ _ _) (by first | rfl | assumption) | exact GB.o (by rfl) (by rfl))) (hlt : dj < N := by decide) (hk : okOps o = true := by rfl) (hd : o.dst = some d := by rfl) (hN : Nat.blt d N = true := by rfl)
    (h : AL P N ops Q rest ((d, .opt false (.v (.bool false))) :: t) bs) : AL P N ops Q (o :: rest) t bs :=
  .guard hg hj hdj hl hlt (fun h => by cases h) hk (by rw [hd]; exact hN) (by rw [hd]; exact h)
theorem AL.gs0 {j dj : Nat} {oj : Oper} {want : Bool} (hd : o.dst = none := by rfl) (hg : o.guard = some (j, want) := by rfl) (hj : ops[j]? = some oj := by rfl) (hdj : oj.dst = some dj := by rfl) (hl : GB t dj want false := by exact (by first | exact GB.sv (by first | exact Wk.refl _ | exact Wk.nil | exact Wk.clip _ | exact Wk.tip _ _ _ | exact Wk.opt _ _ (by first | assumption | rfl) | exact Wk.gr _ _ | exact Wk.nil_gr | exact Wk.trans (Wk.opt _ _ (by first | assumption | rfl)) (by first | exact Wk.gr _ _ | exact Wk.nil | exact Wk.clip _ | exact Wk.tip _ _ _) | exact Wk.aggs (by repeat (first | exact Wks.nil | refine Wks.cons (by first | exact Wk.refl _ | exact Wk.nil | exact Wk.clip _ | exact Wk.tip _ _ _ | exact Wk.gr _ _ | exact Wk.nil_gr | exact Wk.nil_ow | exact Wk.ms_ow _ _ _) ?_)) rfl | exact Wk.nil_ow | exact Wk.ms_ow _ _ _ | exact Wk.ow_ms _ _ _) (by first | rfl | assumption) | exact GB.o (by rfl) (by rfl))) (hlt : dj < N := by decide) (hk : okOps o = true := by rfl)
    (h : AL P N ops Q rest t bs) : AL P N ops Q (o :: rest) t bs :=
  .guard (y := .junk) hg hj hdj hl hlt (fun h => by cases h) hk (by rw [hd]; rfl) (by rw [hd]; exact h)
/-- It runs. -/
inductive Go_ (N : Nat) (ops : Array Oper) (o : Oper) (t : T) : Prop where
  | none (h : o.guard = .none)
  | known {j dj : Nat} {oj : Oper} {want e : Bool} (hg : o.guard = some (j, want)) (hj : ops[j]? = some oj) (hd : oj.dst = some dj) (hl : Wk (look t dj) (.v (.bool e))) (he : e = want) (hlt : dj < N)
theorem AL.wo {R : A → BS → Prop} (hq : OpW P o t bs R) (hg : Go_ N ops o t := by exact (by first | exact Go_.none rfl | exact Go_.known rfl rfl rfl (by first | exact Wk.refl _ | exact Wk.nil | exact Wk.clip _ | exact Wk.tip _ _ _ | exact Wk.opt _ _ (by first | assumption | rfl) | exact Wk.gr _ _ | exact Wk.nil_gr | exact Wk.trans (Wk.opt _ _ (by first | assumption | rfl)) (by first | exact Wk.gr _ _ | exact Wk.nil | exact Wk.clip _ | exact Wk.tip _ _ _) | exact Wk.aggs (by repeat (first | exact Wks.nil | refine Wks.cons (by first | exact Wk.refl _ | exact Wk.nil | exact Wk.clip _ | exact Wk.tip _ _ _ | exact Wk.gr _ _ | exact Wk.nil_gr | exact Wk.nil_ow | exact Wk.ms_ow _ _ _) ?_)) rfl | exact Wk.nil_ow | exact Wk.ms_ow _ _ _ | exact Wk.ow_ms _ _ _) (by first | rfl | assumption) (by decide))) (hk : okOps o = true := by rfl) (hd : okD N o.dst = true := by rfl) (h : ∀ y bs', R y bs' → AL P N ops Q rest (putA t o.dst y) bs') : AL P N ops Q (o :: rest) t bs := by
  cases hg with
  | none hg => exact .w hq hg hk hd h
  | known hg hj hdj hl he hlt => subst he; exact .guard_in hg hj hdj hl hlt hq hk hd h
/-- New blocks, stores. -/
theorem AL.alloc {d : Nat} {ty : TypeId} {zs : List Value} {cs : List A} (ho : o.op = .alloc ty := by rfl) (hz : TC P ty zs cs := by infer_instance) {d0 : TypeDesc} {sz0 by0 : Nat} (h10 : TI P ty d0 sz0 by0 := by infer_instance) (hna : notArr d0 = true := by rfl) (hg : o.guard = none := by rfl) (hk : okOps o = true := by rfl) (hd : o.dst = some d := by rfl) (hN : Nat.blt d N = true := by rfl)
    (h : ∀ g, AL P N ops Q rest ((d, .ptr g 0) :: t) ((g, .cells cs) :: bs)) : AL P N ops Q (o :: rest) t bs :=
  .w (OpW.alloc ho) hg hk (by rw [hd]; exact hN) fun _ _ ⟨g, h1, h2⟩ => by subst h1; subst h2; rw [hd]; exact h g
theorem AL.box {d : Nat} {ty : TypeId} {x : Operand} {cs : List A} (ho : o.op = .box ty x := by rfl) {d0 : TypeDesc} {sz0 by0 : Nat} (h10 : TI P ty d0 sz0 by0 := by infer_instance) (hna : notArr d0 = true := by rfl) (hx : Wk (evA t x) y := by exact (by first | exact Wk.opt _ _ (by first | assumption | rfl) | exact Wk.of_eq (by (conv => lhs; whnf) <;> rfl))) (hc : y.isCell = true ∨ ∃ xs, y = .agg xs := by exact (by first | exact .inl rfl | exact .inr ⟨_, rfl⟩)) (hcs : cellsOf y = cs := by exact (by (conv => lhs; whnf) <;> rfl)) (hg : o.guard = none := by rfl) (hk : okOps o = true := by rfl) (hd : o.dst = some d := by rfl) (hN : Nat.blt d N = true := by rfl)
    (h : ∀ g, AL P N ops Q rest ((d, .ptr g 0) :: t) ((g, .cells cs) :: bs)) : AL P N ops Q (o :: rest) t bs :=
  .w (OpW.box ho hx hc hcs) hg hk (by rw [hd]; exact hN) fun _ _ ⟨g, h1, h2⟩ => by subst h1; subst h2; rw [hd]; exact h g
theorem AL.store {ty : TypeId} {x z : Operand} {g p sz by_ : Nat} {d : TypeDesc} {cs cs' : List A} {bs' : BS} (ho : o.op = .store ty x z := by rfl) (h1 : TI P ty d sz by_ := by infer_instance) (hx : Wk (evA t x) (.ptr g p) := by exact (by first | exact Wk.refl _ | exact Wk.nil | exact Wk.clip _ | exact Wk.tip _ _ _ | exact Wk.opt _ _ (by first | assumption | rfl) | exact Wk.gr _ _ | exact Wk.nil_gr | exact Wk.trans (Wk.opt _ _ (by first | assumption | rfl)) (by first | exact Wk.gr _ _ | exact Wk.nil | exact Wk.clip _ | exact Wk.tip _ _ _) | exact Wk.aggs (by repeat (first | exact Wks.nil | refine Wks.cons (by first | exact Wk.refl _ | exact Wk.nil | exact Wk.clip _ | exact Wk.tip _ _ _ | exact Wk.gr _ _ | exact Wk.nil_gr | exact Wk.nil_ow | exact Wk.ms_ow _ _ _) ?_)) rfl | exact Wk.nil_ow | exact Wk.ms_ow _ _ _ | exact Wk.ow_ms _ _ _)) (hz : Wk (evA t z) y := by exact (by first | exact Wk.opt _ _ (by first | assumption | rfl) | exact Wk.of_eq (by (conv => lhs; whnf) <;> rfl))) (hc : y.isCell = true ∨ ∃ xs, y = .agg xs := by exact (by first | exact .inl rfl | exact .inr ⟨_, rfl⟩)) (hm : (g, .cells cs) ∈ bs := by exact (by repeat (first | exact List.mem_cons_self | assumption | refine List.mem_cons_of_mem _ ?_ | refine mem_gB ?_ | refine mem_gO ?_))) (hcs : spl cs p (cellsOf y) = cs' := by exact (by first | ((simp only [spl, cellsOf, List.set_cons_zero, List.set_cons_succ]) <;> rfl) | rfl)) (hu : BUpd bs g (.cells cs) g (.cells cs') bs' := by exact (by repeat (first | exact BUpd.head | apply BUpd.tail | apply BUpd.gB | apply BUpd.gO))) (hl : p + sz ≤ cs.length := by exact (by first | rfl | (simp; done) | (simp only [List.length_map]; omega) | (simp; omega) | omega)) (hs : (cellsOf y).length = sz := by exact (by first | rfl | (simp; done) | (simp only [List.length_map]; omega) | (simp; omega) | omega))
    (hg : o.guard = none := by rfl) (hk : okOps o = true := by rfl) (hd : o.dst = none := by rfl) (h : AL P N ops Q rest t bs') : AL P N ops Q (o :: rest) t bs :=
  .w (OpW.store ho hx hz hc hm hcs hu hl hs) hg hk (by rw [hd]; rfl) fun _ _ ⟨e1, e2⟩ => by subst e1; subst e2; rw [hd]; exact h
/-- A store of a whole block. -/
theorem AL.store_all {ty : TypeId} {x z : Operand} {g sz by_ : Nat} {d : TypeDesc} {cs ys : List A} {bs' : BS} (ho : o.op = .store ty x z := by rfl) (h1 : TI P ty d sz by_ := by infer_instance) (hx : Wk (evA t x) (.ptr g 0) := by exact (by first | exact Wk.refl _ | exact Wk.nil | exact Wk.clip _ | exact Wk.tip _ _ _ | exact Wk.opt _ _ (by first | assumption | rfl) | exact Wk.gr _ _ | exact Wk.nil_gr | exact Wk.trans (Wk.opt _ _ (by first | assumption | rfl)) (by first | exact Wk.gr _ _ | exact Wk.nil | exact Wk.clip _ | exact Wk.tip _ _ _) | exact Wk.aggs (by repeat (first | exact Wks.nil | refine Wks.cons (by first | exact Wk.refl _ | exact Wk.nil | exact Wk.clip _ | exact Wk.tip _ _ _ | exact Wk.gr _ _ | exact Wk.nil_gr | exact Wk.nil_ow | exact Wk.ms_ow _ _ _) ?_)) rfl | exact Wk.nil_ow | exact Wk.ms_ow _ _ _ | exact Wk.ow_ms _ _ _)) (hz : Wk (evA t z) (.agg ys) := by exact (by first | exact Wk.refl _ | exact Wk.nil | exact Wk.clip _ | exact Wk.tip _ _ _ | exact Wk.opt _ _ (by first | assumption | rfl) | exact Wk.gr _ _ | exact Wk.nil_gr | exact Wk.trans (Wk.opt _ _ (by first | assumption | rfl)) (by first | exact Wk.gr _ _ | exact Wk.nil | exact Wk.clip _ | exact Wk.tip _ _ _) | exact Wk.aggs (by repeat (first | exact Wks.nil | refine Wks.cons (by first | exact Wk.refl _ | exact Wk.nil | exact Wk.clip _ | exact Wk.tip _ _ _ | exact Wk.gr _ _ | exact Wk.nil_gr | exact Wk.nil_ow | exact Wk.ms_ow _ _ _) ?_)) rfl | exact Wk.nil_ow | exact Wk.ms_ow _ _ _ | exact Wk.ow_ms _ _ _)) (hm : (g, .cells cs) ∈ bs := by exact (by repeat (first | exact List.mem_cons_self | assumption | refine List.mem_cons_of_mem _ ?_ | refine mem_gB ?_ | refine mem_gO ?_))) (hu : BUpd bs g (.cells cs) g (.cells ys) bs' := by exact (by repeat (first | exact BUpd.head | apply BUpd.tail | apply BUpd.gB | apply BUpd.gO))) (hl : cs.length = sz := by exact (by first | rfl | (simp; done) | (simp only [List.length_map]; omega) | (simp; omega) | omega)) (hs : ys.length = sz := by exact (by first | rfl | (simp; done) | (simp only [List.length_map]; omega) | (simp; omega) | omega))
    (hg : o.guard = none := by rfl) (hk : okOps o = true := by rfl) (hd : o.dst = none := by rfl) (h : AL P N ops Q rest t bs') : AL P N ops Q (o :: rest) t bs :=
  .w (OpW.store ho hx hz (.inr ⟨_, rfl⟩) hm (show spl cs 0 ys = ys from spl_all _ _ (by omega)) hu (by omega) hs) hg hk (by rw [hd]; rfl) fun _ _ ⟨e1, e2⟩ => by subst e1; subst e2; rw [hd]; exact h
theorem AL.store_row {ty : TypeId} {x z : Operand} {g i j cap s sz by_ : Nat} {e : TypeId} {d : TypeDesc} {rs rs' : List (List A)} {row : List A} {bs' : BS} (ho : o.op = .store ty x z := by rfl) (h1 : TI P ty d sz by_ := by infer_instance) (hx : Wk (evA t x) (.rp g s i j) := by exact (by first | exact Wk.refl _ | exact Wk.nil | exact Wk.clip _ | exact Wk.tip _ _ _ | exact Wk.opt _ _ (by first | assumption | rfl) | exact Wk.gr _ _ | exact Wk.nil_gr | exact Wk.trans (Wk.opt _ _ (by first | assumption | rfl)) (by first | exact Wk.gr _ _ | exact Wk.nil | exact Wk.clip _ | exact Wk.tip _ _ _) | exact Wk.aggs (by repeat (first | exact Wks.nil | refine Wks.cons (by first | exact Wk.refl _ | exact Wk.nil | exact Wk.clip _ | exact Wk.tip _ _ _ | exact Wk.gr _ _ | exact Wk.nil_gr | exact Wk.nil_ow | exact Wk.ms_ow _ _ _) ?_)) rfl | exact Wk.nil_ow | exact Wk.ms_ow _ _ _ | exact Wk.ow_ms _ _ _)) (hz : Wk (evA t z) y := by exact (by first | exact Wk.opt _ _ (by first | assumption | rfl) | exact Wk.of_eq (by (conv => lhs; whnf) <;> rfl))) (hc : y.isCell = true ∨ ∃ xs, y = .agg xs := by exact (by first | exact .inl rfl | exact .inr ⟨_, rfl⟩)) (hm : (g, .rows rs cap s e) ∈ bs := by exact (by repeat (first | exact List.mem_cons_self | assumption | refine List.mem_cons_of_mem _ ?_ | refine mem_gB ?_ | refine mem_gO ?_))) (hr : rs[i]? = some row := by first | assumption | rfl) (hrs : rs.set i (spl row j (cellsOf y)) = rs' := by exact (by first | ((simp only [spl, cellsOf, List.set_cons_zero, List.set_cons_succ]) <;> rfl) | rfl)) (hu : BUpd bs g (.rows rs cap s e) g (.rows rs' cap s e) bs' := by exact (by repeat (first | exact BUpd.head | apply BUpd.tail | apply BUpd.gB | apply BUpd.gO))) (hl : j + sz ≤ s := by exact (by first | rfl | (simp; done) | (simp only [List.length_map]; omega) | (simp; omega) | omega)) (hs : (cellsOf y).length = sz := by exact (by first | rfl | (simp; done) | (simp only [List.length_map]; omega) | (simp; omega) | omega))
    (hg : o.guard = none := by rfl) (hk : okOps o = true := by rfl) (hd : o.dst = none := by rfl) (h : AL P N ops Q rest t bs') : AL P N ops Q (o :: rest) t bs :=
  .w (OpW.store_row ho hx hz hc hm hr hrs hu hl hs) hg hk (by rw [hd]; rfl) fun _ _ ⟨e1, e2⟩ => by subst e1; subst e2; rw [hd]; exact h
/-- Appends. -/
theorem AL.app_new {d : Nat} {ty e : TypeId} {x z : Operand} {s1 b1 s2 b2 : Nat} {d2 : TypeDesc} {zs : List Value} {cs : List A} {rows rows2 rs : List (List A)} {q : A} (ho : o.op = .call { callee := .builtin .append, args := #[x, z], argTypes := #[ty, ty] } := by rfl) (h1 : TI P ty (.slice e) s1 b1 := by infer_instance) (h2 : TI P e d2 s2 b2 := by infer_instance) (hz : TC P e zs cs := by infer_instance)
    (hx : evA t x = q := by exact (by (conv => lhs; whnf) <;> rfl)) (hf : Full q rows := by first | exact .nil | exact .clip _) (hy : Wk (evA t z) (.sl rows2) := by exact (by first | exact Wk.refl _ | exact Wk.nil | exact Wk.clip _ | exact Wk.tip _ _ _ | exact Wk.opt _ _ (by first | assumption | rfl) | exact Wk.gr _ _ | exact Wk.nil_gr | exact Wk.trans (Wk.opt _ _ (by first | assumption | rfl)) (by first | exact Wk.gr _ _ | exact Wk.nil | exact Wk.clip _ | exact Wk.tip _ _ _) | exact Wk.aggs (by repeat (first | exact Wks.nil | refine Wks.cons (by first | exact Wk.refl _ | exact Wk.nil | exact Wk.clip _ | exact Wk.tip _ _ _ | exact Wk.gr _ _ | exact Wk.nil_gr | exact Wk.nil_ow | exact Wk.ms_ow _ _ _) ?_)) rfl | exact Wk.nil_ow | exact Wk.ms_ow _ _ _ | exact Wk.ow_ms _ _ _)) (hrs : rows ++ rows2 = rs := by exact (by first | exact List.nil_append _ | ((simp only [List.map_append, List.map_cons, List.map_nil]) <;> rfl) | rfl)) (hp : 0 < rows2.length := by exact (by first | rfl | (simp; done) | (simp only [List.length_map]; omega) | (simp; omega) | omega)) (hs : ∀ r ∈ rs, r.length = s2 := by exact (by first | assumption | (intro r hr; simp at hr; done) | (intro r hr; simp at hr; subst hr; rfl) | (intro r hr; simp at hr; (rcases hr with ⟨_, _, rfl⟩ | rfl) <;> rfl) | (intro r hr; simp at hr; (obtain ⟨_, _, rfl⟩ := hr); rfl))) (hbd : rs.length * b2 ≤ 140737488355328 := by exact (by first | rfl | (simp; done) | (simp only [List.length_map]; omega) | (simp; omega) | omega)) (hzl : cs.length = s2 := by rfl) (hpos : 0 < s2 := by decide) (hb2 : 0 < b2 := by decide)
    (hg : o.guard = none := by rfl) (hk : okOps o = true := by rfl) (hd : o.dst = some d := by rfl) (hN : Nat.blt d N = true := by rfl) (h : ∀ g c, AL P N ops Q rest ((d, .tip g c rs) :: t) ((g, .tip rs.length c s2 e) :: bs)) : AL P N ops Q (o :: rest) t bs := by
  subst hrs
  exact .w (OpW.app_new ho hx hf hy hzl hpos hb2 hs hp (by simpa using hbd)) hg hk (by rw [hd]; exact hN) fun _ _ ⟨g, c, e1, e2⟩ => by subst e1; subst e2; rw [hd]; exact h g c
theorem AL.app_tip {d : Nat} {ty e : TypeId} {x z : Operand} {s1 b1 s2 b2 g c n : Nat} {d2 : TypeDesc} {zs : List Value} {cs : List A} {rows rows2 rs : List (List A)} {B : Nat → Nat → BS} (ho : o.op = .call { callee := .builtin .append, args := #[x, z], argTypes := #[ty, ty] } := by rfl) (h1 : TI P ty (.slice e) s1 b1 := by infer_instance) (h2 : TI P e d2 s2 b2 := by infer_instance) (hz : TC P e zs cs := by infer_instance)
    (hx : Wk (evA t x) (.tip g c rows) := by exact Wk.refl _) (hy : Wk (evA t z) (.sl rows2) := by exact (by first | exact Wk.refl _ | exact Wk.nil | exact Wk.clip _ | exact Wk.tip _ _ _ | exact Wk.opt _ _ (by first | assumption | rfl) | exact Wk.gr _ _ | exact Wk.nil_gr | exact Wk.trans (Wk.opt _ _ (by first | assumption | rfl)) (by first | exact Wk.gr _ _ | exact Wk.nil | exact Wk.clip _ | exact Wk.tip _ _ _) | exact Wk.aggs (by repeat (first | exact Wks.nil | refine Wks.cons (by first | exact Wk.refl _ | exact Wk.nil | exact Wk.clip _ | exact Wk.tip _ _ _ | exact Wk.gr _ _ | exact Wk.nil_gr | exact Wk.nil_ow | exact Wk.ms_ow _ _ _) ?_)) rfl | exact Wk.nil_ow | exact Wk.ms_ow _ _ _ | exact Wk.ow_ms _ _ _)) (hrs : rows ++ rows2 = rs := by exact (by first | exact List.nil_append _ | ((simp only [List.map_append, List.map_cons, List.map_nil]) <;> rfl) | rfl)) (hu : ∀ g' c', BUpd bs g (.tip n c s2 e) g' (.tip rs.length c' s2 e) (B g' c') := by (intro g' c'; exact (by repeat (first | exact BUpd.head | apply BUpd.tail | apply BUpd.gB | apply BUpd.gO)))) (hn : rows.length = n := by exact (by first | rfl | (simp; done) | (simp only [List.length_map]; omega) | (simp; omega) | omega)) (hp : 0 < rows2.length := by exact (by first | rfl | (simp; done) | (simp only [List.length_map]; omega) | (simp; omega) | omega)) (hs : ∀ r ∈ rs, r.length = s2 := by exact (by first | assumption | (intro r hr; simp at hr; done) | (intro r hr; simp at hr; subst hr; rfl) | (intro r hr; simp at hr; (rcases hr with ⟨_, _, rfl⟩ | rfl) <;> rfl) | (intro r hr; simp at hr; (obtain ⟨_, _, rfl⟩ := hr); rfl))) (hbd : rs.length * b2 ≤ 140737488355328 := by exact (by first | rfl | (simp; done) | (simp only [List.length_map]; omega) | (simp; omega) | omega)) (hzl : cs.length = s2 := by rfl) (hpos : 0 < s2 := by decide) (hb2 : 0 < b2 := by decide)
    (hg : o.guard = none := by rfl) (hk : okOps o = true := by rfl) (hd : o.dst = some d := by rfl) (hN : Nat.blt d N = true := by rfl) (h : ∀ g c, AL P N ops Q rest ((d, .tip g c rs) :: t) (B g c)) : AL P N ops Q (o :: rest) t bs := by
  subst hrs
  exact .w (OpW.app_tip ho hx hy hu hn hzl hpos hb2 hs hp (by simpa using hbd)) hg hk (by rw [hd]; exact hN) fun _ _ ⟨g, c, e1, e2⟩ => by subst e1; subst e2; rw [hd]; exact h g c
theorem AL.app_newr {d : Nat} {ty e : TypeId} {x z : Operand} {s1 b1 s2 b2 : Nat} {d2 : TypeDesc} {zs : List Value} {cs : List A} {rows rows2 rs : List (List A)} {q : A} (ho : o.op = .call { callee := .builtin .append, args := #[x, z], argTypes := #[ty, ty] } := by rfl) (h1 : TI P ty (.slice e) s1 b1 := by infer_instance) (h2 : TI P e d2 s2 b2 := by infer_instance) (hz : TC P e zs cs := by infer_instance)
    (hx : evA t x = q := by exact (by (conv => lhs; whnf) <;> rfl)) (hf : Full q rows := by first | exact .nil | exact .clip _) (hy : Wk (evA t z) (.sl rows2) := by exact (by first | exact Wk.refl _ | exact Wk.nil | exact Wk.clip _ | exact Wk.tip _ _ _ | exact Wk.opt _ _ (by first | assumption | rfl) | exact Wk.gr _ _ | exact Wk.nil_gr | exact Wk.trans (Wk.opt _ _ (by first | assumption | rfl)) (by first | exact Wk.gr _ _ | exact Wk.nil | exact Wk.clip _ | exact Wk.tip _ _ _) | exact Wk.aggs (by repeat (first | exact Wks.nil | refine Wks.cons (by first | exact Wk.refl _ | exact Wk.nil | exact Wk.clip _ | exact Wk.tip _ _ _ | exact Wk.gr _ _ | exact Wk.nil_gr | exact Wk.nil_ow | exact Wk.ms_ow _ _ _) ?_)) rfl | exact Wk.nil_ow | exact Wk.ms_ow _ _ _ | exact Wk.ow_ms _ _ _)) (hrs : rows ++ rows2 = rs := by exact (by first | exact List.nil_append _ | ((simp only [List.map_append, List.map_cons, List.map_nil]) <;> rfl) | rfl)) (hp : 0 < rows2.length := by exact (by first | rfl | (simp; done) | (simp only [List.length_map]; omega) | (simp; omega) | omega)) (hs : ∀ r ∈ rs, r.length = s2 := by exact (by first | assumption | (intro r hr; simp at hr; done) | (intro r hr; simp at hr; subst hr; rfl) | (intro r hr; simp at hr; (rcases hr with ⟨_, _, rfl⟩ | rfl) <;> rfl) | (intro r hr; simp at hr; (obtain ⟨_, _, rfl⟩ := hr); rfl))) (hbd : rs.length * b2 ≤ 140737488355328 := by exact (by first | rfl | (simp; done) | (simp only [List.length_map]; omega) | (simp; omega) | omega)) (hzl : cs.length = s2 := by rfl) (hpos : 0 < s2 := by decide) (hb2 : 0 < b2 := by decide)
    (hg : o.guard = none := by rfl) (hk : okOps o = true := by rfl) (hd : o.dst = some d := by rfl) (hN : Nat.blt d N = true := by rfl) (h : ∀ g c, rs.length ≤ c → AL P N ops Q rest ((d, .ms g 0 rs.length c) :: t) ((g, .rows rs c s2 e) :: bs)) : AL P N ops Q (o :: rest) t bs := by
  subst hrs
  exact .w (OpW.app_newr ho hx hf hy hzl hpos hb2 hs hp (by simpa using hbd)) hg hk (by rw [hd]; exact hN) fun _ _ ⟨g, c, e1, e2, e3⟩ => by subst e1; subst e2; rw [hd]; exact h g c e3
theorem AL.app_rows {d : Nat} {ty e : TypeId} {x z : Operand} {s1 b1 s2 b2 g c n : Nat} {d2 : TypeDesc} {zs : List Value} {cs : List A} {r0 rows rows2 rs : List (List A)} {B : Nat → Nat → BS} (ho : o.op = .call { callee := .builtin .append, args := #[x, z], argTypes := #[ty, ty] } := by rfl) (h1 : TI P ty (.slice e) s1 b1 := by infer_instance) (h2 : TI P e d2 s2 b2 := by infer_instance) (hz : TC P e zs cs := by infer_instance)
    (hx : Wk (evA t x) (.ms g 0 n c) := by exact Wk.refl _) (hy : Wk (evA t z) (.sl rows2) := by exact (by first | exact Wk.refl _ | exact Wk.nil | exact Wk.clip _ | exact Wk.tip _ _ _ | exact Wk.opt _ _ (by first | assumption | rfl) | exact Wk.gr _ _ | exact Wk.nil_gr | exact Wk.trans (Wk.opt _ _ (by first | assumption | rfl)) (by first | exact Wk.gr _ _ | exact Wk.nil | exact Wk.clip _ | exact Wk.tip _ _ _) | exact Wk.aggs (by repeat (first | exact Wks.nil | refine Wks.cons (by first | exact Wk.refl _ | exact Wk.nil | exact Wk.clip _ | exact Wk.tip _ _ _ | exact Wk.gr _ _ | exact Wk.nil_gr | exact Wk.nil_ow | exact Wk.ms_ow _ _ _) ?_)) rfl | exact Wk.nil_ow | exact Wk.ms_ow _ _ _ | exact Wk.ow_ms _ _ _)) (hm : (g, .rows r0 c s2 e) ∈ bs := by exact (by repeat (first | exact List.mem_cons_self | assumption | refine List.mem_cons_of_mem _ ?_ | refine mem_gB ?_ | refine mem_gO ?_))) (hrows : r0.take n = rows := by first | exact List.take_of_length_le (by simp) | rfl) (hrs : rows ++ rows2 = rs := by exact (by first | exact List.nil_append _ | ((simp only [List.map_append, List.map_cons, List.map_nil]) <;> rfl) | rfl)) (hu : ∀ g' c', BUpd bs g (.rows r0 c s2 e) g' (.rows rs c' s2 e) (B g' c') := by (intro g' c'; exact (by repeat (first | exact BUpd.head | apply BUpd.tail | apply BUpd.gB | apply BUpd.gO)))) (hn : n ≤ r0.length := by exact (by first | rfl | (simp; done) | (simp only [List.length_map]; omega) | (simp; omega) | omega)) (hp : 0 < rows2.length := by exact (by first | rfl | (simp; done) | (simp only [List.length_map]; omega) | (simp; omega) | omega)) (hs : ∀ r ∈ rows2, r.length = s2 := by exact (by first | assumption | (intro r hr; simp at hr; done) | (intro r hr; simp at hr; subst hr; rfl) | (intro r hr; simp at hr; (rcases hr with ⟨_, _, rfl⟩ | rfl) <;> rfl) | (intro r hr; simp at hr; (obtain ⟨_, _, rfl⟩ := hr); rfl))) (hbd : (n + rows2.length) * b2 ≤ 140737488355328 := by exact (by first | rfl | (simp; done) | (simp only [List.length_map]; omega) | (simp; omega) | omega)) (hzl : cs.length = s2 := by rfl) (hpos : 0 < s2 := by decide) (hb2 : 0 < b2 := by decide)
    (hg : o.guard = none := by rfl) (hk : okOps o = true := by rfl) (hd : o.dst = some d := by rfl) (hN : Nat.blt d N = true := by rfl) (h : ∀ g c, n + rows2.length ≤ c → AL P N ops Q rest ((d, .ms g 0 (n + rows2.length) c) :: t) (B g c)) : AL P N ops Q (o :: rest) t bs := by
  subst hrs
  exact .w (OpW.app_rows ho hx hy hrows hu hn hzl hpos hb2 hs hp hbd) hg hk (by rw [hd]; exact hN) fun _ _ ⟨g, c, e1, e2, e3⟩ => by subst e1; subst e2; rw [hd]; exact h g c e3
/-- A row that is laid, appended, read only from then on. -/
theorem AL.app_sl {d : Nat} {ty e : TypeId} {x z : Operand} {s1 b1 s2 b2 : Nat} {d2 : TypeDesc} {zs : List Value} {cs : List A} {rows rows2 rs : List (List A)} {q : A} (ho : o.op = .call { callee := .builtin .append, args := #[x, z], argTypes := #[ty, ty] } := by rfl) (h1 : TI P ty (.slice e) s1 b1 := by infer_instance) (h2 : TI P e d2 s2 b2 := by infer_instance) (hz : TC P e zs cs := by infer_instance)
    (hx : evA t x = q := by exact (by (conv => lhs; whnf) <;> rfl)) (hf : Full q rows := by first | exact .nil | exact .clip _) (hy : Wk (evA t z) (.sl rows2) := by exact (by first | exact Wk.refl _ | exact Wk.nil | exact Wk.clip _ | exact Wk.tip _ _ _ | exact Wk.opt _ _ (by first | assumption | rfl) | exact Wk.gr _ _ | exact Wk.nil_gr | exact Wk.trans (Wk.opt _ _ (by first | assumption | rfl)) (by first | exact Wk.gr _ _ | exact Wk.nil | exact Wk.clip _ | exact Wk.tip _ _ _) | exact Wk.aggs (by repeat (first | exact Wks.nil | refine Wks.cons (by first | exact Wk.refl _ | exact Wk.nil | exact Wk.clip _ | exact Wk.tip _ _ _ | exact Wk.gr _ _ | exact Wk.nil_gr | exact Wk.nil_ow | exact Wk.ms_ow _ _ _) ?_)) rfl | exact Wk.nil_ow | exact Wk.ms_ow _ _ _ | exact Wk.ow_ms _ _ _)) (hrs : rows ++ rows2 = rs := by exact (by first | exact List.nil_append _ | ((simp only [List.map_append, List.map_cons, List.map_nil]) <;> rfl) | rfl)) (hs : ∀ r ∈ rs, r.length = s2 := by exact (by first | assumption | (intro r hr; simp at hr; done) | (intro r hr; simp at hr; subst hr; rfl) | (intro r hr; simp at hr; (rcases hr with ⟨_, _, rfl⟩ | rfl) <;> rfl) | (intro r hr; simp at hr; (obtain ⟨_, _, rfl⟩ := hr); rfl))) (hbd : rs.length * b2 ≤ 140737488355328 := by exact (by first | rfl | (simp; done) | (simp only [List.length_map]; omega) | (simp; omega) | omega)) (hzl : cs.length = s2 := by rfl) (hpos : 0 < s2 := by decide) (hb2 : 0 < b2 := by decide)
    (hg : o.guard = none := by rfl) (hk : okOps o = true := by rfl) (hd : o.dst = some d := by rfl) (hN : Nat.blt d N = true := by rfl) (h : AL P N ops Q rest ((d, .sl rs) :: t) bs) : AL P N ops Q (o :: rest) t bs := by
  subst hrs
  exact .s hg hd hN hk (OpQ.app_new ho hx hf hy hzl hpos hb2 hs (by simpa using hbd)) h
/-- A slice of new cells. -/
theorem AL.make {d n c : Nat} {ty e : TypeId} {x z : Operand} {s1 b1 s2 b2 : Nat} {d2 : TypeDesc} {zs : List Value} {cs cells : List A} {k j : IntKind} {i1 i2 : Int} (ho : o.op = .makeSlice ty x z := by rfl) (h1 : TI P ty (.slice e) s1 b1 := by infer_instance) (h2 : TI P e d2 s2 b2 := by infer_instance) (hz : TC P e zs cs := by infer_instance)
    (hx : Wk (evA t x) (.v (.int k i1)) := by exact (by first | exact Wk.refl _ | exact Wk.nil | exact Wk.clip _ | exact Wk.tip _ _ _ | exact Wk.opt _ _ (by first | assumption | rfl) | exact Wk.gr _ _ | exact Wk.nil_gr | exact Wk.trans (Wk.opt _ _ (by first | assumption | rfl)) (by first | exact Wk.gr _ _ | exact Wk.nil | exact Wk.clip _ | exact Wk.tip _ _ _) | exact Wk.aggs (by repeat (first | exact Wks.nil | refine Wks.cons (by first | exact Wk.refl _ | exact Wk.nil | exact Wk.clip _ | exact Wk.tip _ _ _ | exact Wk.gr _ _ | exact Wk.nil_gr | exact Wk.nil_ow | exact Wk.ms_ow _ _ _) ?_)) rfl | exact Wk.nil_ow | exact Wk.ms_ow _ _ _ | exact Wk.ow_ms _ _ _)) (hz2 : Wk (evA t z) (.v (.int j i2)) := by exact (by first | exact Wk.refl _ | exact Wk.nil | exact Wk.clip _ | exact Wk.tip _ _ _ | exact Wk.opt _ _ (by first | assumption | rfl) | exact Wk.gr _ _ | exact Wk.nil_gr | exact Wk.trans (Wk.opt _ _ (by first | assumption | rfl)) (by first | exact Wk.gr _ _ | exact Wk.nil | exact Wk.clip _ | exact Wk.tip _ _ _) | exact Wk.aggs (by repeat (first | exact Wks.nil | refine Wks.cons (by first | exact Wk.refl _ | exact Wk.nil | exact Wk.clip _ | exact Wk.tip _ _ _ | exact Wk.gr _ _ | exact Wk.nil_gr | exact Wk.nil_ow | exact Wk.ms_ow _ _ _) ?_)) rfl | exact Wk.nil_ow | exact Wk.ms_ow _ _ _ | exact Wk.ow_ms _ _ _)) (e1 : i1 = (n : Nat) := by rfl) (e2 : i2 = (c : Nat) := by rfl) (hnc : n ≤ c := by exact (by first | rfl | (simp; done) | (simp only [List.length_map]; omega) | (simp; omega) | omega)) (hl : cs.length = s2 := by rfl) (hpos : 0 < s2 := by decide) (hc : c * b2 ≤ 140737488355328 := by exact (by first | rfl | (simp; done) | (simp only [List.length_map]; omega) | (simp; omega) | omega)) (hc2 : c ≤ 140737488355328 := by exact (by first | rfl | (simp; done) | (simp only [List.length_map]; omega) | (simp; omega) | omega)) (hcells : (List.replicate c cs).flatten = cells := by rfl)
    (hg : o.guard = none := by rfl) (hk : okOps o = true := by rfl) (hd : o.dst = some d := by rfl) (hN : Nat.blt d N = true := by rfl) (h : ∀ g, AL P N ops Q rest ((d, .ms g 0 n c) :: t) ((g, .cells cells) :: bs)) : AL P N ops Q (o :: rest) t bs := by
  subst hcells
  exact .w (OpW.makeSlice ho hx hz2 e1 e2 hnc hl hpos hc hc2) hg hk (by rw [hd]; exact hN) fun _ _ ⟨g, h1, h2⟩ => by subst h1; subst h2; rw [hd]; exact h g
/-- A call that turns nothing. -/
theorem AL.call {d K : Nat} {args : Array Operand} {tys : Array TypeId} {xs : List A} (hc : APure P K xs y) (ho : o.op = .call { callee := .value (.func K), args, argTypes := tys } := by rfl) [hF : FI P K] (ha : Wks (args.toList.map (evA t)) xs := by (repeat (first | exact Wks.nil | refine Wks.cons (by first | exact Wk.refl _ | exact Wk.nil | exact Wk.clip _ | exact Wk.tip _ _ _ | exact Wk.opt _ _ (by first | assumption | rfl) | exact Wk.gr _ _ | exact Wk.nil_gr | exact Wk.trans (Wk.opt _ _ (by first | assumption | rfl)) (by first | exact Wk.gr _ _ | exact Wk.nil | exact Wk.clip _ | exact Wk.tip _ _ _) | exact Wk.aggs (by repeat (first | exact Wks.nil | refine Wks.cons (by first | exact Wk.refl _ | exact Wk.nil | exact Wk.clip _ | exact Wk.tip _ _ _ | exact Wk.gr _ _ | exact Wk.nil_gr | exact Wk.nil_ow | exact Wk.ms_ow _ _ _) ?_)) rfl | exact Wk.nil_ow | exact Wk.ms_ow _ _ _ | exact Wk.ow_ms _ _ _) ?_))) (hg : o.guard = none := by rfl) (hk : okOps o = true := by rfl) (hd : o.dst = some d := by rfl) (hN : Nat.blt d N = true := by rfl)
    (h : AL P N ops Q rest ((d, y) :: t) bs) : AL P N ops Q (o :: rest) t bs := .s hg hd hN hk (OpQ.call ho hc ha) h
theorem AL.callw {d K : Nat} {args : Array Operand} {tys : Array TypeId} {xs : List A} {R : A → BS → Prop} (hc : ACalls P K xs bs R) (ho : o.op = .call { callee := .value (.func K), args, argTypes := tys } := by rfl) [hF : FI P K] (ha : Wks (args.toList.map (evA t)) xs := by (repeat (first | exact Wks.nil | refine Wks.cons (by first | exact Wk.refl _ | exact Wk.nil | exact Wk.clip _ | exact Wk.tip _ _ _ | exact Wk.opt _ _ (by first | assumption | rfl) | exact Wk.gr _ _ | exact Wk.nil_gr | exact Wk.trans (Wk.opt _ _ (by first | assumption | rfl)) (by first | exact Wk.gr _ _ | exact Wk.nil | exact Wk.clip _ | exact Wk.tip _ _ _) | exact Wk.aggs (by repeat (first | exact Wks.nil | refine Wks.cons (by first | exact Wk.refl _ | exact Wk.nil | exact Wk.clip _ | exact Wk.tip _ _ _ | exact Wk.gr _ _ | exact Wk.nil_gr | exact Wk.nil_ow | exact Wk.ms_ow _ _ _) ?_)) rfl | exact Wk.nil_ow | exact Wk.ms_ow _ _ _ | exact Wk.ow_ms _ _ _) ?_))) (hg : o.guard = none := by rfl) (hk : okOps o = true := by rfl) (hd : o.dst = some d := by rfl) (hN : Nat.blt d N = true := by rfl)
    (h : ∀ y bs', R y bs' → AL P N ops Q rest ((d, y) :: t) bs') : AL P N ops Q (o :: rest) t bs := .w (OpW.call ho hc ha) hg hk (by rw [hd]; exact hN) fun y bs' hR => by rw [hd]; exact h y bs' hR
/-- A guarded call that turns nothing. -/
theorem OpQ.c {K : Nat} {args : Array Operand} {tys : Array TypeId} {xs : List A} (hc : APure P K xs y) (ho : o.op = .call { callee := .value (.func K), args, argTypes := tys } := by rfl) [hF : FI P K] (ha : Wks (args.toList.map (evA t)) xs := by (repeat (first | exact Wks.nil | refine Wks.cons (by first | exact Wk.refl _ | exact Wk.nil | exact Wk.clip _ | exact Wk.tip _ _ _ | exact Wk.opt _ _ (by first | assumption | rfl) | exact Wk.gr _ _ | exact Wk.nil_gr | exact Wk.trans (Wk.opt _ _ (by first | assumption | rfl)) (by first | exact Wk.gr _ _ | exact Wk.nil | exact Wk.clip _ | exact Wk.tip _ _ _) | exact Wk.aggs (by repeat (first | exact Wks.nil | refine Wks.cons (by first | exact Wk.refl _ | exact Wk.nil | exact Wk.clip _ | exact Wk.tip _ _ _ | exact Wk.gr _ _ | exact Wk.nil_gr | exact Wk.nil_ow | exact Wk.ms_ow _ _ _) ?_)) rfl | exact Wk.nil_ow | exact Wk.ms_ow _ _ _ | exact Wk.ow_ms _ _ _) ?_))) : OpQ P o t bs y := OpQ.call ho hc ha
theorem OpQ.cv {K : Nat} {x : Operand} {args : Array Operand} {tys : Array TypeId} {xs x1 x2 : List A} (hc : APure P K xs y) (ho : o.op = .call { callee := .value x, args, argTypes := tys } := by rfl) [hF : FI P K] (hx : Wk (evA t x) (.fn (.func K) x1 x2) := by exact (by first | exact Wk.refl _ | exact Wk.nil | exact Wk.clip _ | exact Wk.tip _ _ _ | exact Wk.opt _ _ (by first | assumption | rfl) | exact Wk.gr _ _ | exact Wk.nil_gr | exact Wk.trans (Wk.opt _ _ (by first | assumption | rfl)) (by first | exact Wk.gr _ _ | exact Wk.nil | exact Wk.clip _ | exact Wk.tip _ _ _) | exact Wk.aggs (by repeat (first | exact Wks.nil | refine Wks.cons (by first | exact Wk.refl _ | exact Wk.nil | exact Wk.clip _ | exact Wk.tip _ _ _ | exact Wk.gr _ _ | exact Wk.nil_gr | exact Wk.nil_ow | exact Wk.ms_ow _ _ _) ?_)) rfl | exact Wk.nil_ow | exact Wk.ms_ow _ _ _ | exact Wk.ow_ms _ _ _)) (ha : Wks (x1 ++ args.toList.map (evA t) ++ x2) xs := by (repeat (first | exact Wks.nil | refine Wks.cons (by first | exact Wk.refl _ | exact Wk.nil | exact Wk.clip _ | exact Wk.tip _ _ _ | exact Wk.opt _ _ (by first | assumption | rfl) | exact Wk.gr _ _ | exact Wk.nil_gr | exact Wk.trans (Wk.opt _ _ (by first | assumption | rfl)) (by first | exact Wk.gr _ _ | exact Wk.nil | exact Wk.clip _ | exact Wk.tip _ _ _) | exact Wk.aggs (by repeat (first | exact Wks.nil | refine Wks.cons (by first | exact Wk.refl _ | exact Wk.nil | exact Wk.clip _ | exact Wk.tip _ _ _ | exact Wk.gr _ _ | exact Wk.nil_gr | exact Wk.nil_ow | exact Wk.ms_ow _ _ _) ?_)) rfl | exact Wk.nil_ow | exact Wk.ms_ow _ _ _ | exact Wk.ow_ms _ _ _) ?_))) : OpQ P o t bs y := OpQ.callv ho hx hc rfl ha
/-! ### code -/
theorem thenQ.n (h : K t bs) : thenQ K Q .normal t bs := h
theorem thenQ.r (h : Q .ret t bs) : thenQ K Q .ret t bs := h
theorem thenQ.e {i : Nat} (h : Q (.exit i) t bs) : thenQ K Q (.exit i) t bs := h
theorem thenQ.g {i : Nat} (h : Q (.goto i) t bs) : thenQ K Q (.goto i) t bs := h
theorem blockQ.n {id : Nat} (h : Q .normal t bs) : blockQ id Q .normal t bs := h
theorem blockQ.r {id : Nat} (h : Q .ret t bs) : blockQ id Q .ret t bs := h
theorem blockQ.g {id i : Nat} (h : Q (.goto i) t bs) : blockQ id Q (.goto i) t bs := h
theorem blockQ.e {id : Nat} (h : Q .normal t bs) : blockQ id Q (.exit id) t bs := by simp only [blockQ, if_true]; exact h
theorem blockQ.x {id i : Nat} (hi : Nat.beq i id = false) (h : Q (.exit i) t bs) : blockQ id Q (.exit i) t bs := by
  have : i ≠ id := fun e => by subst e; simp at hi
  simp only [blockQ, if_neg this]; exact h
section
variable {α : Type} {T' : α → T} {B : α → BS} {p : α → Prop} {m : α → Nat} {s : α}
theorem loopQ.r (h : Q .ret t bs) : loopQ T' B p m s Q .ret t bs := h
theorem loopQ.e {i : Nat} (h : Q (.exit i) t bs) : loopQ T' B p m s Q (.exit i) t bs := h
theorem loopQ.g {i : Nat} (h : Q (.goto i) t bs) : loopQ T' B p m s Q (.goto i) t bs := h
theorem loopQ.n (s' : α) (hp : p s') (hm : m s' < m s) (ht : Sub t (T' s')) (hb : Subp (B s') bs) : loopQ T' B p m s Q .normal t bs := ⟨s', hp, hm, ht, hb⟩
@[reducible] def loopQ2 {α β : Type} (T' : α → β → T) (B : α → β → BS) (p : α → β → Prop) (m : α → β → Nat) (i : α) (j : β) (Q : Exit → T → BS → Prop) : Exit → T → BS → Prop := loopQ (fun x : α × β => T' x.1 x.2) (fun x => B x.1 x.2) (fun x => p x.1 x.2) (fun x => m x.1 x.2) (i, j) Q
@[reducible] def loopQ3 {α β γ : Type} (T' : α → β → γ → T) (B : α → β → γ → BS) (p : α → β → γ → Prop) (m : α → β → γ → Nat) (i : α) (j : β) (k : γ) (Q : Exit → T → BS → Prop) : Exit → T → BS → Prop := loopQ (fun x : α × β × γ => T' x.1 x.2.1 x.2.2) (fun x => B x.1 x.2.1 x.2.2) (fun x => p x.1 x.2.1 x.2.2) (fun x => m x.1 x.2.1 x.2.2) (i, j, k) Q
theorem loopQ.n2 {α β : Type} {T' : α → β → T} {B : α → β → BS} {p : α → β → Prop} {m : α → β → Nat} {i : α} {j : β} {Q : Exit → T → BS → Prop} {t : T} {bs : BS} (i' : α) (j' : β) (hp : p i' j') (hm : m i' j' < m i j) (ht : Sub t (T' i' j')) (hb : Subp (B i' j') bs) : loopQ2 T' B p m i j Q .normal t bs := ⟨(i', j'), hp, hm, ht, hb⟩
theorem loopQ.n3 {α β γ : Type} {T' : α → β → γ → T} {B : α → β → γ → BS} {p : α → β → γ → Prop} {m : α → β → γ → Nat} {i : α} {j : β} {k : γ} {Q : Exit → T → BS → Prop} {t : T} {bs : BS} (i' : α) (j' : β) (k' : γ) (hp : p i' j' k') (hm : m i' j' k' < m i j k) (ht : Sub t (T' i' j' k')) (hb : Subp (B i' j' k') bs) : loopQ3 T' B p m i j k Q .normal t bs := ⟨(i', j', k'), hp, hm, ht, hb⟩
end
/-- Loops of two or three things that turn. -/
theorem AW.loop2 {P : Program} {N : Nat} {x : Code} {Q : Exit → T → BS → Prop} {t : T} {bs : BS} {α β : Type} (T' : α → β → T) (B : α → β → BS) (p : α → β → Prop) (m : α → β → Nat) (i0 : α) (j0 : β) (h0 : p i0 j0) (ht : Sub t (T' i0 j0)) (hb : Subp (B i0 j0) bs)
    (round : ∀ i j, p i j → AW P N x (loopQ2 T' B p m i j Q) (T' i j) (B i j)) : AW P N (.loop x) Q t bs :=
  AW.loop (fun x : α × β => T' x.1 x.2) (fun x => B x.1 x.2) (fun x => p x.1 x.2) (fun x => m x.1 x.2) (i0, j0) h0 ht hb fun ⟨i, j⟩ h => round i j h
theorem AW.loop3 {P : Program} {N : Nat} {x : Code} {Q : Exit → T → BS → Prop} {t : T} {bs : BS} {α β γ : Type} (T' : α → β → γ → T) (B : α → β → γ → BS) (p : α → β → γ → Prop) (m : α → β → γ → Nat) (i0 : α) (j0 : β) (k0 : γ) (h0 : p i0 j0 k0) (ht : Sub t (T' i0 j0 k0)) (hb : Subp (B i0 j0 k0) bs)
    (round : ∀ i j k, p i j k → AW P N x (loopQ3 T' B p m i j k Q) (T' i j k) (B i j k)) : AW P N (.loop x) Q t bs :=
  AW.loop (fun x : α × β × γ => T' x.1 x.2.1 x.2.2) (fun x => B x.1 x.2.1 x.2.2) (fun x => p x.1 x.2.1 x.2.2) (fun x => m x.1 x.2.1 x.2.2) (i0, j0, k0) h0 ht hb fun ⟨i, j, k⟩ h => round i j k h
theorem AW.if_t {x z : Code} {c : Operand} (hc : evA t c = .v (.bool true)) (h : AW P N x Q t bs) : AW P N (.cond c x z) Q t bs := .cond hc (fun _ => h) (fun h => by cases h)
theorem AW.if_f {x z : Code} {c : Operand} (hc : evA t c = .v (.bool false)) (h : AW P N z Q t bs) : AW P N (.cond c x z) Q t bs := .cond hc (fun h => by cases h) (fun _ => h)
/-- A test of a proposition. -/
theorem AW.ifp {x z : Code} {c : Operand} {p : Prop} [Decidable p] (hc : evA t c = .v (.bool (decide p))) (ht : p → AW P N x Q t bs) (hf : ¬ p → AW P N z Q t bs) : AW P N (.cond c x z) Q t bs := .cond hc (fun h => ht (of_decide_eq_true h)) fun h => hf (of_decide_eq_false h)
theorem AW.ifn {x z : Code} {c : Operand} {p : Prop} [Decidable p] (hc : evA t c = .v (.bool (!decide p))) (ht : ¬ p → AW P N x Q t bs) (hf : p → AW P N z Q t bs) : AW P N (.cond c x z) Q t bs := .cond hc (fun h => ht (by simpa using h)) fun h => hf (by simpa using h)
theorem AW.ifp_t {x z : Code} {c : Operand} {p : Prop} [Decidable p] (hc : evA t c = .v (.bool (decide p))) (hp : p) (ht : AW P N x Q t bs) : AW P N (.cond c x z) Q t bs := .ifp hc (fun _ => ht) fun h => absurd hp h
theorem AW.ifp_f {x z : Code} {c : Operand} {p : Prop} [Decidable p] (hc : evA t c = .v (.bool (decide p))) (hp : ¬ p) (ht : AW P N z Q t bs) : AW P N (.cond c x z) Q t bs := .ifp hc (fun h => absurd h hp) fun _ => ht
theorem AW.ifeq {x z : Code} {c : Operand} {a b : Int} (hc : evA t c = .v (.bool (a == b))) (ht : a = b → AW P N x Q t bs) (hf : a ≠ b → AW P N z Q t bs) : AW P N (.cond c x z) Q t bs := .cond hc (fun h => ht (by simpa using h)) fun h => hf (by simpa using h)
theorem AW.ifne {x z : Code} {c : Operand} {a b : Int} (hc : evA t c = .v (.bool (a != b))) (ht : a ≠ b → AW P N x Q t bs) (hf : a = b → AW P N z Q t bs) : AW P N (.cond c x z) Q t bs := .cond hc (fun h => ht (by simpa using h)) fun h => hf (by simpa using h)
/-- One step on. -/
theorem go {G H : Prop} (s : H → G := by
    first
    | ((with_reducible show _ → AL _ _ _ _ (⟨_, _, _, _, _, some _⟩ :: _) _ _); first | exact fun h => AL.gs (h := h) | exact fun h => AL.gs0 (h := h) | exact fun h => AL.gk (h := h) | exact fun h => AL.gTf (h := h) | exact fun h => AL.gFt (h := h) | exact fun h => AL.gTt (h := h) | exact fun h => AL.gFf (h := h) | exact fun h => AL.gd (h := h))
    | ((with_reducible show _ → AL _ _ _ _ (⟨_, .store _ _ _, _, _, _, _⟩ :: _) _ _); first | exact fun h => AL.store (h := h) | exact fun h => AL.store_all (h := h) | exact fun h => AL.store_row (h := h))
    | ((with_reducible show _ → AL _ _ _ _ (⟨_, .alloc _, _, _, _, _⟩ :: _) _ _); first | exact fun h => AL.alloc (h := h))
    | ((with_reducible show _ → AL _ _ _ _ (⟨_, .box _ _, _, _, _, _⟩ :: _) _ _); first | exact fun h => AL.box (h := h))
    | ((with_reducible show _ → AL _ _ _ _ (_ :: _) _ _); first | exact fun h => AL.s (h := h) | exact fun h => AL.s0 (h := h))
    | ((with_reducible show _ → AL _ _ _ _ [] _ _); first | exact fun h => AL.nil h)
    | ((with_reducible show _ → AW _ _ (.seq _ _) _ _ _); first | exact fun h => AW.seq h)
    | ((with_reducible show _ → AW _ _ (.region _ _ false) _ _ _); first | exact fun h => AW.region h)
    | ((with_reducible show _ → AW _ _ (.block _ _) _ _ _); first | exact fun h => AW.block h)
    | ((with_reducible show _ → AW _ _ .ret _ _ _); first | exact fun h => AW.ret h)
    | ((with_reducible show _ → AW _ _ .skip _ _ _); first | exact fun h => AW.skip h)
    | ((with_reducible show _ → AW _ _ (.exit _) _ _ _); first | exact fun h => AW.exit h)
    | ((with_reducible show _ → AW _ _ (.goto _) _ _ _); first | exact fun h => AW.goto h)
    | ((with_reducible show _ → AW _ _ (.cond _ _ _) _ _ _); first | exact fun h => AW.if_t (by rfl) h | exact fun h => AW.if_f (by rfl) h | exact fun h => AW.ifp_t (by rfl) (by omega) h | exact fun h => AW.ifp_f (by rfl) (by omega) h)
    | ((with_reducible show _ → thenQ _ _ .normal _ _); first | exact fun h => thenQ.n h)
    | ((with_reducible show _ → thenQ _ _ .ret _ _); first | exact fun h => thenQ.r h)
    | ((with_reducible show _ → thenQ _ _ (.exit _) _ _); first | exact fun h => thenQ.e h)
    | ((with_reducible show _ → thenQ _ _ (.goto _) _ _); first | exact fun h => thenQ.g h)
    | ((with_reducible show _ → blockQ _ _ .normal _ _); first | exact fun h => blockQ.n h)
    | ((with_reducible show _ → blockQ _ _ .ret _ _); first | exact fun h => blockQ.r h)
    | ((with_reducible show _ → blockQ _ _ (.exit _) _ _); first | exact fun h => blockQ.e h | exact fun h => blockQ.x rfl h)
    | ((with_reducible show _ → blockQ _ _ (.goto _) _ _); first | exact fun h => blockQ.g h)
    | ((with_reducible show _ → loopQ _ _ _ _ _ _ .ret _ _); first | exact fun h => loopQ.r h)
    | ((with_reducible show _ → loopQ _ _ _ _ _ _ (.exit _) _ _); first | exact fun h => loopQ.e h)
    | ((with_reducible show _ → loopQ _ _ _ _ _ _ (.goto _) _ _); first | exact fun h => loopQ.g h)) (h : H) : G := s h
end
/-- The way into a function. -/
theorem ACalls.in_ {P : Program} {K : Nat} {fn : Func} {c : Code} {args : List A} {bs : BS} {R : A → BS → Prop} {N : Nat} (hf : P.funcs[K]? = some fn) (hn : fn.ntmps = N) {res : Array ResultVar} (hr : fn.results = res := by rfl) (hb : fn.body = some c := by rfl) (hl : Nat.ble args.length N = true := by rfl)
    (h : AW P N c (EndQ P res R) (argsT args 0) bs) : ACalls P K args bs R := .enter hf hb hn (Nat.le_of_ble_eq_true hl) (hr ▸ h)
/-- The end: what is handed back, which blocks stay. -/
theorem EndQ.ret {P : Program} {res : Array ResultVar} {R : A → BS → Prop} {t : T} {bs : BS} (r : A) (bs' : BS) (hr : RVs P t bs res r) (hs : Subp bs' bs) (h : R r bs') : EndQ P res R .ret t bs := ⟨r, bs', hr, hs, h⟩
theorem EndQ.nor {P : Program} {res : Array ResultVar} {R : A → BS → Prop} {t : T} {bs : BS} (r : A) (bs' : BS) (hr : RVs P t bs res r) (hs : Subp bs' bs) (h : R r bs') : EndQ P res R .normal t bs := ⟨r, bs', hr, hs, h⟩
/-- What results are, by the facts on their types. -/
theorem RV.r {P : Program} {t : T} {bs : BS} {i g sz by_ : Nat} {ty : TypeId} {cs : List A} {d : TypeDesc} [h1 : TI P ty d sz by_] (h : look t i = .ptr g 0 := by rfl) (hm : (g, .cells cs) ∈ bs := by exact (by repeat (first | exact List.mem_cons_self | assumption | refine List.mem_cons_of_mem _ ?_ | refine mem_gB ?_ | refine mem_gO ?_))) (hd : d.isRow = true := by rfl) (hl : cs.length = sz := by rfl) : RV P t bs (.cell i ty) (.agg cs) := .row h hm h1.und hd (by rw [h1.map_size, hl])
theorem RV.c {P : Program} {t : T} {bs : BS} {i g sz by_ : Nat} {ty : TypeId} {cs : List A} {y : A} {d : TypeDesc} [h1 : TI P ty d sz by_] (h : look t i = .ptr g 0 := by rfl) (hm : (g, .cells cs) ∈ bs := by exact (by repeat (first | exact List.mem_cons_self | assumption | refine List.mem_cons_of_mem _ ?_ | refine mem_gB ?_ | refine mem_gO ?_))) (hd : d.isRow = false := by rfl) (hc : cs = [y] := by rfl) : RV P t bs (.cell i ty) y := .cell h hm h1.und hd hc
theorem RV.t {P : Program} {t : T} {bs : BS} {i : Nat} {y : A} (h : look t i = y := by exact (by (conv => lhs; whnf) <;> rfl)) : RV P t bs (.tmp i) y := .tmp h
theorem RV.a {P : Program} {t : T} {bs : BS} {i g sz by_ s n : Nat} {ty e : TypeId} {α : Type} {R : α → List A} {v : List α} {d : TypeDesc} [h1 : TI P ty d sz by_] (h : look t i = .ptr g 0 := by rfl) (hm : (g, .rows (v.map R) n s e) ∈ bs := by exact (by repeat (first | exact List.mem_cons_self | assumption | refine List.mem_cons_of_mem _ ?_ | refine mem_gB ?_ | refine mem_gO ?_))) (hd : d.isRow = true := by rfl) (hR : ∀ x, (R x).length = s := by (intro x; rfl)) (hn : v.length = n := by first | assumption | rfl | (simp; done)) (hsz : n * s = sz := by rfl) : RV P t bs (.cell i ty) (.agg (v.map R).flatten) :=
  .rowsR h hm h1.und hd (by rw [h1.map_size, flat_len0 (s := s) (fun r hr => by obtain ⟨x, _, rfl⟩ := List.mem_map.1 hr; exact hR x), List.length_map, hn, hsz]) (by rw [List.length_map, hn])
theorem EndQ.fin {P : Program} {res : Array ResultVar} {R : A → BS → Prop} {t : T} {bs bs' : BS} {r : A} (hr : RVs P t bs res r := by exact (by first | exact .none | exact .one (by first | exact RV.t | exact RV.r | exact RV.c | exact RV.a) | exact .two (by first | exact RV.t | exact RV.r | exact RV.c | exact RV.a) (by first | exact RV.t | exact RV.r | exact RV.c | exact RV.a) | exact .three (by first | exact RV.t | exact RV.r | exact RV.c | exact RV.a) (by first | exact RV.t | exact RV.r | exact RV.c | exact RV.a) (by first | exact RV.t | exact RV.r | exact RV.c | exact RV.a))) (h : R r bs') (hs : Subp bs' bs := by exact (by first | exact Subp.rfl_ | (refine Subp.fin ?_; ((repeat (first | exact List.Sublist.refl _ | apply List.Sublist.cons | apply Sl.gB | apply Sl.gO)); done)) | (repeat (first | exact Subp.rfl_ | refine Subp.x (by ((repeat (first | exact Pick.here | apply Pick.tail | apply Pick.gB | apply Pick.gO)); done)) ?_ | refine Subp.w (by ((repeat (first | exact Pick.here | apply Pick.tail | apply Pick.gB | apply Pick.gO)); done)) (by repeat (first | exact Wks.nil | refine Wks.cons (by first | exact Wk.refl _ | exact Wk.nil | exact Wk.clip _ | exact Wk.tip _ _ _ | exact Wk.opt _ _ (by first | assumption | rfl) | exact Wk.gr _ _ | exact Wk.nil_gr | exact Wk.trans (Wk.opt _ _ (by first | assumption | rfl)) (by first | exact Wk.gr _ _ | exact Wk.nil | exact Wk.clip _ | exact Wk.tip _ _ _) | exact Wk.aggs (by repeat (first | exact Wks.nil | refine Wks.cons (by first | exact Wk.refl _ | exact Wk.nil | exact Wk.clip _ | exact Wk.tip _ _ _ | exact Wk.gr _ _ | exact Wk.nil_gr | exact Wk.nil_ow | exact Wk.ms_ow _ _ _) ?_)) rfl | exact Wk.nil_ow | exact Wk.ms_ow _ _ _ | exact Wk.ow_ms _ _ _) ?_)) ?_ | refine Subp.b (by ((repeat (first | exact PickL.here | apply PickL.tail | apply PickL.gB | apply PickL.gO)); done)) ?_ | refine Subp.o (by ((repeat (first | exact PickL.here | apply PickL.tail | apply PickL.gB | apply PickL.gO)); done)) ?_ | (refine Subp.fin ?_; ((repeat (first | exact List.Sublist.refl _ | apply List.Sublist.cons | apply Sl.gB | apply Sl.gO)); done)))))) : EndQ P res R .ret t bs := ⟨r, bs', hr, hs, h⟩
theorem EndQ.finn {P : Program} {res : Array ResultVar} {R : A → BS → Prop} {t : T} {bs bs' : BS} {r : A} (hr : RVs P t bs res r := by exact (by first | exact .none | exact .one (by first | exact RV.t | exact RV.r | exact RV.c | exact RV.a) | exact .two (by first | exact RV.t | exact RV.r | exact RV.c | exact RV.a) (by first | exact RV.t | exact RV.r | exact RV.c | exact RV.a) | exact .three (by first | exact RV.t | exact RV.r | exact RV.c | exact RV.a) (by first | exact RV.t | exact RV.r | exact RV.c | exact RV.a) (by first | exact RV.t | exact RV.r | exact RV.c | exact RV.a))) (h : R r bs') (hs : Subp bs' bs := by exact (by first | exact Subp.rfl_ | (refine Subp.fin ?_; ((repeat (first | exact List.Sublist.refl _ | apply List.Sublist.cons | apply Sl.gB | apply Sl.gO)); done)) | (repeat (first | exact Subp.rfl_ | refine Subp.x (by ((repeat (first | exact Pick.here | apply Pick.tail | apply Pick.gB | apply Pick.gO)); done)) ?_ | refine Subp.w (by ((repeat (first | exact Pick.here | apply Pick.tail | apply Pick.gB | apply Pick.gO)); done)) (by repeat (first | exact Wks.nil | refine Wks.cons (by first | exact Wk.refl _ | exact Wk.nil | exact Wk.clip _ | exact Wk.tip _ _ _ | exact Wk.opt _ _ (by first | assumption | rfl) | exact Wk.gr _ _ | exact Wk.nil_gr | exact Wk.trans (Wk.opt _ _ (by first | assumption | rfl)) (by first | exact Wk.gr _ _ | exact Wk.nil | exact Wk.clip _ | exact Wk.tip _ _ _) | exact Wk.aggs (by repeat (first | exact Wks.nil | refine Wks.cons (by first | exact Wk.refl _ | exact Wk.nil | exact Wk.clip _ | exact Wk.tip _ _ _ | exact Wk.gr _ _ | exact Wk.nil_gr | exact Wk.nil_ow | exact Wk.ms_ow _ _ _) ?_)) rfl | exact Wk.nil_ow | exact Wk.ms_ow _ _ _ | exact Wk.ow_ms _ _ _) ?_)) ?_ | refine Subp.b (by ((repeat (first | exact PickL.here | apply PickL.tail | apply PickL.gB | apply PickL.gO)); done)) ?_ | refine Subp.o (by ((repeat (first | exact PickL.here | apply PickL.tail | apply PickL.gB | apply PickL.gO)); done)) ?_ | (refine Subp.fin ?_; ((repeat (first | exact List.Sublist.refl _ | apply List.Sublist.cons | apply Sl.gB | apply Sl.gO)); done)))))) : EndQ P res R .normal t bs := ⟨r, bs', hr, hs, h⟩
theorem Sub.nil {t : T} : Sub t [] := trivial
theorem Sub.cons {t r : T} {i : Nat} {x : A} (h : Wk (look t i) x := by first | exact (by first | exact Wk.refl _ | exact Wk.nil | exact Wk.clip _ | exact Wk.tip _ _ _ | exact Wk.opt _ _ (by first | assumption | rfl) | exact Wk.gr _ _ | exact Wk.nil_gr | exact Wk.trans (Wk.opt _ _ (by first | assumption | rfl)) (by first | exact Wk.gr _ _ | exact Wk.nil | exact Wk.clip _ | exact Wk.tip _ _ _) | exact Wk.aggs (by repeat (first | exact Wks.nil | refine Wks.cons (by first | exact Wk.refl _ | exact Wk.nil | exact Wk.clip _ | exact Wk.tip _ _ _ | exact Wk.gr _ _ | exact Wk.nil_gr | exact Wk.nil_ow | exact Wk.ms_ow _ _ _) ?_)) rfl | exact Wk.nil_ow | exact Wk.ms_ow _ _ _ | exact Wk.ow_ms _ _ _) | exact Wk.of_eq (by simp) | exact Wk.junk _) (k : Sub t r) : Sub t ((i, x) :: r) := ⟨h, k⟩
end Go.Proofs.YtnkkfmnpkgjabaaGreat.X

/- The same logic: steps of a region that draws its order: one operation behind the other, as they are laid; the checks on the order are closed. -/
namespace Go.Proofs.YtnkkfmnpkgjabaaGreat.X
open Go.RowKit
set_option linter.unusedVariables false
set_option linter.unusedSimpArgs false

abbrev Idx := List (Nat × Bool)
def inI (idx : Idx) (i : Nat) : Bool := idx.any fun q => Nat.beq q.1 i
def depsI (ops : Array Oper) (idx : Idx) (i : Nat) : Bool := !inI idx i && (edgesOf ops i).all (inI idx) && strictI ops i
def endI (ops : Array Oper) (idx : Idx) (i : Nat) : Bool := !inI idx i && (List.range ops.size).all (fun j => inI idx j || j == i) && (List.range ops.size).all (fun j => j == i || depB ops ops.size i j)
/-- All but those that are claimed stand behind i; what hangs on blocks is ahead of it. -/
def loudI (ops : Array Oper) (idx : Idx) (i : Nat) : Bool :=
  (List.range ops.size).all (fun j => inI idx j || j == i || depB ops ops.size j i) && idx.all fun q => q.2 || depB ops ops.size i q.1
def doneI (ops : Array Oper) (idx : Idx) : Bool := (List.range ops.size).all (inI idx)
theorem needs_nil {bs : BS} : needs [] bs := fun _ h => nomatch h
/-- What claims hang on is there, or they are done when anything else turns. -/
def Hk (ops : Array Oper) (cl : List Clm) (bs : BS) : Prop := ∀ c ∈ cl, ∀ L, c.need = some L → needs L bs ∨ (List.range ops.size).all (fun j => claimed cl j || depB ops ops.size j c.i) = true
theorem claimed_cons {c : Clm} {cl : List Clm} {j : Nat} (h : claimed cl j = true) : claimed (c :: cl) j = true := by
  unfold claimed at h ⊢; rw [List.any_cons, h, Bool.or_true]
theorem Hk.cons {ops : Array Oper} {cl : List Clm} {bs : BS} {c : Clm} (h : Hk ops cl bs) (h0 : ∀ L, c.need = some L → needs L bs) : Hk ops (c :: cl) bs := fun c' hc L hL => by
  rcases List.mem_cons.1 hc with rfl | hc
  · exact .inl (h0 L hL)
  · refine (h c' hc L hL).imp id fun h => List.all_eq_true.2 fun j hj => ?_
    have := List.all_eq_true.1 h j hj
    rw [Bool.or_eq_true] at this ⊢
    exact this.imp claimed_cons id
theorem Hk.keep {ops : Array Oper} {cl : List Clm} {bs bs' : BS} (h : Hk ops cl bs) (k : ∀ g cs, (g, Blk.cells cs) ∈ bs → (g, Blk.cells cs) ∈ bs') : Hk ops cl bs' := fun c hc L hL => (h c hc L hL).imp (fun h x hx => k _ _ (h x hx)) id
def settleI (ops : Array Oper) (idx : List (Nat × Bool)) (i : Nat) : Bool := idx.all fun q => depB ops ops.size i q.1 && (List.range ops.size).all fun j => idx.any (fun p => Nat.beq p.1 j) || j == i || depB ops ops.size j q.1
theorem Hk.keep2 {ops : Array Oper} {cl : List Clm} {bs bs' : BS} (h : Hk ops cl bs) (k : ∀ c ∈ cl, ∀ L, c.need = some L → needs L bs → needs L bs') : Hk ops cl bs' := fun c hc L hL => (h c hc L hL).imp (k c hc L hL) id
def needsP : List (Nat × List A) → BS → Prop
  | [], _ => True
  | x :: r, bs => (x.1, Blk.cells x.2) ∈ bs ∧ needsP r bs
theorem needsP.all {bs : BS} : ∀ {L : List (Nat × List A)}, needsP L bs → needs L bs
  | [], _ => fun _ h => nomatch h
  | _ :: _, h => fun x hx => by
    rcases List.mem_cons.1 hx with rfl | hx
    · exact h.1
    · exact needsP.all h.2 x hx
def needsC : List Clm → BS → Prop
  | [], _ => True
  | ⟨_, _, some L⟩ :: r, bs => needsP L bs ∧ needsC r bs
  | ⟨_, _, none⟩ :: r, bs => needsC r bs
theorem needsC.all {bs : BS} : ∀ {cl : List Clm}, needsC cl bs → ∀ c ∈ cl, ∀ L, c.need = some L → needs L bs
  | [], _ => fun _ h => nomatch h
  | ⟨_, _, some L0⟩ :: r, h => fun c hc L hL => by
    rcases List.mem_cons.1 hc with rfl | hc
    · cases hL; exact h.1.all
    · exact needsC.all h.2 c hc L hL
  | ⟨_, _, none⟩ :: r, h => fun c hc L hL => by
    rcases List.mem_cons.1 hc with rfl | hc
    · cases hL
    · exact needsC.all (cl := r) h c hc L hL
theorem Hk.settle {ops : Array Oper} {cl : List Clm} {bs : BS} {i : Nat} {y : A} (h : settleI ops (cl.map fun c => (c.i, c.need.isSome)) i = true) : Hk ops (⟨i, y, some []⟩ :: cl) bs := fun c hc L hL => by
  rcases List.mem_cons.1 hc with rfl | hc
  · cases hL; exact .inl needs_nil
  · refine .inr (List.all_eq_true.2 fun j hj => ?_)
    have := List.all_eq_true.1 h _ (List.mem_map.2 ⟨c, hc, rfl⟩)
    rw [Bool.and_eq_true] at this
    have := List.all_eq_true.1 this.2 j hj
    rw [Bool.or_eq_true, Bool.or_eq_true] at this
    rw [Bool.or_eq_true]
    rcases this with (h1 | h1) | h1
    · refine .inl (claimed_cons ?_)
      unfold claimed
      rw [List.any_map] at h1
      exact h1
    · left
      unfold claimed
      rw [List.any_cons, Bool.or_eq_true]
      left
      have e : j = i := by simpa using h1
      rw [e]; exact Nat.beq_refl _
    · exact .inr h1
theorem BUpd.keeps {bs bs' : BS} {g g' : Nat} {b b' : Blk} (h : BUpd bs g b g' b' bs') (hb : ∀ cs, b ≠ .cells cs) : ∀ g1 cs, (g1, Blk.cells cs) ∈ bs → (g1, Blk.cells cs) ∈ bs' := by
  induction h with
  | head =>
    intro g1 cs hm
    rcases List.mem_cons.1 hm with e | hm
    · cases e; exact absurd rfl (hb cs)
    · exact List.mem_cons_of_mem _ hm
  | tail _ ih =>
    intro g1 cs hm
    rcases List.mem_cons.1 hm with e | hm
    · exact e ▸ List.mem_cons_self
    · exact List.mem_cons_of_mem _ (ih hb g1 cs hm)
def ADl (P : Program) (N : Nat) (ops : Array Oper) (Q : Exit → T → BS → Prop) (n : Nat) (idx : Idx) (rest : List Oper) (cl : List Clm) (t : T) (bs : BS) : Prop :=
  cl.map (fun c => (c.i, c.need.isSome)) = idx → ops.toList.drop n = rest → Hk ops cl bs → AD P N ops Q cl t bs
section
variable {P : Program} {N : Nat} {ops : Array Oper} {Q : Exit → T → BS → Prop} {o o2 : Oper} {rest : List Oper} {t : T} {bs : BS} {y : A} {cl : List Clm} {n m d : Nat} {idx : Idx}
theorem claimed_inI (h : cl.map (fun c => (c.i, c.need.isSome)) = idx) (i : Nat) : claimed cl i = inI idx i := by
  subst h; unfold claimed inI; rw [List.any_map]; rfl
theorem claimed_fun (h : cl.map (fun c => (c.i, c.need.isSome)) = idx) : claimed cl = inI idx := funext (claimed_inI h)
theorem drop_get (h : ops.toList.drop n = o :: rest) : ops[n]? = some o ∧ ops.toList.drop (n + 1) = rest := by
  have h1 : ops.toList[n]? = some o := by
    have := congrArg (fun l : List Oper => l[0]?) h
    simpa using this
  refine ⟨by simpa using h1, ?_⟩
  rw [← List.drop_drop, h]; rfl
theorem depsI_1 (hi : cl.map (fun c => (c.i, c.need.isSome)) = idx) {i : Nat} (h : depsI ops idx i = true) : claimed cl i = false ∧ strictI ops i = true ∧ (edgesOf ops i).all (claimed cl) = true := by
  unfold depsI at h
  rw [claimed_fun hi]
  simp only [Bool.and_eq_true, Bool.not_eq_true'] at h
  exact ⟨h.1.1, h.2, h.1.2⟩
theorem loudI_1 (hi : cl.map (fun c => (c.i, c.need.isSome)) = idx) {i : Nat} (h : loudI ops idx i = true) : (List.range ops.size).all (fun j => claimed cl j || j == i || depB ops ops.size j i) = true ∧ ∀ c ∈ cl, c.need = none → depB ops ops.size i c.i = false → False := by
  unfold loudI at h
  rw [Bool.and_eq_true] at h
  refine ⟨by rw [claimed_fun hi]; exact h.1, fun c hc hf hd => ?_⟩
  have := List.all_eq_true.1 h.2 (c.i, c.need.isSome) (by rw [← hi]; exact List.mem_map.2 ⟨c, hc, rfl⟩)
  simp [hf, hd] at this
/-- The next one is claimed already. -/
theorem ADl.skip (hs : inI idx n = true := by decide +kernel) (hm : n + 1 = m := by exact (by (conv => lhs; whnf) <;> rfl)) (h : ADl P N ops Q m idx rest cl t bs) : ADl P N ops Q n idx (o :: rest) cl t bs := by
  subst hm
  intro h1 h2 hk3
  exact h h1 (drop_get h2).2 hk3
theorem ADl.done (hq : Q .normal t bs) (hd : doneI ops idx = true := by decide +kernel) : ADl P N ops Q n idx [] cl t bs := fun h1 _ _ => .done (by rw [claimed_fun h1]; exact hd) hq
theorem ADl.f (hg : o.guard = none := by rfl) (hdst : o.dst = some d := by rfl) (hN : Nat.blt d N = true := by rfl) (hk : okOps o = true := by rfl) (hd : depsI ops idx n = true := by decide +kernel) (hq : ∀ bs, OpQ P o t bs y := by (intro bs; exact OpQ.auto)) (hm : n + 1 = m := by exact (by (conv => lhs; whnf) <;> rfl))
    (h : ADl P N ops Q m ((n, true) :: idx) rest (⟨n, y, some []⟩ :: cl) ((d, y) :: t) bs) : ADl P N ops Q n idx (o :: rest) cl t bs := by
  subst hm
  intro h1 h2 hk3
  obtain ⟨hi, h2⟩ := drop_get h2
  obtain ⟨e1, ex, e2⟩ := depsI_1 h1 hd
  exact .free n hi e1 ex e2 (by rw [hdst]; exact hN) [] needs_nil (fun bs _ => (hq bs).s hg hk) (by rw [hdst]; exact h (by simp [h1]) h2 (hk3.cons fun L e => by cases e; exact needs_nil))
theorem ADl.b (hg : o.guard = none := by rfl) (hdst : o.dst = some d := by rfl) (hN : Nat.blt d N = true := by rfl) (hk : okOps o = true := by rfl) (hd : depsI ops idx n = true := by decide +kernel) (hq : OpQ P o t bs y := by exact OpQ.auto) (hm : n + 1 = m := by exact (by (conv => lhs; whnf) <;> rfl))
    (h : ADl P N ops Q m ((n, false) :: idx) rest (⟨n, y, none⟩ :: cl) ((d, y) :: t) bs) : ADl P N ops Q n idx (o :: rest) cl t bs := by
  subst hm
  intro h1 h2 hk3
  obtain ⟨hi, h2⟩ := drop_get h2
  obtain ⟨e1, ex, e2⟩ := depsI_1 h1 hd
  exact .q n hi e1 ex e2 (by rw [hdst]; exact hN) (hq.s hg hk) (by rw [hdst]; exact h (by simp [h1]) h2 (hk3.cons fun L e => by cases e))
theorem ADl.fg {j dj : Nat} {oj : Oper} {want bc : Bool} (hg : o.guard = some (j, want) := by rfl) (hj : ops[j]? = some oj := by rfl) (hdj : oj.dst = some dj := by rfl) (hb : GB t dj want bc := by first | exact GB.v (by first | exact Wk.refl _ | exact Wk.nil | exact Wk.clip _ | exact Wk.tip _ _ _ | exact Wk.opt _ _ (by first | assumption | rfl) | exact Wk.gr _ _ | exact Wk.nil_gr | exact Wk.trans (Wk.opt _ _ (by first | assumption | rfl)) (by first | exact Wk.gr _ _ | exact Wk.nil | exact Wk.clip _ | exact Wk.tip _ _ _) | exact Wk.aggs (by repeat (first | exact Wks.nil | refine Wks.cons (by first | exact Wk.refl _ | exact Wk.nil | exact Wk.clip _ | exact Wk.tip _ _ _ | exact Wk.gr _ _ | exact Wk.nil_gr | exact Wk.nil_ow | exact Wk.ms_ow _ _ _) ?_)) rfl | exact Wk.nil_ow | exact Wk.ms_ow _ _ _ | exact Wk.ow_ms _ _ _) (by first | exact bqt _ | exact bqf _ | exact cbt _ _ | exact cbf _ _ | rfl) | exact GB.o (by rfl) (by first | exact bqt _ | exact bqf _ | exact cbt _ _ | exact cbf _ _ | rfl)) (hlt : dj < N := by decide) (hdst : o.dst = some d := by rfl) (hN : Nat.blt d N = true := by rfl) (hk : okOps o = true := by rfl) (hd : depsI ops idx n = true := by decide +kernel) (hq : ∀ bs, bc = true → OpQ P o t bs y := by (intro bs hgb; exact OpQ.auto)) (hm : n + 1 = m := by exact (by (conv => lhs; whnf) <;> rfl))
    (h : ADl P N ops Q m ((n, true) :: idx) rest (⟨n, .opt bc y, some []⟩ :: cl) ((d, .opt bc y) :: t) bs) : ADl P N ops Q n idx (o :: rest) cl t bs := by
  subst hm
  intro h1 h2 hk3
  obtain ⟨hi, h2⟩ := drop_get h2
  obtain ⟨e1, ex, e2⟩ := depsI_1 h1 hd
  exact .free n hi e1 ex e2 (by rw [hdst]; exact hN) [] needs_nil (fun bs _ => OpS.guard hg hj hdj hb hlt (hq bs) hk) (by rw [hdst]; exact h (by simp [h1]) h2 (hk3.cons fun L e => by cases e; exact needs_nil))
/-- A guard that is known to be shut. -/
theorem ADl.fgF {j dj : Nat} {oj : Oper} {want : Bool} (hg : o.guard = some (j, want) := by rfl) (hj : ops[j]? = some oj := by rfl) (hdj : oj.dst = some dj := by rfl) (hb : GB t dj want false := by first | exact GB.v (by first | exact Wk.refl _ | exact Wk.nil | exact Wk.clip _ | exact Wk.tip _ _ _ | exact Wk.opt _ _ (by first | assumption | rfl) | exact Wk.gr _ _ | exact Wk.nil_gr | exact Wk.trans (Wk.opt _ _ (by first | assumption | rfl)) (by first | exact Wk.gr _ _ | exact Wk.nil | exact Wk.clip _ | exact Wk.tip _ _ _) | exact Wk.aggs (by repeat (first | exact Wks.nil | refine Wks.cons (by first | exact Wk.refl _ | exact Wk.nil | exact Wk.clip _ | exact Wk.tip _ _ _ | exact Wk.gr _ _ | exact Wk.nil_gr | exact Wk.nil_ow | exact Wk.ms_ow _ _ _) ?_)) rfl | exact Wk.nil_ow | exact Wk.ms_ow _ _ _ | exact Wk.ow_ms _ _ _) (by rfl) | exact GB.o (by rfl) (by rfl)) (hlt : dj < N := by decide) (hdst : o.dst = some d := by rfl) (hN : Nat.blt d N = true := by rfl) (hk : okOps o = true := by rfl) (hd : depsI ops idx n = true := by decide +kernel) (hm : n + 1 = m := by exact (by (conv => lhs; whnf) <;> rfl))
    (h : ADl P N ops Q m ((n, true) :: idx) rest (⟨n, .opt false .junk, some []⟩ :: cl) ((d, .opt false .junk) :: t) bs) : ADl P N ops Q n idx (o :: rest) cl t bs :=
  .fg hg hj hdj hb hlt hdst hN hk hd (fun bs h => by cases h) hm h
theorem ADl.bg {j dj : Nat} {oj : Oper} {want bc : Bool} (hg : o.guard = some (j, want) := by rfl) (hj : ops[j]? = some oj := by rfl) (hdj : oj.dst = some dj := by rfl) (hb : GB t dj want bc := by first | exact GB.v (by first | exact Wk.refl _ | exact Wk.nil | exact Wk.clip _ | exact Wk.tip _ _ _ | exact Wk.opt _ _ (by first | assumption | rfl) | exact Wk.gr _ _ | exact Wk.nil_gr | exact Wk.trans (Wk.opt _ _ (by first | assumption | rfl)) (by first | exact Wk.gr _ _ | exact Wk.nil | exact Wk.clip _ | exact Wk.tip _ _ _) | exact Wk.aggs (by repeat (first | exact Wks.nil | refine Wks.cons (by first | exact Wk.refl _ | exact Wk.nil | exact Wk.clip _ | exact Wk.tip _ _ _ | exact Wk.gr _ _ | exact Wk.nil_gr | exact Wk.nil_ow | exact Wk.ms_ow _ _ _) ?_)) rfl | exact Wk.nil_ow | exact Wk.ms_ow _ _ _ | exact Wk.ow_ms _ _ _) (by first | exact bqt _ | exact bqf _ | exact cbt _ _ | exact cbf _ _ | rfl) | exact GB.o (by rfl) (by first | exact bqt _ | exact bqf _ | exact cbt _ _ | exact cbf _ _ | rfl)) (hlt : dj < N := by decide) (hdst : o.dst = some d := by rfl) (hN : Nat.blt d N = true := by rfl) (hk : okOps o = true := by rfl) (hd : depsI ops idx n = true := by decide +kernel) (hq : bc = true → OpQ P o t bs y := by (intro hgb; exact OpQ.auto)) (hm : n + 1 = m := by exact (by (conv => lhs; whnf) <;> rfl))
    (h : ADl P N ops Q m ((n, false) :: idx) rest (⟨n, .opt bc y, none⟩ :: cl) ((d, .opt bc y) :: t) bs) : ADl P N ops Q n idx (o :: rest) cl t bs := by
  subst hm
  intro h1 h2 hk3
  obtain ⟨hi, h2⟩ := drop_get h2
  obtain ⟨e1, ex, e2⟩ := depsI_1 h1 hd
  exact .q n hi e1 ex e2 (by rw [hdst]; exact hN) (OpS.guard hg hj hdj hb hlt hq hk) (by rw [hdst]; exact h (by simp [h1]) h2 (hk3.cons fun L e => by cases e))
/-- Calls that turn nothing. -/
theorem ADl.call {K : Nat} {args : Array Operand} {tys : Array TypeId} {xs : List A} (hc : APure P K xs y) (ho : o.op = .call { callee := .value (.func K), args, argTypes := tys } := by rfl) [hF : FI P K] (ha : Wks (args.toList.map (evA t)) xs := by (repeat (first | exact Wks.nil | refine Wks.cons (by first | exact Wk.refl _ | exact Wk.nil | exact Wk.clip _ | exact Wk.tip _ _ _ | exact Wk.opt _ _ (by first | assumption | rfl) | exact Wk.gr _ _ | exact Wk.nil_gr | exact Wk.trans (Wk.opt _ _ (by first | assumption | rfl)) (by first | exact Wk.gr _ _ | exact Wk.nil | exact Wk.clip _ | exact Wk.tip _ _ _) | exact Wk.aggs (by repeat (first | exact Wks.nil | refine Wks.cons (by first | exact Wk.refl _ | exact Wk.nil | exact Wk.clip _ | exact Wk.tip _ _ _ | exact Wk.gr _ _ | exact Wk.nil_gr | exact Wk.nil_ow | exact Wk.ms_ow _ _ _) ?_)) rfl | exact Wk.nil_ow | exact Wk.ms_ow _ _ _ | exact Wk.ow_ms _ _ _) ?_))) (hg : o.guard = none := by rfl) (hdst : o.dst = some d := by rfl) (hN : Nat.blt d N = true := by rfl) (hk : okOps o = true := by rfl) (hd : depsI ops idx n = true := by decide +kernel) (hm : n + 1 = m := by exact (by (conv => lhs; whnf) <;> rfl))
    (h : ADl P N ops Q m ((n, true) :: idx) rest (⟨n, y, some []⟩ :: cl) ((d, y) :: t) bs) : ADl P N ops Q n idx (o :: rest) cl t bs := ADl.f hg hdst hN hk hd (fun bs => OpQ.call ho hc ha) hm h
theorem ADl.callv {K : Nat} {x : Operand} {args : Array Operand} {tys : Array TypeId} {xs x1 x2 : List A} (hc : APure P K xs y) (ho : o.op = .call { callee := .value x, args, argTypes := tys } := by rfl) [hF : FI P K] (hx : Wk (evA t x) (.fn (.func K) x1 x2) := by exact (by first | exact Wk.refl _ | exact Wk.nil | exact Wk.clip _ | exact Wk.tip _ _ _ | exact Wk.opt _ _ (by first | assumption | rfl) | exact Wk.gr _ _ | exact Wk.nil_gr | exact Wk.trans (Wk.opt _ _ (by first | assumption | rfl)) (by first | exact Wk.gr _ _ | exact Wk.nil | exact Wk.clip _ | exact Wk.tip _ _ _) | exact Wk.aggs (by repeat (first | exact Wks.nil | refine Wks.cons (by first | exact Wk.refl _ | exact Wk.nil | exact Wk.clip _ | exact Wk.tip _ _ _ | exact Wk.gr _ _ | exact Wk.nil_gr | exact Wk.nil_ow | exact Wk.ms_ow _ _ _) ?_)) rfl | exact Wk.nil_ow | exact Wk.ms_ow _ _ _ | exact Wk.ow_ms _ _ _)) (ha : Wks (x1 ++ args.toList.map (evA t) ++ x2) xs := by (repeat (first | exact Wks.nil | refine Wks.cons (by first | exact Wk.refl _ | exact Wk.nil | exact Wk.clip _ | exact Wk.tip _ _ _ | exact Wk.opt _ _ (by first | assumption | rfl) | exact Wk.gr _ _ | exact Wk.nil_gr | exact Wk.trans (Wk.opt _ _ (by first | assumption | rfl)) (by first | exact Wk.gr _ _ | exact Wk.nil | exact Wk.clip _ | exact Wk.tip _ _ _) | exact Wk.aggs (by repeat (first | exact Wks.nil | refine Wks.cons (by first | exact Wk.refl _ | exact Wk.nil | exact Wk.clip _ | exact Wk.tip _ _ _ | exact Wk.gr _ _ | exact Wk.nil_gr | exact Wk.nil_ow | exact Wk.ms_ow _ _ _) ?_)) rfl | exact Wk.nil_ow | exact Wk.ms_ow _ _ _ | exact Wk.ow_ms _ _ _) ?_))) (hg : o.guard = none := by rfl) (hdst : o.dst = some d := by rfl) (hN : Nat.blt d N = true := by rfl) (hk : okOps o = true := by rfl) (hd : depsI ops idx n = true := by decide +kernel) (hm : n + 1 = m := by exact (by (conv => lhs; whnf) <;> rfl))
    (h : ADl P N ops Q m ((n, true) :: idx) rest (⟨n, y, some []⟩ :: cl) ((d, y) :: t) bs) : ADl P N ops Q n idx (o :: rest) cl t bs := ADl.f hg hdst hN hk hd (fun bs => OpQ.callv ho hx hc rfl ha) hm h
theorem ADl.callg {K j dj : Nat} {oj : Oper} {want bc : Bool} {args : Array Operand} {tys : Array TypeId} {xs : List A} (hc : bc = true → APure P K xs y) (ho : o.op = .call { callee := .value (.func K), args, argTypes := tys } := by rfl) [hF : FI P K] (hg : o.guard = some (j, want) := by rfl) (hj : ops[j]? = some oj := by rfl) (hdj : oj.dst = some dj := by rfl) (hb : GB t dj want bc := by first | exact GB.v (by first | exact Wk.refl _ | exact Wk.nil | exact Wk.clip _ | exact Wk.tip _ _ _ | exact Wk.opt _ _ (by first | assumption | rfl) | exact Wk.gr _ _ | exact Wk.nil_gr | exact Wk.trans (Wk.opt _ _ (by first | assumption | rfl)) (by first | exact Wk.gr _ _ | exact Wk.nil | exact Wk.clip _ | exact Wk.tip _ _ _) | exact Wk.aggs (by repeat (first | exact Wks.nil | refine Wks.cons (by first | exact Wk.refl _ | exact Wk.nil | exact Wk.clip _ | exact Wk.tip _ _ _ | exact Wk.gr _ _ | exact Wk.nil_gr | exact Wk.nil_ow | exact Wk.ms_ow _ _ _) ?_)) rfl | exact Wk.nil_ow | exact Wk.ms_ow _ _ _ | exact Wk.ow_ms _ _ _) (by first | exact bqt _ | exact bqf _ | exact cbt _ _ | exact cbf _ _ | rfl) | exact GB.o (by rfl) (by first | exact bqt _ | exact bqf _ | exact cbt _ _ | exact cbf _ _ | rfl)) (hlt : dj < N := by decide) (ha : bc = true → Wks (args.toList.map (evA t)) xs := by (intro hgb; repeat (first | exact Wks.nil | refine Wks.cons (by first | exact Wk.refl _ | exact Wk.nil | exact Wk.clip _ | exact Wk.tip _ _ _ | exact Wk.opt _ _ (by first | assumption | rfl) | exact Wk.gr _ _ | exact Wk.nil_gr | exact Wk.trans (Wk.opt _ _ (by first | assumption | rfl)) (by first | exact Wk.gr _ _ | exact Wk.nil | exact Wk.clip _ | exact Wk.tip _ _ _) | exact Wk.aggs (by repeat (first | exact Wks.nil | refine Wks.cons (by first | exact Wk.refl _ | exact Wk.nil | exact Wk.clip _ | exact Wk.tip _ _ _ | exact Wk.gr _ _ | exact Wk.nil_gr | exact Wk.nil_ow | exact Wk.ms_ow _ _ _) ?_)) rfl | exact Wk.nil_ow | exact Wk.ms_ow _ _ _ | exact Wk.ow_ms _ _ _) ?_))) (hdst : o.dst = some d := by rfl) (hN : Nat.blt d N = true := by rfl) (hk : okOps o = true := by rfl) (hd : depsI ops idx n = true := by decide +kernel) (hm : n + 1 = m := by exact (by (conv => lhs; whnf) <;> rfl))
    (h : ADl P N ops Q m ((n, true) :: idx) rest (⟨n, .opt bc y, some []⟩ :: cl) ((d, .opt bc y) :: t) bs) : ADl P N ops Q n idx (o :: rest) cl t bs := ADl.fg hg hj hdj hb hlt hdst hN hk hd (fun bs hbc => OpQ.call ho (hc hbc) (ha hbc)) hm h
theorem ADl.callvg {K j dj : Nat} {oj : Oper} {want bc : Bool} {x : Operand} {args : Array Operand} {tys : Array TypeId} {xs x1 x2 : List A} (hc : bc = true → APure P K xs y) (ho : o.op = .call { callee := .value x, args, argTypes := tys } := by rfl) [hF : FI P K] (hg : o.guard = some (j, want) := by rfl) (hj : ops[j]? = some oj := by rfl) (hdj : oj.dst = some dj := by rfl) (hb : GB t dj want bc := by first | exact GB.v (by first | exact Wk.refl _ | exact Wk.nil | exact Wk.clip _ | exact Wk.tip _ _ _ | exact Wk.opt _ _ (by first | assumption | rfl) | exact Wk.gr _ _ | exact Wk.nil_gr | exact Wk.trans (Wk.opt _ _ (by first | assumption | rfl)) (by first | exact Wk.gr _ _ | exact Wk.nil | exact Wk.clip _ | exact Wk.tip _ _ _) | exact Wk.aggs (by repeat (first | exact Wks.nil | refine Wks.cons (by first | exact Wk.refl _ | exact Wk.nil | exact Wk.clip _ | exact Wk.tip _ _ _ | exact Wk.gr _ _ | exact Wk.nil_gr | exact Wk.nil_ow | exact Wk.ms_ow _ _ _) ?_)) rfl | exact Wk.nil_ow | exact Wk.ms_ow _ _ _ | exact Wk.ow_ms _ _ _) (by first | exact bqt _ | exact bqf _ | exact cbt _ _ | exact cbf _ _ | rfl) | exact GB.o (by rfl) (by first | exact bqt _ | exact bqf _ | exact cbt _ _ | exact cbf _ _ | rfl)) (hlt : dj < N := by decide) (hx : bc = true → Wk (evA t x) (.fn (.func K) x1 x2) := by (intro hgb; exact (by first | exact Wk.refl _ | exact Wk.nil | exact Wk.clip _ | exact Wk.tip _ _ _ | exact Wk.opt _ _ (by first | assumption | rfl) | exact Wk.gr _ _ | exact Wk.nil_gr | exact Wk.trans (Wk.opt _ _ (by first | assumption | rfl)) (by first | exact Wk.gr _ _ | exact Wk.nil | exact Wk.clip _ | exact Wk.tip _ _ _) | exact Wk.aggs (by repeat (first | exact Wks.nil | refine Wks.cons (by first | exact Wk.refl _ | exact Wk.nil | exact Wk.clip _ | exact Wk.tip _ _ _ | exact Wk.gr _ _ | exact Wk.nil_gr | exact Wk.nil_ow | exact Wk.ms_ow _ _ _) ?_)) rfl | exact Wk.nil_ow | exact Wk.ms_ow _ _ _ | exact Wk.ow_ms _ _ _))) (ha : bc = true → Wks (x1 ++ args.toList.map (evA t) ++ x2) xs := by (intro hgb; repeat (first | exact Wks.nil | refine Wks.cons (by first | exact Wk.refl _ | exact Wk.nil | exact Wk.clip _ | exact Wk.tip _ _ _ | exact Wk.opt _ _ (by first | assumption | rfl) | exact Wk.gr _ _ | exact Wk.nil_gr | exact Wk.trans (Wk.opt _ _ (by first | assumption | rfl)) (by first | exact Wk.gr _ _ | exact Wk.nil | exact Wk.clip _ | exact Wk.tip _ _ _) | exact Wk.aggs (by repeat (first | exact Wks.nil | refine Wks.cons (by first | exact Wk.refl _ | exact Wk.nil | exact Wk.clip _ | exact Wk.tip _ _ _ | exact Wk.gr _ _ | exact Wk.nil_gr | exact Wk.nil_ow | exact Wk.ms_ow _ _ _) ?_)) rfl | exact Wk.nil_ow | exact Wk.ms_ow _ _ _ | exact Wk.ow_ms _ _ _) ?_))) (hdst : o.dst = some d := by rfl) (hN : Nat.blt d N = true := by rfl) (hk : okOps o = true := by rfl) (hd : depsI ops idx n = true := by decide +kernel) (hm : n + 1 = m := by exact (by (conv => lhs; whnf) <;> rfl))
    (h : ADl P N ops Q m ((n, true) :: idx) rest (⟨n, .opt bc y, some []⟩ :: cl) ((d, .opt bc y) :: t) bs) : ADl P N ops Q n idx (o :: rest) cl t bs := ADl.fg hg hj hdj hb hlt hdst hN hk hd (fun bs hbc => OpQ.callv ho (hx hbc) (hc hbc) rfl (ha hbc)) hm h
theorem ADl.lits {ty e : TypeId} {s1 b1 s2 b2 k : Nat} {d2 : TypeDesc} {zs : List Value} {cs : List A} {parts : Array (Nat × Operand)} {r : List Operand} {ys : List A} {rows : List (List A)} (ho : o.op = .buildSlice ty k parts := by rfl) (h1 : TI P ty (.slice e) s1 b1 := by infer_instance) (h2 : TI P e d2 s2 b2 := by infer_instance) (hz : TC P e zs cs := by infer_instance) (hr0 : parts.toList.map (·.2) = r := by (simp only [List.map_cons, List.map_nil] <;> rfl))
    (hp : parts = (r.zipIdx.map fun p => (p.2, p.1)).toArray := by rfl) (hr : Rows_ t r ys := by exact (by repeat (first | exact Rows_.nil | (apply Rows_.cons; exact Wk.of_eq (by (conv => lhs; whnf) <;> rfl); exact (by first | exact .inl rfl | exact .inr ⟨_, rfl⟩))))) (hn : r.length = k := by rfl) (hs : ys.all (fun y => (cellsOf y).length == s2) = true := by exact (by first | rfl | (simp [cellsOf]; done) | (simp only [List.map_cons, List.map_nil, cellsOf]) <;> rfl)) (hrows : ys.map cellsOf = rows := by exact (by first | ((simp only [List.map_cons, List.map_nil, cellsOf]) <;> rfl) | rfl)) (hlim : k * s2 ≤ 16777216 := by decide) (hpos : 0 < s2 := by decide)
    (hg : o.guard = none := by rfl) (hdst : o.dst = some d := by rfl) (hN : Nat.blt d N = true := by rfl) (hk : okOps o = true := by rfl) (hd : depsI ops idx n = true := by decide +kernel) (hm : n + 1 = m := by exact (by (conv => lhs; whnf) <;> rfl))
    (h : ADl P N ops Q m ((n, true) :: idx) rest (⟨n, .clip rows, some []⟩ :: cl) ((d, .clip rows) :: t) bs) : ADl P N ops Q n idx (o :: rest) cl t bs := ADl.f hg hdst hN hk hd (fun bs => OpQ.lits ho hr0 hp hr hn hs hrows hlim hpos) hm h
/-- The last one, behind all others: it may write what others read. -/
theorem ADl.lastwo {R : A → BS → Prop} (hq : OpW P o t bs R) (hg : Opn N ops o t := by exact (by first | exact Opn.none rfl | exact Opn.known rfl rfl rfl (by first | exact Wk.refl _ | exact Wk.nil | exact Wk.clip _ | exact Wk.tip _ _ _ | exact Wk.opt _ _ (by first | assumption | rfl) | exact Wk.gr _ _ | exact Wk.nil_gr | exact Wk.trans (Wk.opt _ _ (by first | assumption | rfl)) (by first | exact Wk.gr _ _ | exact Wk.nil | exact Wk.clip _ | exact Wk.tip _ _ _) | exact Wk.aggs (by repeat (first | exact Wks.nil | refine Wks.cons (by first | exact Wk.refl _ | exact Wk.nil | exact Wk.clip _ | exact Wk.tip _ _ _ | exact Wk.gr _ _ | exact Wk.nil_gr | exact Wk.nil_ow | exact Wk.ms_ow _ _ _) ?_)) rfl | exact Wk.nil_ow | exact Wk.ms_ow _ _ _ | exact Wk.ow_ms _ _ _) (by first | rfl | assumption) (by decide))) (hdN : okD N o.dst = true := by rfl) (hk : okOps o = true := by rfl) (hd : endI ops idx n = true := by decide +kernel)
    (h : ∀ y bs', R y bs' → Q .normal (putA t o.dst y) bs') : ADl P N ops Q n idx [o] cl t bs := by
  intro h1 h2 hk3
  obtain ⟨hi, h2⟩ := drop_get h2
  unfold endI at hd
  simp only [Bool.and_eq_true, Bool.not_eq_true'] at hd
  exact .last n hi (by rw [claimed_fun h1]; exact hd.1.1) (by rw [claimed_fun h1]; exact hd.1.2) hd.2 hdN hg hk hq h
theorem ADl.lastw {R : A → BS → Prop} (hq : OpW P o t bs R) (hg : o.guard = none := by rfl) (hdN : okD N o.dst = true := by rfl) (hk : okOps o = true := by rfl) (hd : endI ops idx n = true := by decide +kernel)
    (h : ∀ y bs', R y bs' → Q .normal (putA t o.dst y) bs') : ADl P N ops Q n idx [o] cl t bs := .lastwo hq (.none hg) hdN hk hd h
theorem ADl.last (hg : o.guard = none := by rfl) (hdst : o.dst = some d := by rfl) (hN : Nat.blt d N = true := by rfl) (hk : okOps o = true := by rfl) (hq : OpQ P o t bs y := by exact OpQ.auto) (hd : endI ops idx n = true := by decide +kernel)
    (h : Q .normal ((d, y) :: t) bs) : ADl P N ops Q n idx [o] cl t bs :=
  .lastw hq.w hg (by rw [hdst]; exact hN) hk hd fun y bs' ⟨e1, e2⟩ => by subst e1; subst e2; rw [hdst]; exact h
/-- One behind the next is claimed ahead of it. -/
theorem ADl.ahead (hg : o2.guard = none := by rfl) (hdst : o2.dst = some d := by rfl) (hN : Nat.blt d N = true := by rfl) (hk : okOps o2 = true := by rfl) (hm : n + 1 = m := by exact (by (conv => lhs; whnf) <;> rfl)) (hd : depsI ops idx m = true := by decide +kernel) (hq : ∀ bs, OpQ P o2 t bs y := by (intro bs; exact OpQ.auto))
    (h : ADl P N ops Q n ((m, true) :: idx) (o :: o2 :: rest) (⟨m, y, some []⟩ :: cl) ((d, y) :: t) bs) : ADl P N ops Q n idx (o :: o2 :: rest) cl t bs := by
  subst hm
  intro h1 h2 hk3
  have h3 := (drop_get h2).2
  obtain ⟨hi, _⟩ := drop_get h3
  obtain ⟨e1, ex, e2⟩ := depsI_1 h1 hd
  exact .free (n + 1) hi e1 ex e2 (by rw [hdst]; exact hN) [] needs_nil (fun bs _ => (hq bs).s hg hk) (by rw [hdst]; exact h (by simp [h1]) h2 (hk3.cons fun L e => by cases e; exact needs_nil))
theorem ADl.ahead2 {o3 : Oper} (hg : o3.guard = none := by rfl) (hdst : o3.dst = some d := by rfl) (hN : Nat.blt d N = true := by rfl) (hk : okOps o3 = true := by rfl) (hm : n + 2 = m := by exact (by (conv => lhs; whnf) <;> rfl)) (hd : depsI ops idx m = true := by decide +kernel) (hq : ∀ bs, OpQ P o3 t bs y := by (intro bs; exact OpQ.auto))
    (h : ADl P N ops Q n ((m, true) :: idx) (o :: o2 :: o3 :: rest) (⟨m, y, some []⟩ :: cl) ((d, y) :: t) bs) : ADl P N ops Q n idx (o :: o2 :: o3 :: rest) cl t bs := by
  subst hm
  intro h1 h2 hk3
  have h3 := (drop_get h2).2
  have h4 := (drop_get h3).2
  obtain ⟨hi, _⟩ := drop_get h4
  obtain ⟨e1, ex, e2⟩ := depsI_1 h1 hd
  exact .free (n + 2) hi e1 ex e2 (by rw [hdst]; exact hN) [] needs_nil (fun bs _ => (hq bs).s hg hk) (by rw [hdst]; exact h (by simp [h1]) h2 (hk3.cons fun L e => by cases e; exact needs_nil))
/-- What turns one's own. -/
theorem ADl.wo {R : A → BS → Prop} (hq : OpW P o t bs R) (hg : Opn N ops o t := by exact (by first | exact Opn.none rfl | exact Opn.known rfl rfl rfl (by first | exact Wk.refl _ | exact Wk.nil | exact Wk.clip _ | exact Wk.tip _ _ _ | exact Wk.opt _ _ (by first | assumption | rfl) | exact Wk.gr _ _ | exact Wk.nil_gr | exact Wk.trans (Wk.opt _ _ (by first | assumption | rfl)) (by first | exact Wk.gr _ _ | exact Wk.nil | exact Wk.clip _ | exact Wk.tip _ _ _) | exact Wk.aggs (by repeat (first | exact Wks.nil | refine Wks.cons (by first | exact Wk.refl _ | exact Wk.nil | exact Wk.clip _ | exact Wk.tip _ _ _ | exact Wk.gr _ _ | exact Wk.nil_gr | exact Wk.nil_ow | exact Wk.ms_ow _ _ _) ?_)) rfl | exact Wk.nil_ow | exact Wk.ms_ow _ _ _ | exact Wk.ow_ms _ _ _) (by first | rfl | assumption) (by decide))) (hdN : okD N o.dst = true := by rfl) (hk : okOps o = true := by rfl) (hd : depsI ops idx n = true := by decide +kernel) (hl : loudI ops idx n = true := by decide +kernel) (hm : n + 1 = m := by exact (by (conv => lhs; whnf) <;> rfl))
    (hst : settleI ops idx n = true ∨ ∀ y bs', R y bs' → ∀ c ∈ cl, ∀ L, c.need = some L → needs L bs → needs L bs')
    (h : ∀ y bs', R y bs' → ADl P N ops Q m ((n, true) :: idx) rest (⟨n, y, some []⟩ :: cl) (putA t o.dst y) bs') : ADl P N ops Q n idx (o :: rest) cl t bs := by
  subst hm
  intro h1 h2 hk3
  obtain ⟨hi, h2⟩ := drop_get h2
  obtain ⟨e1, ex, e2⟩ := depsI_1 h1 hd
  obtain ⟨e3, e4⟩ := loudI_1 h1 hl
  have hlt : n < ops.size := (Array.getElem?_eq_some_iff.1 hi).1
  refine .w n hi e1 ex e2 hdN hg hk hq e3 (fun _ _ _ c hc hf hdp => (e4 c hc hf hdp).elim) (fun y bs' hR c hc L hL hdp => ?_) fun y bs' hR => h y bs' hR (by simp [h1]) h2 ?_
  · rcases hst with hst | hst
    · have := List.all_eq_true.1 hst (c.i, c.need.isSome) (by rw [← h1]; exact List.mem_map.2 ⟨c, hc, rfl⟩)
      rw [Bool.and_eq_true] at this
      rw [this.1] at hdp; cases hdp
    · rcases hk3 c hc L hL with h5 | h5
      · exact hst y bs' hR c hc L hL h5
      · have := List.all_eq_true.1 h5 n (by simpa using hlt)
        rw [e1, hdp] at this; cases this
  · rcases hst with hst | hst
    · exact Hk.settle (by rw [h1]; exact hst)
    · exact (hk3.keep2 (hst y bs' hR)).cons fun L e => by cases e; exact needs_nil
theorem ADl.w {R : A → BS → Prop} (hq : OpW P o t bs R) (hg : o.guard = none := by rfl) (hdN : okD N o.dst = true := by rfl) (hk : okOps o = true := by rfl) (hd : depsI ops idx n = true := by decide +kernel) (hl : loudI ops idx n = true := by decide +kernel) (hm : n + 1 = m := by exact (by (conv => lhs; whnf) <;> rfl))
    (hst : settleI ops idx n = true ∨ ∀ y bs', R y bs' → ∀ c ∈ cl, ∀ L, c.need = some L → needs L bs → needs L bs')
    (h : ∀ y bs', R y bs' → ADl P N ops Q m ((n, true) :: idx) rest (⟨n, y, some []⟩ :: cl) (putA t o.dst y) bs') : ADl P N ops Q n idx (o :: rest) cl t bs := .wo hq (.none hg) hdN hk hd hl hm hst h
/-- A load of what is one's own: it holds as long as that block stays. -/
theorem ADl.mload {ty : TypeId} {x : Operand} {g p : Nat} {cs : List A} (ho : o.op = .load ty x := by rfl) (hx : Wk (evA t x) (.ptr g p) := by exact (by first | exact Wk.refl _ | exact Wk.nil | exact Wk.clip _ | exact Wk.tip _ _ _ | exact Wk.opt _ _ (by first | assumption | rfl) | exact Wk.gr _ _ | exact Wk.nil_gr | exact Wk.trans (Wk.opt _ _ (by first | assumption | rfl)) (by first | exact Wk.gr _ _ | exact Wk.nil | exact Wk.clip _ | exact Wk.tip _ _ _) | exact Wk.aggs (by repeat (first | exact Wks.nil | refine Wks.cons (by first | exact Wk.refl _ | exact Wk.nil | exact Wk.clip _ | exact Wk.tip _ _ _ | exact Wk.gr _ _ | exact Wk.nil_gr | exact Wk.nil_ow | exact Wk.ms_ow _ _ _) ?_)) rfl | exact Wk.nil_ow | exact Wk.ms_ow _ _ _ | exact Wk.ow_ms _ _ _)) (hmm : (g, .cells cs) ∈ bs := by exact (by repeat (first | exact List.mem_cons_self | assumption | refine List.mem_cons_of_mem _ ?_ | refine mem_gB ?_ | refine mem_gO ?_))) (hg : o.guard = none := by rfl) (hdst : o.dst = some d := by rfl) (hN : Nat.blt d N = true := by rfl) (hk : okOps o = true := by rfl) (hd : depsI ops idx n = true := by decide +kernel) (hq : ∀ bs : BS, (g, Blk.cells cs) ∈ bs → OpQ P o t bs y := by (intro bs hmem; exact OpQ.auto)) (hm : n + 1 = m := by exact (by (conv => lhs; whnf) <;> rfl))
    (h : ADl P N ops Q m ((n, true) :: idx) rest (⟨n, y, some [(g, cs)]⟩ :: cl) ((d, y) :: t) bs) : ADl P N ops Q n idx (o :: rest) cl t bs := by
  subst hm
  intro h1 h2 hk3
  obtain ⟨hi, h2⟩ := drop_get h2
  obtain ⟨e1, ex, e2⟩ := depsI_1 h1 hd
  have hnb : needs [(g, cs)] bs := fun z hz => by simp only [List.mem_singleton] at hz; subst hz; exact hmm
  exact .free n hi e1 ex e2 (by rw [hdst]; exact hN) [(g, cs)] hnb (fun bs hb => (hq bs (hb _ (List.mem_singleton.2 rfl))).s hg hk) (by rw [hdst]; exact h (by simp [h1]) h2 (hk3.cons fun L e => by cases e; exact hnb))
theorem ADl.mloadg {ty : TypeId} {x : Operand} {g p : Nat} {cs : List A} {j dj : Nat} {oj : Oper} {want bc : Bool} (ho : o.op = .load ty x := by rfl) (hg : o.guard = some (j, want) := by rfl) (hj : ops[j]? = some oj := by rfl) (hdj : oj.dst = some dj := by rfl) (hb : GB t dj want bc := by first | exact GB.v (by first | exact Wk.refl _ | exact Wk.nil | exact Wk.clip _ | exact Wk.tip _ _ _ | exact Wk.opt _ _ (by first | assumption | rfl) | exact Wk.gr _ _ | exact Wk.nil_gr | exact Wk.trans (Wk.opt _ _ (by first | assumption | rfl)) (by first | exact Wk.gr _ _ | exact Wk.nil | exact Wk.clip _ | exact Wk.tip _ _ _) | exact Wk.aggs (by repeat (first | exact Wks.nil | refine Wks.cons (by first | exact Wk.refl _ | exact Wk.nil | exact Wk.clip _ | exact Wk.tip _ _ _ | exact Wk.gr _ _ | exact Wk.nil_gr | exact Wk.nil_ow | exact Wk.ms_ow _ _ _) ?_)) rfl | exact Wk.nil_ow | exact Wk.ms_ow _ _ _ | exact Wk.ow_ms _ _ _) (by first | exact bqt _ | exact bqf _ | exact cbt _ _ | exact cbf _ _ | rfl) | exact GB.o (by rfl) (by first | exact bqt _ | exact bqf _ | exact cbt _ _ | exact cbf _ _ | rfl)) (hlt : dj < N := by decide) (hx : bc = true → Wk (evA t x) (.ptr g p) := by (intro hgb; exact (by first | exact Wk.refl _ | exact Wk.nil | exact Wk.clip _ | exact Wk.tip _ _ _ | exact Wk.opt _ _ (by first | assumption | rfl) | exact Wk.gr _ _ | exact Wk.nil_gr | exact Wk.trans (Wk.opt _ _ (by first | assumption | rfl)) (by first | exact Wk.gr _ _ | exact Wk.nil | exact Wk.clip _ | exact Wk.tip _ _ _) | exact Wk.aggs (by repeat (first | exact Wks.nil | refine Wks.cons (by first | exact Wk.refl _ | exact Wk.nil | exact Wk.clip _ | exact Wk.tip _ _ _ | exact Wk.gr _ _ | exact Wk.nil_gr | exact Wk.nil_ow | exact Wk.ms_ow _ _ _) ?_)) rfl | exact Wk.nil_ow | exact Wk.ms_ow _ _ _ | exact Wk.ow_ms _ _ _))) (hmm : (g, .cells cs) ∈ bs := by exact (by repeat (first | exact List.mem_cons_self | assumption | refine List.mem_cons_of_mem _ ?_ | refine mem_gB ?_ | refine mem_gO ?_))) (hdst : o.dst = some d := by rfl) (hN : Nat.blt d N = true := by rfl) (hk : okOps o = true := by rfl) (hd : depsI ops idx n = true := by decide +kernel) (hq : ∀ bs : BS, (g, Blk.cells cs) ∈ bs → bc = true → OpQ P o t bs y := by (intro bs hmem hgb; exact OpQ.auto)) (hm : n + 1 = m := by exact (by (conv => lhs; whnf) <;> rfl))
    (h : ADl P N ops Q m ((n, true) :: idx) rest (⟨n, .opt bc y, some [(g, cs)]⟩ :: cl) ((d, .opt bc y) :: t) bs) : ADl P N ops Q n idx (o :: rest) cl t bs := by
  subst hm
  intro h1 h2 hk3
  obtain ⟨hi, h2⟩ := drop_get h2
  obtain ⟨e1, ex, e2⟩ := depsI_1 h1 hd
  have hnb : needs [(g, cs)] bs := fun z hz => by simp only [List.mem_singleton] at hz; subst hz; exact hmm
  exact .free n hi e1 ex e2 (by rw [hdst]; exact hN) [(g, cs)] hnb (fun bs hb2 => OpS.guard hg hj hdj hb hlt (hq bs (hb2 _ (List.mem_singleton.2 rfl))) hk) (by rw [hdst]; exact h (by simp [h1]) h2 (hk3.cons fun L e => by cases e; exact hnb))
/-- One that stands further behind is claimed now. -/
theorem ADl.far {o2 : Oper} (m : Nat) (ho2 : ops[m]? = some o2 := by rfl) (hg : o2.guard = none := by rfl) (hdst : o2.dst = some d := by rfl) (hN : Nat.blt d N = true := by rfl) (hk : okOps o2 = true := by rfl) (hd : depsI ops idx m = true := by decide +kernel) (hq : ∀ bs, OpQ P o2 t bs y := by (intro bs; exact OpQ.auto))
    (h : ADl P N ops Q n ((m, true) :: idx) (o :: rest) (⟨m, y, some []⟩ :: cl) ((d, y) :: t) bs) : ADl P N ops Q n idx (o :: rest) cl t bs := by
  intro h1 h2 hk3
  obtain ⟨e1, ex, e2⟩ := depsI_1 h1 hd
  exact .free m ho2 e1 ex e2 (by rw [hdst]; exact hN) [] needs_nil (fun bs _ => (hq bs).s hg hk) (by rw [hdst]; exact h (by simp [h1]) h2 (hk3.cons fun L e => by cases e; exact needs_nil))
theorem ADl.farm {o2 : Oper} (m : Nat) {ty : TypeId} {x : Operand} {g p : Nat} {cs : List A} (ho2 : ops[m]? = some o2 := by rfl) (ho : o2.op = .load ty x := by rfl) (hx : Wk (evA t x) (.ptr g p) := by exact (by first | exact Wk.refl _ | exact Wk.nil | exact Wk.clip _ | exact Wk.tip _ _ _ | exact Wk.opt _ _ (by first | assumption | rfl) | exact Wk.gr _ _ | exact Wk.nil_gr | exact Wk.trans (Wk.opt _ _ (by first | assumption | rfl)) (by first | exact Wk.gr _ _ | exact Wk.nil | exact Wk.clip _ | exact Wk.tip _ _ _) | exact Wk.aggs (by repeat (first | exact Wks.nil | refine Wks.cons (by first | exact Wk.refl _ | exact Wk.nil | exact Wk.clip _ | exact Wk.tip _ _ _ | exact Wk.gr _ _ | exact Wk.nil_gr | exact Wk.nil_ow | exact Wk.ms_ow _ _ _) ?_)) rfl | exact Wk.nil_ow | exact Wk.ms_ow _ _ _ | exact Wk.ow_ms _ _ _)) (hmm : (g, .cells cs) ∈ bs := by exact (by repeat (first | exact List.mem_cons_self | assumption | refine List.mem_cons_of_mem _ ?_ | refine mem_gB ?_ | refine mem_gO ?_))) (hg : o2.guard = none := by rfl) (hdst : o2.dst = some d := by rfl) (hN : Nat.blt d N = true := by rfl) (hk : okOps o2 = true := by rfl) (hd : depsI ops idx m = true := by decide +kernel) (hq : ∀ bs : BS, (g, Blk.cells cs) ∈ bs → OpQ P o2 t bs y := by (intro bs hmem; exact OpQ.auto))
    (h : ADl P N ops Q n ((m, true) :: idx) (o :: rest) (⟨m, y, some [(g, cs)]⟩ :: cl) ((d, y) :: t) bs) : ADl P N ops Q n idx (o :: rest) cl t bs := by
  intro h1 h2 hk3
  obtain ⟨e1, ex, e2⟩ := depsI_1 h1 hd
  have hnb : needs [(g, cs)] bs := fun z hz => by simp only [List.mem_singleton] at hz; subst hz; exact hmm
  exact .free m ho2 e1 ex e2 (by rw [hdst]; exact hN) [(g, cs)] hnb (fun bs hb => (hq bs (hb _ (List.mem_singleton.2 rfl))).s hg hk) (by rw [hdst]; exact h (by simp [h1]) h2 (hk3.cons fun L e => by cases e; exact hnb))
theorem ADl.store {ty : TypeId} {x z : Operand} {g p sz by_ : Nat} {d : TypeDesc} {cs cs' : List A} {bs' : BS} (ho : o.op = .store ty x z := by rfl) (h1 : TI P ty d sz by_ := by infer_instance) (hx : Wk (evA t x) (.ptr g p) := by exact (by first | exact Wk.refl _ | exact Wk.nil | exact Wk.clip _ | exact Wk.tip _ _ _ | exact Wk.opt _ _ (by first | assumption | rfl) | exact Wk.gr _ _ | exact Wk.nil_gr | exact Wk.trans (Wk.opt _ _ (by first | assumption | rfl)) (by first | exact Wk.gr _ _ | exact Wk.nil | exact Wk.clip _ | exact Wk.tip _ _ _) | exact Wk.aggs (by repeat (first | exact Wks.nil | refine Wks.cons (by first | exact Wk.refl _ | exact Wk.nil | exact Wk.clip _ | exact Wk.tip _ _ _ | exact Wk.gr _ _ | exact Wk.nil_gr | exact Wk.nil_ow | exact Wk.ms_ow _ _ _) ?_)) rfl | exact Wk.nil_ow | exact Wk.ms_ow _ _ _ | exact Wk.ow_ms _ _ _)) (hz : Wk (evA t z) y := by exact (by first | exact Wk.opt _ _ (by first | assumption | rfl) | exact Wk.of_eq (by (conv => lhs; whnf) <;> rfl))) (hc : y.isCell = true ∨ ∃ xs, y = .agg xs := by exact (by first | exact .inl rfl | exact .inr ⟨_, rfl⟩)) (hmm : (g, .cells cs) ∈ bs := by exact (by repeat (first | exact List.mem_cons_self | assumption | refine List.mem_cons_of_mem _ ?_ | refine mem_gB ?_ | refine mem_gO ?_))) (hcs : spl cs p (cellsOf y) = cs' := by exact (by first | ((simp only [spl, cellsOf, List.set_cons_zero, List.set_cons_succ]) <;> rfl) | rfl)) (hu : BUpd bs g (.cells cs) g (.cells cs') bs' := by exact (by repeat (first | exact BUpd.head | apply BUpd.tail | apply BUpd.gB | apply BUpd.gO))) (hl : p + sz ≤ cs.length := by exact (by first | rfl | (simp; done) | (simp only [List.length_map]; omega) | (simp; omega) | omega)) (hs : (cellsOf y).length = sz := by exact (by first | rfl | (simp; done) | (simp only [List.length_map]; omega) | (simp; omega) | omega))
    (hg : o.guard = none := by rfl) (hdst : o.dst = none := by rfl) (hk : okOps o = true := by rfl) (hd : depsI ops idx n = true := by decide +kernel) (hld : loudI ops idx n = true := by decide +kernel) (hst : settleI ops idx n = true := by decide +kernel) (hm : n + 1 = m := by exact (by (conv => lhs; whnf) <;> rfl))
    (h : ADl P N ops Q m ((n, true) :: idx) rest (⟨n, .junk, some []⟩ :: cl) t bs') : ADl P N ops Q n idx (o :: rest) cl t bs :=
  .w (OpW.store ho hx hz hc hmm hcs hu hl hs) hg (by rw [hdst]; rfl) hk hd hld hm (.inl hst) fun _ _ ⟨e1, e2⟩ => by subst e1; subst e2; rw [hdst]; exact h
theorem ADl.storek {ty : TypeId} {x z : Operand} {g p sz by_ : Nat} {d : TypeDesc} {cs cs' : List A} {bs' : BS} (ho : o.op = .store ty x z := by rfl) (h1 : TI P ty d sz by_ := by infer_instance) (hx : Wk (evA t x) (.ptr g p) := by exact (by first | exact Wk.refl _ | exact Wk.nil | exact Wk.clip _ | exact Wk.tip _ _ _ | exact Wk.opt _ _ (by first | assumption | rfl) | exact Wk.gr _ _ | exact Wk.nil_gr | exact Wk.trans (Wk.opt _ _ (by first | assumption | rfl)) (by first | exact Wk.gr _ _ | exact Wk.nil | exact Wk.clip _ | exact Wk.tip _ _ _) | exact Wk.aggs (by repeat (first | exact Wks.nil | refine Wks.cons (by first | exact Wk.refl _ | exact Wk.nil | exact Wk.clip _ | exact Wk.tip _ _ _ | exact Wk.gr _ _ | exact Wk.nil_gr | exact Wk.nil_ow | exact Wk.ms_ow _ _ _) ?_)) rfl | exact Wk.nil_ow | exact Wk.ms_ow _ _ _ | exact Wk.ow_ms _ _ _)) (hz : Wk (evA t z) y := by exact (by first | exact Wk.opt _ _ (by first | assumption | rfl) | exact Wk.of_eq (by (conv => lhs; whnf) <;> rfl))) (hc : y.isCell = true ∨ ∃ xs, y = .agg xs := by exact (by first | exact .inl rfl | exact .inr ⟨_, rfl⟩)) (hmm : (g, .cells cs) ∈ bs := by exact (by repeat (first | exact List.mem_cons_self | assumption | refine List.mem_cons_of_mem _ ?_ | refine mem_gB ?_ | refine mem_gO ?_))) (hcs : spl cs p (cellsOf y) = cs' := by exact (by first | ((simp only [spl, cellsOf, List.set_cons_zero, List.set_cons_succ]) <;> rfl) | rfl)) (hu : BUpd bs g (.cells cs) g (.cells cs') bs' := by exact (by repeat (first | exact BUpd.head | apply BUpd.tail | apply BUpd.gB | apply BUpd.gO))) (hl : p + sz ≤ cs.length := by exact (by first | rfl | (simp; done) | (simp only [List.length_map]; omega) | (simp; omega) | omega)) (hs : (cellsOf y).length = sz := by exact (by first | rfl | (simp; done) | (simp only [List.length_map]; omega) | (simp; omega) | omega))
    (hg : o.guard = none := by rfl) (hdst : o.dst = none := by rfl) (hk : okOps o = true := by rfl) (hd : depsI ops idx n = true := by decide +kernel) (hld : loudI ops idx n = true := by decide +kernel) (hst : needsC cl bs' := by exact (by repeat (first | exact trivial | exact List.mem_cons_self | assumption | refine ⟨?_, ?_⟩ | refine List.mem_cons_of_mem _ ?_ | refine mem_gB ?_ | refine mem_gO ?_))) (hm : n + 1 = m := by exact (by (conv => lhs; whnf) <;> rfl))
    (h : ADl P N ops Q m ((n, true) :: idx) rest (⟨n, .junk, some []⟩ :: cl) t bs') : ADl P N ops Q n idx (o :: rest) cl t bs :=
  .w (OpW.store ho hx hz hc hmm hcs hu hl hs) hg (by rw [hdst]; rfl) hk hd hld hm (.inr fun _ _ ⟨_, e2⟩ c hc L hL _ => e2 ▸ hst.all c hc L hL) fun _ _ ⟨e1, e2⟩ => by subst e1; subst e2; rw [hdst]; exact h
theorem ADl.store_all {ty : TypeId} {x z : Operand} {g sz by_ : Nat} {d : TypeDesc} {cs ys : List A} {bs' : BS} (ho : o.op = .store ty x z := by rfl) (h1 : TI P ty d sz by_ := by infer_instance) (hx : Wk (evA t x) (.ptr g 0) := by exact (by first | exact Wk.refl _ | exact Wk.nil | exact Wk.clip _ | exact Wk.tip _ _ _ | exact Wk.opt _ _ (by first | assumption | rfl) | exact Wk.gr _ _ | exact Wk.nil_gr | exact Wk.trans (Wk.opt _ _ (by first | assumption | rfl)) (by first | exact Wk.gr _ _ | exact Wk.nil | exact Wk.clip _ | exact Wk.tip _ _ _) | exact Wk.aggs (by repeat (first | exact Wks.nil | refine Wks.cons (by first | exact Wk.refl _ | exact Wk.nil | exact Wk.clip _ | exact Wk.tip _ _ _ | exact Wk.gr _ _ | exact Wk.nil_gr | exact Wk.nil_ow | exact Wk.ms_ow _ _ _) ?_)) rfl | exact Wk.nil_ow | exact Wk.ms_ow _ _ _ | exact Wk.ow_ms _ _ _)) (hz : Wk (evA t z) (.agg ys) := by exact (by first | exact Wk.refl _ | exact Wk.nil | exact Wk.clip _ | exact Wk.tip _ _ _ | exact Wk.opt _ _ (by first | assumption | rfl) | exact Wk.gr _ _ | exact Wk.nil_gr | exact Wk.trans (Wk.opt _ _ (by first | assumption | rfl)) (by first | exact Wk.gr _ _ | exact Wk.nil | exact Wk.clip _ | exact Wk.tip _ _ _) | exact Wk.aggs (by repeat (first | exact Wks.nil | refine Wks.cons (by first | exact Wk.refl _ | exact Wk.nil | exact Wk.clip _ | exact Wk.tip _ _ _ | exact Wk.gr _ _ | exact Wk.nil_gr | exact Wk.nil_ow | exact Wk.ms_ow _ _ _) ?_)) rfl | exact Wk.nil_ow | exact Wk.ms_ow _ _ _ | exact Wk.ow_ms _ _ _)) (hmm : (g, .cells cs) ∈ bs := by exact (by repeat (first | exact List.mem_cons_self | assumption | refine List.mem_cons_of_mem _ ?_ | refine mem_gB ?_ | refine mem_gO ?_))) (hu : BUpd bs g (.cells cs) g (.cells ys) bs' := by exact (by repeat (first | exact BUpd.head | apply BUpd.tail | apply BUpd.gB | apply BUpd.gO))) (hl : cs.length = sz := by exact (by first | rfl | (simp; done) | (simp only [List.length_map]; omega) | (simp; omega) | omega)) (hs : ys.length = sz := by exact (by first | rfl | (simp; done) | (simp only [List.length_map]; omega) | (simp; omega) | omega))
    (hg : o.guard = none := by rfl) (hdst : o.dst = none := by rfl) (hk : okOps o = true := by rfl) (hd : depsI ops idx n = true := by decide +kernel) (hld : loudI ops idx n = true := by decide +kernel) (hst : settleI ops idx n = true := by decide +kernel) (hm : n + 1 = m := by exact (by (conv => lhs; whnf) <;> rfl))
    (h : ADl P N ops Q m ((n, true) :: idx) rest (⟨n, .junk, some []⟩ :: cl) t bs') : ADl P N ops Q n idx (o :: rest) cl t bs :=
  .w (OpW.store ho hx hz (.inr ⟨_, rfl⟩) hmm (show spl cs 0 ys = ys from spl_all _ _ (by omega)) hu (by omega) hs) hg (by rw [hdst]; rfl) hk hd hld hm (.inl hst) fun _ _ ⟨e1, e2⟩ => by subst e1; subst e2; rw [hdst]; exact h
theorem ADl.store_allk {ty : TypeId} {x z : Operand} {g sz by_ : Nat} {d : TypeDesc} {cs ys : List A} {bs' : BS} (ho : o.op = .store ty x z := by rfl) (h1 : TI P ty d sz by_ := by infer_instance) (hx : Wk (evA t x) (.ptr g 0) := by exact (by first | exact Wk.refl _ | exact Wk.nil | exact Wk.clip _ | exact Wk.tip _ _ _ | exact Wk.opt _ _ (by first | assumption | rfl) | exact Wk.gr _ _ | exact Wk.nil_gr | exact Wk.trans (Wk.opt _ _ (by first | assumption | rfl)) (by first | exact Wk.gr _ _ | exact Wk.nil | exact Wk.clip _ | exact Wk.tip _ _ _) | exact Wk.aggs (by repeat (first | exact Wks.nil | refine Wks.cons (by first | exact Wk.refl _ | exact Wk.nil | exact Wk.clip _ | exact Wk.tip _ _ _ | exact Wk.gr _ _ | exact Wk.nil_gr | exact Wk.nil_ow | exact Wk.ms_ow _ _ _) ?_)) rfl | exact Wk.nil_ow | exact Wk.ms_ow _ _ _ | exact Wk.ow_ms _ _ _)) (hz : Wk (evA t z) (.agg ys) := by exact (by first | exact Wk.refl _ | exact Wk.nil | exact Wk.clip _ | exact Wk.tip _ _ _ | exact Wk.opt _ _ (by first | assumption | rfl) | exact Wk.gr _ _ | exact Wk.nil_gr | exact Wk.trans (Wk.opt _ _ (by first | assumption | rfl)) (by first | exact Wk.gr _ _ | exact Wk.nil | exact Wk.clip _ | exact Wk.tip _ _ _) | exact Wk.aggs (by repeat (first | exact Wks.nil | refine Wks.cons (by first | exact Wk.refl _ | exact Wk.nil | exact Wk.clip _ | exact Wk.tip _ _ _ | exact Wk.gr _ _ | exact Wk.nil_gr | exact Wk.nil_ow | exact Wk.ms_ow _ _ _) ?_)) rfl | exact Wk.nil_ow | exact Wk.ms_ow _ _ _ | exact Wk.ow_ms _ _ _)) (hmm : (g, .cells cs) ∈ bs := by exact (by repeat (first | exact List.mem_cons_self | assumption | refine List.mem_cons_of_mem _ ?_ | refine mem_gB ?_ | refine mem_gO ?_))) (hu : BUpd bs g (.cells cs) g (.cells ys) bs' := by exact (by repeat (first | exact BUpd.head | apply BUpd.tail | apply BUpd.gB | apply BUpd.gO))) (hl : cs.length = sz := by exact (by first | rfl | (simp; done) | (simp only [List.length_map]; omega) | (simp; omega) | omega)) (hs : ys.length = sz := by exact (by first | rfl | (simp; done) | (simp only [List.length_map]; omega) | (simp; omega) | omega))
    (hg : o.guard = none := by rfl) (hdst : o.dst = none := by rfl) (hk : okOps o = true := by rfl) (hd : depsI ops idx n = true := by decide +kernel) (hld : loudI ops idx n = true := by decide +kernel) (hst : needsC cl bs' := by exact (by repeat (first | exact trivial | exact List.mem_cons_self | assumption | refine ⟨?_, ?_⟩ | refine List.mem_cons_of_mem _ ?_ | refine mem_gB ?_ | refine mem_gO ?_))) (hm : n + 1 = m := by exact (by (conv => lhs; whnf) <;> rfl))
    (h : ADl P N ops Q m ((n, true) :: idx) rest (⟨n, .junk, some []⟩ :: cl) t bs') : ADl P N ops Q n idx (o :: rest) cl t bs :=
  .w (OpW.store ho hx hz (.inr ⟨_, rfl⟩) hmm (show spl cs 0 ys = ys from spl_all _ _ (by omega)) hu (by omega) hs) hg (by rw [hdst]; rfl) hk hd hld hm (.inr fun _ _ ⟨_, e2⟩ c hc L hL _ => e2 ▸ hst.all c hc L hL) fun _ _ ⟨e1, e2⟩ => by subst e1; subst e2; rw [hdst]; exact h
theorem ADl.alloc {ty : TypeId} {zs : List Value} {cs : List A} (ho : o.op = .alloc ty := by rfl) (hz : TC P ty zs cs := by infer_instance)
    (hg : o.guard = none := by rfl) (hdst : o.dst = some d := by rfl) (hN : Nat.blt d N = true := by rfl) (hk : okOps o = true := by rfl) (hd : depsI ops idx n = true := by decide +kernel) (hld : loudI ops idx n = true := by decide +kernel) (hm : n + 1 = m := by exact (by (conv => lhs; whnf) <;> rfl))
    (h : ∀ g, ADl P N ops Q m ((n, true) :: idx) rest (⟨n, .ptr g 0, some []⟩ :: cl) ((d, .ptr g 0) :: t) ((g, .cells cs) :: bs)) : ADl P N ops Q n idx (o :: rest) cl t bs :=
  .w (OpW.alloc ho) hg (by rw [hdst]; exact hN) hk hd hld hm (.inr fun y bs' ⟨g, _, e2⟩ c hc L hL hn x hx => e2 ▸ List.mem_cons_of_mem _ (hn x hx)) fun _ _ ⟨g, e1, e2⟩ => by subst e1; subst e2; rw [hdst]; exact h g
theorem ADl.allocN {ty : TypeId} {zs : List Value} {cs : List A} (ho : o.op = .alloc ty := by rfl) (hz : TC P ty zs cs := by infer_instance) {d0 : TypeDesc} {sz0 by0 : Nat} (h10 : TI P ty d0 sz0 by0 := by infer_instance) (hna : notArr d0 = true := by rfl)
    (hg : o.guard = none := by rfl) (hdst : o.dst = some d := by rfl) (hN : Nat.blt d N = true := by rfl) (hk : okOps o = true := by rfl) (hd : depsI ops idx n = true := by decide +kernel) (hld : loudI ops idx n = true := by decide +kernel) (hm : n + 1 = m := by exact (by (conv => lhs; whnf) <;> rfl))
    (h : ∀ g, ADl P N ops Q m ((n, true) :: idx) rest (⟨n, .ptr g 0, some []⟩ :: cl) ((d, .ptr g 0) :: t) ((g, .cells cs) :: bs)) : ADl P N ops Q n idx (o :: rest) cl t bs := .alloc ho hz hg hdst hN hk hd hld hm h
/-- Two allocations, in either order; all that is left hangs on both. -/
theorem ADl.alloc2 {ty ty2 : TypeId} {d2 : Nat} {zs zs2 : List Value} {cs cs2 : List A} (ho : o.op = .alloc ty := by rfl) (ho2 : o2.op = .alloc ty2 := by rfl) (hz : TC P ty zs cs := by infer_instance) (hz2 : TC P ty2 zs2 cs2 := by infer_instance)
    (hg : o.guard = none := by rfl) (hdst : o.dst = some d := by rfl) (hN : Nat.blt d N = true := by rfl) (hk : okOps o = true := by rfl) (hg2 : o2.guard = none := by rfl) (hdst2 : o2.dst = some d2 := by rfl) (hN2 : Nat.blt d2 N = true := by rfl) (hk2 : okOps o2 = true := by rfl)
    (hd : depsI ops idx n = true := by decide +kernel) (hd2 : depsI ops idx (n + 1) = true := by decide +kernel) (hd3 : depsI ops ((n + 1, true) :: idx) n = true := by decide +kernel) (hd4 : depsI ops ((n, true) :: idx) (n + 1) = true := by decide +kernel) (hl : loudI ops ((n, true) :: idx) (n + 1) = true := by decide +kernel) (hl2 : loudI ops ((n + 1, true) :: idx) n = true := by decide +kernel)
    (hal : (List.range ops.size).all (fun i => inI idx i || Nat.beq i n || Nat.beq i (n + 1) || !((edgesOf ops i).all (inI idx))) = true := by decide +kernel) (hm : n + 2 = m := by exact (by (conv => lhs; whnf) <;> rfl))
    (h1 : ∀ g g2, ADl P N ops Q m ((n + 1, true) :: (n, true) :: idx) rest (⟨n + 1, .ptr g2 0, some []⟩ :: ⟨n, .ptr g 0, some []⟩ :: cl) ((d2, .ptr g2 0) :: (d, .ptr g 0) :: t) ((g2, .cells cs2) :: (g, .cells cs) :: bs))
    (h2 : ∀ g g2, ADl P N ops Q m ((n, true) :: (n + 1, true) :: idx) rest (⟨n, .ptr g 0, some []⟩ :: ⟨n + 1, .ptr g2 0, some []⟩ :: cl) ((d, .ptr g 0) :: (d2, .ptr g2 0) :: t) ((g, .cells cs) :: (g2, .cells cs2) :: bs)) : ADl P N ops Q n idx (o :: o2 :: rest) cl t bs := by
  subst hm
  intro k1 k2 hk3
  obtain ⟨hi, k2'⟩ := drop_get k2
  obtain ⟨hi2, _⟩ := drop_get k2'
  obtain ⟨e1, ex, e2⟩ := depsI_1 k1 hd
  obtain ⟨f1, fx, f2⟩ := depsI_1 k1 hd2
  have hlt : n < ops.size := (Array.getElem?_eq_some_iff.1 hi).1
  have hlt2 : n + 1 < ops.size := (Array.getElem?_eq_some_iff.1 hi2).1
  have hnone : ∀ i, i = n ∨ i = n + 1 → ∀ c ∈ cl, c.need = none → depB ops ops.size i c.i = false → False := by
    intro i hii c hc hf hdp
    unfold loudI at hl hl2
    rw [Bool.and_eq_true] at hl hl2
    rcases hii with rfl | rfl
    · have := List.all_eq_true.1 hl2.2 (c.i, c.need.isSome) (List.mem_cons_of_mem _ (by rw [← k1]; exact List.mem_map.2 ⟨c, hc, rfl⟩))
      simp [hf, hdp] at this
    · have := List.all_eq_true.1 hl.2 (c.i, c.need.isSome) (List.mem_cons_of_mem _ (by rw [← k1]; exact List.mem_map.2 ⟨c, hc, rfl⟩))
      simp [hf, hdp] at this
  have hneed : ∀ i, claimed cl i = false → i < ops.size → ∀ bs', (∀ g cs, (g, Blk.cells cs) ∈ bs → (g, Blk.cells cs) ∈ bs') → ∀ c ∈ cl, ∀ L, c.need = some L → depB ops ops.size i c.i = false → needs L bs' := by
    intro i hcl hil bs' hks c hc L hL hdp
    rcases hk3 c hc L hL with h5 | h5
    · exact fun x hx => hks _ _ (h5 x hx)
    · have := List.all_eq_true.1 h5 i (by simpa using hil)
      rw [hcl, hdp] at this; cases this
  have honly : ∀ i, i < ops.size → claimed cl i = false → (edgesOf ops i).all (claimed cl) = true → i = n ∨ i = n + 1 := by
    intro i hil hcl hed
    have h5 := List.all_eq_true.1 hal i (by simpa using hil)
    rw [← claimed_fun k1, hcl, hed] at h5
    simp only [Bool.false_or, Bool.not_true, Bool.or_false, Bool.or_eq_true] at h5
    exact h5.imp Nat.eq_of_beq_eq_true Nat.eq_of_beq_eq_true
  have nel : ∀ L, (some ([] : List (Nat × List A))) = some L → needs L bs := fun L e => by cases e; exact needs_nil
  refine .alt n hi e1 (fun i y bs' => (i = n ∧ ∃ g, y = .ptr g 0 ∧ bs' = (g, .cells cs) :: bs) ∨ (i = n + 1 ∧ ∃ g, y = .ptr g 0 ∧ bs' = (g, .cells cs2) :: bs)) ?_ ?_
  · intro i o' ho' hcl hed
    have hil : i < ops.size := (Array.getElem?_eq_some_iff.1 ho').1
    rcases honly i hil hcl hed with rfl | rfl
    · rw [hi] at ho'; injection ho' with ho'; subst ho'
      refine ⟨ex, by rw [hdst]; exact hN, hg, hk, ?_, fun _ _ _ c hc hf hdp => (hnone i (.inl rfl) c hc hf hdp).elim, fun y bs' hR => hneed i hcl hil bs' ?_⟩
      · intro a w hx hb K Q hK
        exact OpW.alloc ho a w hx hb K Q fun u w' y bs' ⟨g, a1, a2⟩ => hK u w' y bs' (.inl ⟨rfl, g, a1, a2⟩)
      · rcases hR with ⟨_, g, _, a2⟩ | ⟨a0, _⟩
        · exact fun g1 cs1 hm => a2 ▸ List.mem_cons_of_mem _ hm
        · omega
    · rw [hi2] at ho'; injection ho' with ho'; subst ho'
      refine ⟨fx, by rw [hdst2]; exact hN2, hg2, hk2, ?_, fun _ _ _ c hc hf hdp => (hnone (n + 1) (.inr rfl) c hc hf hdp).elim, fun y bs' hR => hneed (n + 1) hcl hil bs' ?_⟩
      · intro a w hx hb K Q hK
        exact OpW.alloc ho2 a w hx hb K Q fun u w' y bs' ⟨g, a1, a2⟩ => hK u w' y bs' (.inr ⟨rfl, g, a1, a2⟩)
      · rcases hR with ⟨a0, _⟩ | ⟨_, g, _, a2⟩
        · omega
        · exact fun g1 cs1 hm => a2 ▸ List.mem_cons_of_mem _ hm
  · intro i o' y bs' ho' hcl hed hR
    rcases hR with ⟨rfl, g, rfl, rfl⟩ | ⟨rfl, g2, rfl, rfl⟩
    · rw [hi] at ho'; injection ho' with ho'; subst ho'
      rw [hdst]
      exact ADl.alloc (n := i + 1) (idx := (i, true) :: idx) ho2 hz2 hg2 hdst2 hN2 hk2 hd4 hl rfl (fun g2 => h1 g g2) (by simp [k1]) k2' ((hk3.keep fun _ _ hm => List.mem_cons_of_mem _ hm).cons fun L e => by cases e; exact needs_nil)
    · rw [hi2] at ho'; injection ho' with ho'; subst ho'
      rw [hdst2]
      exact ADl.alloc (n := n) (idx := (n + 1, true) :: idx) ho hz hg hdst hN hk hd3 hl2 rfl (fun g => ADl.skip (by simp [inI]) rfl (h2 g g2)) (by simp [k1]) k2 ((hk3.keep fun _ _ hm => List.mem_cons_of_mem _ hm).cons fun L e => by cases e; exact needs_nil)
theorem ADl.in_ {id : Nat} {l : List Oper} (hm : P.follows .mixedOrders = true := by kernel_rfl) (hA : okAny l.toArray = true := by kernel_rfl) (hS : okSelf l.toArray = true := by kernel_rfl) (h : ADl P N l.toArray Q 0 [] l [] t bs) : AW P N (.region id l.toArray true) Q t bs := AW.draw hm hA hS (h rfl rfl fun c hc => nomatch hc)
/-- Guards that are known. -/
theorem ADl.fk {j dj : Nat} {oj : Oper} {want e : Bool} (hg : o.guard = some (j, want) := by rfl) (hj : ops[j]? = some oj := by rfl) (hdj : oj.dst = some dj := by rfl) (hl : Wk (look t dj) (.v (.bool e)) := by exact (by first | exact Wk.refl _ | exact Wk.nil | exact Wk.clip _ | exact Wk.tip _ _ _ | exact Wk.opt _ _ (by first | assumption | rfl) | exact Wk.gr _ _ | exact Wk.nil_gr | exact Wk.trans (Wk.opt _ _ (by first | assumption | rfl)) (by first | exact Wk.gr _ _ | exact Wk.nil | exact Wk.clip _ | exact Wk.tip _ _ _) | exact Wk.aggs (by repeat (first | exact Wks.nil | refine Wks.cons (by first | exact Wk.refl _ | exact Wk.nil | exact Wk.clip _ | exact Wk.tip _ _ _ | exact Wk.gr _ _ | exact Wk.nil_gr | exact Wk.nil_ow | exact Wk.ms_ow _ _ _) ?_)) rfl | exact Wk.nil_ow | exact Wk.ms_ow _ _ _ | exact Wk.ow_ms _ _ _)) (he : e = want := by first | rfl | assumption) (hlt : dj < N := by decide) (hdst : o.dst = some d := by rfl) (hN : Nat.blt d N = true := by rfl) (hk : okOps o = true := by rfl) (hd : depsI ops idx n = true := by decide +kernel) (hq : ∀ bs, OpQ P o t bs y := by (intro bs; exact OpQ.auto)) (hm : n + 1 = m := by exact (by (conv => lhs; whnf) <;> rfl))
    (h : ADl P N ops Q m ((n, true) :: idx) rest (⟨n, y, some []⟩ :: cl) ((d, y) :: t) bs) : ADl P N ops Q n idx (o :: rest) cl t bs := by
  subst hm
  intro h1 h2 hk3
  obtain ⟨hi, h2⟩ := drop_get h2
  obtain ⟨e1, ex, e2⟩ := depsI_1 h1 hd
  exact .free n hi e1 ex e2 (by rw [hdst]; exact hN) [] needs_nil (fun bs _ => OpS.opened hg hj hdj hl he hlt (hq bs) hk) (by rw [hdst]; exact h (by simp [h1]) h2 (hk3.cons fun L e => by cases e; exact needs_nil))
theorem ADl.bk {j dj : Nat} {oj : Oper} {want e : Bool} (hg : o.guard = some (j, want) := by rfl) (hj : ops[j]? = some oj := by rfl) (hdj : oj.dst = some dj := by rfl) (hl : Wk (look t dj) (.v (.bool e)) := by exact (by first | exact Wk.refl _ | exact Wk.nil | exact Wk.clip _ | exact Wk.tip _ _ _ | exact Wk.opt _ _ (by first | assumption | rfl) | exact Wk.gr _ _ | exact Wk.nil_gr | exact Wk.trans (Wk.opt _ _ (by first | assumption | rfl)) (by first | exact Wk.gr _ _ | exact Wk.nil | exact Wk.clip _ | exact Wk.tip _ _ _) | exact Wk.aggs (by repeat (first | exact Wks.nil | refine Wks.cons (by first | exact Wk.refl _ | exact Wk.nil | exact Wk.clip _ | exact Wk.tip _ _ _ | exact Wk.gr _ _ | exact Wk.nil_gr | exact Wk.nil_ow | exact Wk.ms_ow _ _ _) ?_)) rfl | exact Wk.nil_ow | exact Wk.ms_ow _ _ _ | exact Wk.ow_ms _ _ _)) (he : e = want := by first | rfl | assumption) (hlt : dj < N := by decide) (hdst : o.dst = some d := by rfl) (hN : Nat.blt d N = true := by rfl) (hk : okOps o = true := by rfl) (hd : depsI ops idx n = true := by decide +kernel) (hq : OpQ P o t bs y := by exact OpQ.auto) (hm : n + 1 = m := by exact (by (conv => lhs; whnf) <;> rfl))
    (h : ADl P N ops Q m ((n, false) :: idx) rest (⟨n, y, none⟩ :: cl) ((d, y) :: t) bs) : ADl P N ops Q n idx (o :: rest) cl t bs := by
  subst hm
  intro h1 h2 hk3
  obtain ⟨hi, h2⟩ := drop_get h2
  obtain ⟨e1, ex, e2⟩ := depsI_1 h1 hd
  exact .q n hi e1 ex e2 (by rw [hdst]; exact hN) (OpS.opened hg hj hdj hl he hlt hq hk) (by rw [hdst]; exact h (by simp [h1]) h2 (hk3.cons fun L e => by cases e))
theorem ADl.sk {j dj : Nat} {oj : Oper} {want : Bool} (hg : o.guard = some (j, want) := by rfl) (hj : ops[j]? = some oj := by rfl) (hdj : oj.dst = some dj := by rfl) (hl : GB t dj want false := by exact (by first | exact GB.sv (by first | exact Wk.refl _ | exact Wk.nil | exact Wk.clip _ | exact Wk.tip _ _ _ | exact Wk.opt _ _ (by first | assumption | rfl) | exact Wk.gr _ _ | exact Wk.nil_gr | exact Wk.trans (Wk.opt _ _ (by first | assumption | rfl)) (by first | exact Wk.gr _ _ | exact Wk.nil | exact Wk.clip _ | exact Wk.tip _ _ _) | exact Wk.aggs (by repeat (first | exact Wks.nil | refine Wks.cons (by first | exact Wk.refl _ | exact Wk.nil | exact Wk.clip _ | exact Wk.tip _ _ _ | exact Wk.gr _ _ | exact Wk.nil_gr | exact Wk.nil_ow | exact Wk.ms_ow _ _ _) ?_)) rfl | exact Wk.nil_ow | exact Wk.ms_ow _ _ _ | exact Wk.ow_ms _ _ _) (by first | rfl | assumption) | exact GB.o (by rfl) (by rfl))) (hlt : dj < N := by decide) (hdst : o.dst = some d := by rfl) (hN : Nat.blt d N = true := by rfl) (hd : depsI ops idx n = true := by decide +kernel) (hm : n + 1 = m := by exact (by (conv => lhs; whnf) <;> rfl))
    (h : ADl P N ops Q m ((n, true) :: idx) rest (⟨n, offA, some []⟩ :: cl) ((d, offA) :: t) bs) : ADl P N ops Q n idx (o :: rest) cl t bs := by
  subst hm
  intro h1 h2 hk3
  obtain ⟨hi, h2⟩ := drop_get h2
  obtain ⟨e1, ex, e2⟩ := depsI_1 h1 hd
  exact .free n hi e1 ex e2 (by rw [hdst]; exact hN) [] needs_nil (fun bs _ => OpS.shut hg hj hdj hl hlt) (by rw [hdst]; exact h (by simp [h1]) h2 (hk3.cons fun L e => by cases e; exact needs_nil))
theorem ADl.mk_ {ty : TypeId} {x : Operand} {g p : Nat} {cs : List A} {j dj : Nat} {oj : Oper} {want e : Bool} (ho : o.op = .load ty x := by rfl) (hg : o.guard = some (j, want) := by rfl) (hj : ops[j]? = some oj := by rfl) (hdj : oj.dst = some dj := by rfl) (hl : Wk (look t dj) (.v (.bool e)) := by exact (by first | exact Wk.refl _ | exact Wk.nil | exact Wk.clip _ | exact Wk.tip _ _ _ | exact Wk.opt _ _ (by first | assumption | rfl) | exact Wk.gr _ _ | exact Wk.nil_gr | exact Wk.trans (Wk.opt _ _ (by first | assumption | rfl)) (by first | exact Wk.gr _ _ | exact Wk.nil | exact Wk.clip _ | exact Wk.tip _ _ _) | exact Wk.aggs (by repeat (first | exact Wks.nil | refine Wks.cons (by first | exact Wk.refl _ | exact Wk.nil | exact Wk.clip _ | exact Wk.tip _ _ _ | exact Wk.gr _ _ | exact Wk.nil_gr | exact Wk.nil_ow | exact Wk.ms_ow _ _ _) ?_)) rfl | exact Wk.nil_ow | exact Wk.ms_ow _ _ _ | exact Wk.ow_ms _ _ _)) (he : e = want := by first | rfl | assumption) (hlt : dj < N := by decide) (hx : Wk (evA t x) (.ptr g p) := by exact (by first | exact Wk.refl _ | exact Wk.nil | exact Wk.clip _ | exact Wk.tip _ _ _ | exact Wk.opt _ _ (by first | assumption | rfl) | exact Wk.gr _ _ | exact Wk.nil_gr | exact Wk.trans (Wk.opt _ _ (by first | assumption | rfl)) (by first | exact Wk.gr _ _ | exact Wk.nil | exact Wk.clip _ | exact Wk.tip _ _ _) | exact Wk.aggs (by repeat (first | exact Wks.nil | refine Wks.cons (by first | exact Wk.refl _ | exact Wk.nil | exact Wk.clip _ | exact Wk.tip _ _ _ | exact Wk.gr _ _ | exact Wk.nil_gr | exact Wk.nil_ow | exact Wk.ms_ow _ _ _) ?_)) rfl | exact Wk.nil_ow | exact Wk.ms_ow _ _ _ | exact Wk.ow_ms _ _ _)) (hmm : (g, .cells cs) ∈ bs := by exact (by repeat (first | exact List.mem_cons_self | assumption | refine List.mem_cons_of_mem _ ?_ | refine mem_gB ?_ | refine mem_gO ?_))) (hdst : o.dst = some d := by rfl) (hN : Nat.blt d N = true := by rfl) (hk : okOps o = true := by rfl) (hd : depsI ops idx n = true := by decide +kernel) (hq : ∀ bs : BS, (g, Blk.cells cs) ∈ bs → OpQ P o t bs y := by (intro bs hmem; exact OpQ.auto)) (hm : n + 1 = m := by exact (by (conv => lhs; whnf) <;> rfl))
    (h : ADl P N ops Q m ((n, true) :: idx) rest (⟨n, y, some [(g, cs)]⟩ :: cl) ((d, y) :: t) bs) : ADl P N ops Q n idx (o :: rest) cl t bs := by
  subst hm
  intro h1 h2 hk3
  obtain ⟨hi, h2⟩ := drop_get h2
  obtain ⟨e1, ex, e2⟩ := depsI_1 h1 hd
  have hnb : needs [(g, cs)] bs := fun z hz => by simp only [List.mem_singleton] at hz; subst hz; exact hmm
  exact .free n hi e1 ex e2 (by rw [hdst]; exact hN) [(g, cs)] hnb (fun bs hb => OpS.opened hg hj hdj hl he hlt (hq bs (hb _ (List.mem_singleton.2 rfl))) hk) (by rw [hdst]; exact h (by simp [h1]) h2 (hk3.cons fun L e => by cases e; exact hnb))
/-- One step on, where the order is drawn. -/
theorem goD {G H : Prop} (s : H → G := by
    first
    | ((with_reducible show _ → ADl _ _ _ _ _ _ (_ :: _) _ _ _); first | exact fun h => ADl.skip (h := h))
    | ((with_reducible show _ → ADl _ _ _ _ _ _ (⟨_, _, _, _, _, some _⟩ :: _) _ _ _); first | exact fun h => ADl.sk (h := h) | exact fun h => ADl.mk_ (h := h) | exact fun h => ADl.fk (h := h) | exact fun h => ADl.bk (h := h) | exact fun h => ADl.fgF (h := h) | exact fun h => ADl.fg (h := h) | exact fun h => ADl.mloadg (h := h) | exact fun h => ADl.bg (h := h))
    | ((with_reducible show _ → ADl _ _ _ _ _ _ (⟨_, .store _ _ _, _, _, _, _⟩ :: _) _ _ _); first | exact fun h => ADl.store (h := h) | exact fun h => ADl.store_all (h := h) | exact fun h => ADl.storek (h := h) | exact fun h => ADl.store_allk (h := h) | exact fun h => ADl.ahead (h := h) | exact fun h => ADl.ahead2 (h := h))
    | ((with_reducible show _ → ADl _ _ _ _ _ _ (⟨_, .alloc _, _, _, _, _⟩ :: _) _ _ _); first | exact fun h => ADl.allocN (h := h) | exact fun h => ADl.ahead (h := h) | exact fun h => ADl.ahead2 (h := h))
    | ((with_reducible show _ → ADl _ _ _ _ _ _ (⟨_, .buildSlice _ _ _, _, _, _, _⟩ :: _) _ _ _); first | exact fun h => ADl.lits (h := h))
    | ((with_reducible show _ → ADl _ _ _ _ _ _ (⟨_, .load _ _, _, _, _, _⟩ :: _) _ _ _); first | exact fun h => ADl.f (h := h) | exact fun h => ADl.mload (h := h) | exact fun h => ADl.b (h := h))
    | ((with_reducible show _ → ADl _ _ _ _ _ _ (_ :: _) _ _ _); first | exact fun h => ADl.f (h := h) | exact fun h => ADl.b (h := h))
    | ((with_reducible show _ → ADl _ _ _ _ _ _ [_] _ _ _); first | exact fun h => ADl.last (h := h))
    | ((with_reducible show _ → ADl _ _ _ _ _ _ [] _ _ _); first | exact fun h => ADl.done h)
    | ((with_reducible show _ → AW _ _ (.region _ _ true) _ _ _); first | exact fun h => ADl.in_ (h := h))) (h : H) : G := s h
end
end Go.Proofs.YtnkkfmnpkgjabaaGreat.X
