/- Lifted code. Printed by a program of this repo (lift.py). -/
import Derived.Test.YtnkkfmnpkgjabaaF5
import Derived.Test.YtnkkfmnpkgjabaaL6
namespace Go.Proofs.Ytnkkfmnpkgjabaa.X
open Go.RowKit
set_option linter.unusedVariables false
set_option linter.unusedSimpArgs false
set_option maxRecDepth 10000
set_option maxHeartbeats 40000000

noncomputable def l_law9_BankOrder_b0 (s20 : Int) (s21 : SBook) : Option ((Int × SBook) ⊕ (Int × SBook)) :=
cond (decide (s20 < 5)) (
(ensure (-9223372036854775808 ≤ s20 + 1 ∧ s20 + 1 ≤ 9223372036854775807)).bind fun _ =>
(ensure (0 ≤ s20 ∧ s20 ≤ (s20 + 1) ∧ (s20 + 1) ≤ ((⟨#[101, 99, 97, 100, 98]⟩ : Txt).size : Int))).bind fun _ =>
(l_bank_Open s21 ((⟨#[101, 99, 97, 100, 98]⟩ : Txt).extract s20.toNat ((s20 + 1).toNat))).bind fun x35 =>
(ensure (-9223372036854775808 ≤ s20 + 1 ∧ s20 + 1 ≤ 9223372036854775807)).bind fun _ =>
some (.inl ((s20 + 1), x35.1))) (
some (.inr (s20, s21)))
noncomputable def l_law9_BankOrder_b2 (s300 : SBook) (s344 : Int) : Option ((Int) ⊕ (Int ⊕ Bool)) :=
cond (decide (s344 < (s300.Funds.length : Int))) (
(idxO s300.Funds s344).bind fun x355 =>
(grd (((!(decide (x355.Amount < 1))) && (decide (s344 > 0)))) (idxO s300.Funds (IntKind.wrap .i64 (s344 - 1)))).bind fun x359 =>
(grd ((((!(decide (x355.Amount < 1))) && (decide (s344 > 0))) && (!(!(Op.bytesLess x359.Account.toList x355.Account.toList || decide (x359.Account = x355.Account)))))) (idxO s300.Funds (IntKind.wrap .i64 (s344 - 1)))).bind fun x361 =>
(grd (((((!(decide (x355.Amount < 1))) && (decide (s344 > 0))) && (!(!(Op.bytesLess x359.Account.toList x355.Account.toList || decide (x359.Account = x355.Account))))) && (decide (x361.Account = x355.Account)))) (idxO s300.Funds (IntKind.wrap .i64 (s344 - 1)))).bind fun x363 =>
cond ((decide (x355.Amount < 1)) || ((decide (s344 > 0)) && ((!(Op.bytesLess x359.Account.toList x355.Account.toList || decide (x359.Account = x355.Account))) || ((decide (x361.Account = x355.Account)) && (!(Op.bytesLess x363.Asset.toList x355.Asset.toList)))))) (
some (.inr (.inr false))) (
(ensure (-9223372036854775808 ≤ s344 + 1 ∧ s344 + 1 ≤ 9223372036854775807)).bind fun _ =>
some (.inl (s344 + 1)))) (
some (.inr (.inl s344)))
noncomputable def l_law9_BankOrder_b1 (a0 : List Int) (s252 : Int) (s253 : SBook) : Option ((Int × SBook) ⊕ ((Int × SBook) ⊕ Bool)) :=
cond ((decide (s252 < (a0.length : Int))) && (decide (s252 < 60))) (
(idxO a0 s252).bind fun x265 =>
(l_law0_Place x265 1048576).bind fun x268 =>
(ensure (0 < 5)).bind fun _ =>
(ensure (0 < 5)).bind fun _ =>
(ensure (-9223372036854775808 ≤ (x268.tmod 5) + 1 ∧ (x268.tmod 5) + 1 ≤ 9223372036854775807)).bind fun _ =>
(ensure (0 ≤ (x268.tmod 5) ∧ (x268.tmod 5) ≤ ((x268.tmod 5) + 1) ∧ ((x268.tmod 5) + 1) ≤ ((⟨#[97, 98, 99, 100, 101]⟩ : Txt).size : Int))).bind fun _ =>
(ensure (0 < 5)).bind fun _ =>
(ensure (0 < 3)).bind fun _ =>
(ensure (0 < 5)).bind fun _ =>
(ensure (0 < 3)).bind fun _ =>
(ensure (-9223372036854775808 ≤ ((IntKind.wrap .i64 (x268.tdiv 5)).tmod 3) + 1 ∧ ((IntKind.wrap .i64 (x268.tdiv 5)).tmod 3) + 1 ≤ 9223372036854775807)).bind fun _ =>
(ensure (0 ≤ ((IntKind.wrap .i64 (x268.tdiv 5)).tmod 3) ∧ ((IntKind.wrap .i64 (x268.tdiv 5)).tmod 3) ≤ (((IntKind.wrap .i64 (x268.tdiv 5)).tmod 3) + 1) ∧ (((IntKind.wrap .i64 (x268.tdiv 5)).tmod 3) + 1) ≤ ((⟨#[103, 115, 120]⟩ : Txt).size : Int))).bind fun _ =>
(ensure (0 < 15)).bind fun _ =>
(ensure (0 < 9)).bind fun _ =>
(ensure (-9223372036854775808 ≤ 1 + ((IntKind.wrap .i64 (x268.tdiv 15)).tmod 9) ∧ 1 + ((IntKind.wrap .i64 (x268.tdiv 15)).tmod 9) ≤ 9223372036854775807)).bind fun _ =>
(l_bank_Balance s253 ((⟨#[97, 98, 99, 100, 101]⟩ : Txt).extract (x268.tmod 5).toNat (((x268.tmod 5) + 1).toNat)) ((⟨#[103, 115, 120]⟩ : Txt).extract ((IntKind.wrap .i64 (x268.tdiv 5)).tmod 3).toNat ((((IntKind.wrap .i64 (x268.tdiv 5)).tmod 3) + 1).toNat))).bind fun x283 =>
(ensure (0 < 200)).bind fun _ =>
(ensure (0 < 3)).bind fun _ =>
Option.bind (α := Int × SBook) (
cond (((IntKind.wrap .i64 (x268.tdiv 200)).tmod 3) == 0) (
(l_bank_Take s253 ((⟨#[97, 98, 99, 100, 101]⟩ : Txt).extract (x268.tmod 5).toNat (((x268.tmod 5) + 1).toNat)) ((⟨#[103, 115, 120]⟩ : Txt).extract ((IntKind.wrap .i64 (x268.tdiv 5)).tmod 3).toNat ((((IntKind.wrap .i64 (x268.tdiv 5)).tmod 3) + 1).toNat)) (max x283.1 1)).bind fun x306 =>
some (x283.1, x306.1)) (
(l_bank_Give s253 ((⟨#[97, 98, 99, 100, 101]⟩ : Txt).extract (x268.tmod 5).toNat (((x268.tmod 5) + 1).toNat)) ((⟨#[103, 115, 120]⟩ : Txt).extract ((IntKind.wrap .i64 (x268.tdiv 5)).tmod 3).toNat ((((IntKind.wrap .i64 (x268.tdiv 5)).tmod 3) + 1).toNat)) (1 + ((IntKind.wrap .i64 (x268.tdiv 15)).tmod 9))).bind fun x308 =>
(ensure (-9223372036854775808 ≤ x283.1 + (1 + ((IntKind.wrap .i64 (x268.tdiv 15)).tmod 9)) ∧ x283.1 + (1 + ((IntKind.wrap .i64 (x268.tdiv 15)).tmod 9)) ≤ 9223372036854775807)).bind fun _ =>
some ((x283.1 + (1 + ((IntKind.wrap .i64 (x268.tdiv 15)).tmod 9))), x308.1))) fun j301 => (match j301 with
| (s299, s300) =>
(l_bank_Balance s300 ((⟨#[97, 98, 99, 100, 101]⟩ : Txt).extract (x268.tmod 5).toNat (((x268.tmod 5) + 1).toNat)) ((⟨#[103, 115, 120]⟩ : Txt).extract ((IntKind.wrap .i64 (x268.tdiv 5)).tmod 3).toNat ((((IntKind.wrap .i64 (x268.tdiv 5)).tmod 3) + 1).toNat))).bind fun x311 =>
cond (((x311.1 != s299) && (((IntKind.wrap .i64 (x268.tdiv 200)).tmod 3) != 0)) || ((((IntKind.wrap .i64 (x268.tdiv 200)).tmod 3) == 0) && (x311.1 != 0))) (
some (.inr (.inr false))) (
Option.bind (loopF (τ := (Int ⊕ Bool)) (fun s : Int => l_law9_BankOrder_b2 s300 s) 0) fun oo345 => (match oo345 with
| .inl e352 =>
(ensure (-9223372036854775808 ≤ s252 + 1 ∧ s252 + 1 ≤ 9223372036854775807)).bind fun _ =>
some (.inl ((s252 + 1), s300))
| .inr r350 => some (.inr (.inr r350)))))) (
some (.inr (.inl (s252, s253))))
noncomputable def l_law9_BankOrder (a0 : List Int) : Option (Bool) :=
(l_bank_New 2).bind fun x1 =>
Option.bind (loopF (τ := Int × SBook) (fun s : Int × SBook => l_law9_BankOrder_b0 s.1 s.2) (0, x1)) fun oo22 => (match oo22 with
| (e29, e30) =>
Option.bind (loopF (τ := ((Int × SBook) ⊕ Bool)) (fun s : Int × SBook => l_law9_BankOrder_b1 a0 s.1 s.2) (0, e30)) fun oo254 => (match oo254 with
| .inl (e261, e262) =>
(grd (((e262.Number == 2) && ((e262.Accounts.length : Int) == 5))) (idxO e262.Accounts 0)).bind fun x369 =>
(grd ((((e262.Number == 2) && ((e262.Accounts.length : Int) == 5)) && (decide (x369 = (⟨#[101]⟩ : Txt))))) (l_law9_awake)).bind fun x371 =>
some ((((e262.Number == 2) && ((e262.Accounts.length : Int) == 5)) && (decide (x369 = (⟨#[101]⟩ : Txt)))) && x371)
| .inr r259 => some r259))
theorem c_law9_BankOrder {a0 : List Int} {r : Bool} (hF : l_law9_BankOrder a0 = some r) : APure Try.prog 5 [.sl (a0.map intR)] (bA r) := fun bs => by
  unfold l_law9_BankOrder at hF
  refine ACalls.wk ?_
  refine ACalls.in_ Try.func5 Try.ntmps5 (h := ?_)
  (repeat refine gc (h := ?_))
  refine AW.region ?_
  (repeat refine gk (h := ?_))
  replace hF := bnd hF
  obtain ⟨x1, hc2, hF⟩ := hF
  (repeat refine gc (h := ?_))
  refine AW.region ?_
  (repeat refine gk (h := ?_))
  refine AL.call (c_bank_New hc2) (h := ?_)
  (repeat refine gk (h := ?_))
  intro g3
  (repeat refine gk (h := ?_))
  (repeat refine gc (h := ?_))
  refine AW.region ?_
  (repeat refine gk (h := ?_))
  obtain ⟨oo22, hL23, hO24⟩ := bnd hF
  (repeat refine gc (h := ?_))
  refine AW.join2_0 (fun (e29 : Int) (e30 : SBook) => [(0, .sl (a0.map intR)), (2, bA false), (3, .ptr g3 0), (4, iA e29)]) (fun (e29 : Int) (e30 : SBook) => (g3, .cells [iA e30.Number, iA e30.Time, .sl (e30.Accounts.map strR), .sl (e30.Funds.map rFund), .sl (e30.Escrows.map rEscrow)]) :: bs) (fun (e29 : Int) (e30 : SBook) => oo22 = (e29, e30)) ?_ (fun e29 e30 hs374 => ?_)
  · (repeat refine gc (h := ?_))
    refine AW.block ?_
    refine AW.loopF2_0 hL23 (fun (s20 : Int) (s21 : SBook) => [(0, .sl (a0.map intR)), (2, bA false), (3, .ptr g3 0), (4, iA s20)]) (fun (s20 : Int) (s21 : SBook) => (g3, .cells [iA s21.Number, iA s21.Time, .sl (s21.Accounts.map strR), .sl (s21.Funds.map rFund), .sl (s21.Escrows.map rEscrow)]) :: bs) (fun (s20 : Int) (s21 : SBook) => True)  trivial (by repeat (first | exact Sub.nil | refine Sub.cons (k := ?_))) rfl (fun s20 s21 v25 hp26 hF => ?_)
    replace hF : l_law9_BankOrder_b0 s20 s21 = some v25 := hF
    unfold l_law9_BankOrder_b0 at hF
    (repeat refine gc (h := ?_))
    (repeat refine gc (h := ?_))
    refine AW.region ?_
    (repeat refine gk (h := ?_))
    (repeat refine gc (h := ?_))
    refine AW.cond (b := (decide (s20 < 5))) rfl (fun hc32 => ?_) (fun hc32 => ?_)
    · replace hF := cnd_t hc32 hF
      have hc32p := of_decide_eq_true hc32
      (repeat refine gc (h := ?_))
      (repeat refine gc (h := ?_))
      refine AW.block ?_
      replace hF := ens hF
      obtain ⟨he33, hF⟩ := hF
      replace hF := ens hF
      obtain ⟨he34, hF⟩ := hF
      replace hF := bnd hF
      obtain ⟨x35, hc36, hF⟩ := hF
      (repeat refine gc (h := ?_))
      (repeat refine goG (h := ?_))
      try (first | refine ADl.f (hq := fun _ => OpQ.part_str rfl (by first | exact Wk.refl _ | exact Wk.nil | exact Wk.clip _ | exact Wk.tip _ _ _ | exact Wk.opt _ _ (by first | assumption | rfl) | exact Wk.gr _ _ | exact Wk.nil_gr | exact Wk.trans (Wk.opt _ _ (by first | assumption | rfl)) (by first | exact Wk.gr _ _ | exact Wk.nil | exact Wk.clip _ | exact Wk.tip _ _ _) | exact Wk.aggs (by repeat (first | exact Wks.nil | refine Wks.cons (by first | exact Wk.refl _ | exact Wk.nil | exact Wk.clip _ | exact Wk.tip _ _ _ | exact Wk.gr _ _ | exact Wk.nil_gr) ?_)) rfl) (by first | exact Bnd.none _ | exact Bnd.some (by first | exact Wk.refl _ | exact Wk.nil | exact Wk.clip _ | exact Wk.tip _ _ _ | exact Wk.opt _ _ (by first | assumption | rfl) | exact Wk.gr _ _ | exact Wk.nil_gr | exact Wk.trans (Wk.opt _ _ (by first | assumption | rfl)) (by first | exact Wk.gr _ _ | exact Wk.nil | exact Wk.clip _ | exact Wk.tip _ _ _) | exact Wk.aggs (by repeat (first | exact Wks.nil | refine Wks.cons (by first | exact Wk.refl _ | exact Wk.nil | exact Wk.clip _ | exact Wk.tip _ _ _ | exact Wk.gr _ _ | exact Wk.nil_gr) ?_)) rfl) (by omega) (by first | ((simp only [Nat.zero_add, Nat.add_zero, Nat.reduceAdd, Nat.reduceMul, Int.toNat_natCast]) <;> rfl) | rfl)) (by first | exact Bnd.none _ | exact Bnd.some (by first | exact Wk.refl _ | exact Wk.nil | exact Wk.clip _ | exact Wk.tip _ _ _ | exact Wk.opt _ _ (by first | assumption | rfl) | exact Wk.gr _ _ | exact Wk.nil_gr | exact Wk.trans (Wk.opt _ _ (by first | assumption | rfl)) (by first | exact Wk.gr _ _ | exact Wk.nil | exact Wk.clip _ | exact Wk.tip _ _ _) | exact Wk.aggs (by repeat (first | exact Wks.nil | refine Wks.cons (by first | exact Wk.refl _ | exact Wk.nil | exact Wk.clip _ | exact Wk.tip _ _ _ | exact Wk.gr _ _ | exact Wk.nil_gr) ?_)) rfl) (by omega) (by first | ((simp only [Nat.zero_add, Nat.add_zero, Nat.reduceAdd, Nat.reduceMul, Int.toNat_natCast]) <;> rfl) | rfl)) (by have := he34; omega) (by have := he34; omega)) (h := ?_) | refine ADl.b (hq := OpQ.part_str rfl (by first | exact Wk.refl _ | exact Wk.nil | exact Wk.clip _ | exact Wk.tip _ _ _ | exact Wk.opt _ _ (by first | assumption | rfl) | exact Wk.gr _ _ | exact Wk.nil_gr | exact Wk.trans (Wk.opt _ _ (by first | assumption | rfl)) (by first | exact Wk.gr _ _ | exact Wk.nil | exact Wk.clip _ | exact Wk.tip _ _ _) | exact Wk.aggs (by repeat (first | exact Wks.nil | refine Wks.cons (by first | exact Wk.refl _ | exact Wk.nil | exact Wk.clip _ | exact Wk.tip _ _ _ | exact Wk.gr _ _ | exact Wk.nil_gr) ?_)) rfl) (by first | exact Bnd.none _ | exact Bnd.some (by first | exact Wk.refl _ | exact Wk.nil | exact Wk.clip _ | exact Wk.tip _ _ _ | exact Wk.opt _ _ (by first | assumption | rfl) | exact Wk.gr _ _ | exact Wk.nil_gr | exact Wk.trans (Wk.opt _ _ (by first | assumption | rfl)) (by first | exact Wk.gr _ _ | exact Wk.nil | exact Wk.clip _ | exact Wk.tip _ _ _) | exact Wk.aggs (by repeat (first | exact Wks.nil | refine Wks.cons (by first | exact Wk.refl _ | exact Wk.nil | exact Wk.clip _ | exact Wk.tip _ _ _ | exact Wk.gr _ _ | exact Wk.nil_gr) ?_)) rfl) (by omega) (by first | ((simp only [Nat.zero_add, Nat.add_zero, Nat.reduceAdd, Nat.reduceMul, Int.toNat_natCast]) <;> rfl) | rfl)) (by first | exact Bnd.none _ | exact Bnd.some (by first | exact Wk.refl _ | exact Wk.nil | exact Wk.clip _ | exact Wk.tip _ _ _ | exact Wk.opt _ _ (by first | assumption | rfl) | exact Wk.gr _ _ | exact Wk.nil_gr | exact Wk.trans (Wk.opt _ _ (by first | assumption | rfl)) (by first | exact Wk.gr _ _ | exact Wk.nil | exact Wk.clip _ | exact Wk.tip _ _ _) | exact Wk.aggs (by repeat (first | exact Wks.nil | refine Wks.cons (by first | exact Wk.refl _ | exact Wk.nil | exact Wk.clip _ | exact Wk.tip _ _ _ | exact Wk.gr _ _ | exact Wk.nil_gr) ?_)) rfl) (by omega) (by first | ((simp only [Nat.zero_add, Nat.add_zero, Nat.reduceAdd, Nat.reduceMul, Int.toNat_natCast]) <;> rfl) | rfl)) (by have := he34; omega) (by have := he34; omega)) (h := ?_))
      (repeat refine goG (h := ?_))
      refine ADl.call (c_bank_Open hc36) (h := ?_)
      (repeat refine goG (h := ?_))
      replace hF := ens hF
      obtain ⟨he37, hF⟩ := hF
      (repeat refine gc (h := ?_))
      refine AW.region ?_
      (repeat refine gk (h := ?_))
      (repeat refine gc (h := ?_))
      exact lpQ2_0.n (s20 + 1) x35.1 (some_inj hF) trivial (by repeat (first | exact Sub.nil | refine Sub.cons (k := ?_))) (by repeat (first | exact List.Sublist.refl _ | apply List.Sublist.cons | apply Sl.gB))
    · replace hF := cnd_f hc32 hF
      have hc32p := of_decide_eq_false hc32
      (repeat refine gc (h := ?_))
      obtain rfl := some_inj hF
      (repeat refine gc (h := ?_))
      refine lpQ2_0.e _ rfl (fun ho28 => ?_)
      (repeat refine gc (h := ?_))
      exact jnQ2_0.n s20 s21 ho28 (by repeat (first | exact Sub.nil | refine Sub.cons (k := ?_))) (by repeat (first | exact List.Sublist.refl _ | apply List.Sublist.cons | apply Sl.gB))
  · obtain rfl := hs374.symm
    replace hF := hO24
    try dsimp only at hF
    (repeat refine gc (h := ?_))
    (repeat refine gc (h := ?_))
    refine AW.region ?_
    (repeat refine gk (h := ?_))
    obtain ⟨oo254, hL255, hO256⟩ := bnd hF
    (repeat refine gc (h := ?_))
    refine AW.join2_0 (fun (e261 : Int) (e262 : SBook) => [(0, .sl (a0.map intR)), (2, bA false), (3, .ptr g3 0), (4, iA e29), (5, iA e261)]) (fun (e261 : Int) (e262 : SBook) => (g3, .cells [iA e262.Number, iA e262.Time, .sl (e262.Accounts.map strR), .sl (e262.Funds.map rFund), .sl (e262.Escrows.map rEscrow)]) :: bs) (fun (e261 : Int) (e262 : SBook) => oo254 = .inl (e261, e262)) ?_ (fun e261 e262 hs373 => ?_)
    · (repeat refine gc (h := ?_))
      refine AW.block ?_
      refine AW.loopF2_0 hL255 (fun (s252 : Int) (s253 : SBook) => [(0, .sl (a0.map intR)), (2, bA false), (3, .ptr g3 0), (4, iA e29), (5, iA s252)]) (fun (s252 : Int) (s253 : SBook) => (g3, .cells [iA s253.Number, iA s253.Time, .sl (s253.Accounts.map strR), .sl (s253.Funds.map rFund), .sl (s253.Escrows.map rEscrow)]) :: bs) (fun (s252 : Int) (s253 : SBook) => True)  trivial (by repeat (first | exact Sub.nil | refine Sub.cons (k := ?_))) rfl (fun s252 s253 v257 hp258 hF => ?_)
      replace hF : l_law9_BankOrder_b1 a0 s252 s253 = some v257 := hF
      unfold l_law9_BankOrder_b1 at hF
      (repeat refine gc (h := ?_))
      (repeat refine gc (h := ?_))
      refine AW.region ?_
      (repeat refine gk (h := ?_))
      (repeat refine gc (h := ?_))
      refine AW.cond (b := ((decide (s252 < (a0.length : Int))) && (decide (s252 < 60)))) rfl (fun hc264 => ?_) (fun hc264 => ?_)
      · replace hF := cnd_t hc264 hF
        (repeat refine gc (h := ?_))
        (repeat refine gc (h := ?_))
        refine AW.block ?_
        replace hF := idx_b hF
        obtain ⟨x265, h266, h267, hF⟩ := hF
        replace hF := bnd hF
        obtain ⟨x268, hc269, hF⟩ := hF
        (repeat refine gc (h := ?_))
        refine AW.region ?_
        (repeat refine gk (h := ?_))
        refine AL.call (c_law0_Place hc269) (h := ?_)
        (repeat refine gk (h := ?_))
        replace hF := ens hF
        obtain ⟨he270, hF⟩ := hF
        replace hF := ens hF
        obtain ⟨he271, hF⟩ := hF
        replace hF := ens hF
        obtain ⟨he272, hF⟩ := hF
        replace hF := ens hF
        obtain ⟨he273, hF⟩ := hF
        replace hF := ens hF
        obtain ⟨he274, hF⟩ := hF
        replace hF := ens hF
        obtain ⟨he275, hF⟩ := hF
        replace hF := ens hF
        obtain ⟨he276, hF⟩ := hF
        replace hF := ens hF
        obtain ⟨he277, hF⟩ := hF
        replace hF := ens hF
        obtain ⟨he278, hF⟩ := hF
        replace hF := ens hF
        obtain ⟨he279, hF⟩ := hF
        replace hF := ens hF
        obtain ⟨he280, hF⟩ := hF
        replace hF := ens hF
        obtain ⟨he281, hF⟩ := hF
        replace hF := ens hF
        obtain ⟨he282, hF⟩ := hF
        (repeat refine gc (h := ?_))
        (repeat refine goG (h := ?_))
        try (first | refine ADl.f (hq := fun _ => OpQ.part_str rfl (by first | exact Wk.refl _ | exact Wk.nil | exact Wk.clip _ | exact Wk.tip _ _ _ | exact Wk.opt _ _ (by first | assumption | rfl) | exact Wk.gr _ _ | exact Wk.nil_gr | exact Wk.trans (Wk.opt _ _ (by first | assumption | rfl)) (by first | exact Wk.gr _ _ | exact Wk.nil | exact Wk.clip _ | exact Wk.tip _ _ _) | exact Wk.aggs (by repeat (first | exact Wks.nil | refine Wks.cons (by first | exact Wk.refl _ | exact Wk.nil | exact Wk.clip _ | exact Wk.tip _ _ _ | exact Wk.gr _ _ | exact Wk.nil_gr) ?_)) rfl) (by first | exact Bnd.none _ | exact Bnd.some (by first | exact Wk.refl _ | exact Wk.nil | exact Wk.clip _ | exact Wk.tip _ _ _ | exact Wk.opt _ _ (by first | assumption | rfl) | exact Wk.gr _ _ | exact Wk.nil_gr | exact Wk.trans (Wk.opt _ _ (by first | assumption | rfl)) (by first | exact Wk.gr _ _ | exact Wk.nil | exact Wk.clip _ | exact Wk.tip _ _ _) | exact Wk.aggs (by repeat (first | exact Wks.nil | refine Wks.cons (by first | exact Wk.refl _ | exact Wk.nil | exact Wk.clip _ | exact Wk.tip _ _ _ | exact Wk.gr _ _ | exact Wk.nil_gr) ?_)) rfl) (by omega) (by first | ((simp only [Nat.zero_add, Nat.add_zero, Nat.reduceAdd, Nat.reduceMul, Int.toNat_natCast]) <;> rfl) | rfl)) (by first | exact Bnd.none _ | exact Bnd.some (by first | exact Wk.refl _ | exact Wk.nil | exact Wk.clip _ | exact Wk.tip _ _ _ | exact Wk.opt _ _ (by first | assumption | rfl) | exact Wk.gr _ _ | exact Wk.nil_gr | exact Wk.trans (Wk.opt _ _ (by first | assumption | rfl)) (by first | exact Wk.gr _ _ | exact Wk.nil | exact Wk.clip _ | exact Wk.tip _ _ _) | exact Wk.aggs (by repeat (first | exact Wks.nil | refine Wks.cons (by first | exact Wk.refl _ | exact Wk.nil | exact Wk.clip _ | exact Wk.tip _ _ _ | exact Wk.gr _ _ | exact Wk.nil_gr) ?_)) rfl) (by omega) (by first | ((simp only [Nat.zero_add, Nat.add_zero, Nat.reduceAdd, Nat.reduceMul, Int.toNat_natCast]) <;> rfl) | rfl)) (by have := he273; omega) (by have := he273; omega)) (h := ?_) | refine ADl.b (hq := OpQ.part_str rfl (by first | exact Wk.refl _ | exact Wk.nil | exact Wk.clip _ | exact Wk.tip _ _ _ | exact Wk.opt _ _ (by first | assumption | rfl) | exact Wk.gr _ _ | exact Wk.nil_gr | exact Wk.trans (Wk.opt _ _ (by first | assumption | rfl)) (by first | exact Wk.gr _ _ | exact Wk.nil | exact Wk.clip _ | exact Wk.tip _ _ _) | exact Wk.aggs (by repeat (first | exact Wks.nil | refine Wks.cons (by first | exact Wk.refl _ | exact Wk.nil | exact Wk.clip _ | exact Wk.tip _ _ _ | exact Wk.gr _ _ | exact Wk.nil_gr) ?_)) rfl) (by first | exact Bnd.none _ | exact Bnd.some (by first | exact Wk.refl _ | exact Wk.nil | exact Wk.clip _ | exact Wk.tip _ _ _ | exact Wk.opt _ _ (by first | assumption | rfl) | exact Wk.gr _ _ | exact Wk.nil_gr | exact Wk.trans (Wk.opt _ _ (by first | assumption | rfl)) (by first | exact Wk.gr _ _ | exact Wk.nil | exact Wk.clip _ | exact Wk.tip _ _ _) | exact Wk.aggs (by repeat (first | exact Wks.nil | refine Wks.cons (by first | exact Wk.refl _ | exact Wk.nil | exact Wk.clip _ | exact Wk.tip _ _ _ | exact Wk.gr _ _ | exact Wk.nil_gr) ?_)) rfl) (by omega) (by first | ((simp only [Nat.zero_add, Nat.add_zero, Nat.reduceAdd, Nat.reduceMul, Int.toNat_natCast]) <;> rfl) | rfl)) (by first | exact Bnd.none _ | exact Bnd.some (by first | exact Wk.refl _ | exact Wk.nil | exact Wk.clip _ | exact Wk.tip _ _ _ | exact Wk.opt _ _ (by first | assumption | rfl) | exact Wk.gr _ _ | exact Wk.nil_gr | exact Wk.trans (Wk.opt _ _ (by first | assumption | rfl)) (by first | exact Wk.gr _ _ | exact Wk.nil | exact Wk.clip _ | exact Wk.tip _ _ _) | exact Wk.aggs (by repeat (first | exact Wks.nil | refine Wks.cons (by first | exact Wk.refl _ | exact Wk.nil | exact Wk.clip _ | exact Wk.tip _ _ _ | exact Wk.gr _ _ | exact Wk.nil_gr) ?_)) rfl) (by omega) (by first | ((simp only [Nat.zero_add, Nat.add_zero, Nat.reduceAdd, Nat.reduceMul, Int.toNat_natCast]) <;> rfl) | rfl)) (by have := he273; omega) (by have := he273; omega)) (h := ?_))
        (repeat refine goG (h := ?_))
        try (first | refine ADl.f (hq := fun _ => OpQ.part_str rfl (by first | exact Wk.refl _ | exact Wk.nil | exact Wk.clip _ | exact Wk.tip _ _ _ | exact Wk.opt _ _ (by first | assumption | rfl) | exact Wk.gr _ _ | exact Wk.nil_gr | exact Wk.trans (Wk.opt _ _ (by first | assumption | rfl)) (by first | exact Wk.gr _ _ | exact Wk.nil | exact Wk.clip _ | exact Wk.tip _ _ _) | exact Wk.aggs (by repeat (first | exact Wks.nil | refine Wks.cons (by first | exact Wk.refl _ | exact Wk.nil | exact Wk.clip _ | exact Wk.tip _ _ _ | exact Wk.gr _ _ | exact Wk.nil_gr) ?_)) rfl) (by first | exact Bnd.none _ | exact Bnd.some (by first | exact Wk.refl _ | exact Wk.nil | exact Wk.clip _ | exact Wk.tip _ _ _ | exact Wk.opt _ _ (by first | assumption | rfl) | exact Wk.gr _ _ | exact Wk.nil_gr | exact Wk.trans (Wk.opt _ _ (by first | assumption | rfl)) (by first | exact Wk.gr _ _ | exact Wk.nil | exact Wk.clip _ | exact Wk.tip _ _ _) | exact Wk.aggs (by repeat (first | exact Wks.nil | refine Wks.cons (by first | exact Wk.refl _ | exact Wk.nil | exact Wk.clip _ | exact Wk.tip _ _ _ | exact Wk.gr _ _ | exact Wk.nil_gr) ?_)) rfl) (by omega) (by first | ((simp only [Nat.zero_add, Nat.add_zero, Nat.reduceAdd, Nat.reduceMul, Int.toNat_natCast]) <;> rfl) | rfl)) (by first | exact Bnd.none _ | exact Bnd.some (by first | exact Wk.refl _ | exact Wk.nil | exact Wk.clip _ | exact Wk.tip _ _ _ | exact Wk.opt _ _ (by first | assumption | rfl) | exact Wk.gr _ _ | exact Wk.nil_gr | exact Wk.trans (Wk.opt _ _ (by first | assumption | rfl)) (by first | exact Wk.gr _ _ | exact Wk.nil | exact Wk.clip _ | exact Wk.tip _ _ _) | exact Wk.aggs (by repeat (first | exact Wks.nil | refine Wks.cons (by first | exact Wk.refl _ | exact Wk.nil | exact Wk.clip _ | exact Wk.tip _ _ _ | exact Wk.gr _ _ | exact Wk.nil_gr) ?_)) rfl) (by omega) (by first | ((simp only [Nat.zero_add, Nat.add_zero, Nat.reduceAdd, Nat.reduceMul, Int.toNat_natCast]) <;> rfl) | rfl)) (by have := he279; omega) (by have := he279; omega)) (h := ?_) | refine ADl.b (hq := OpQ.part_str rfl (by first | exact Wk.refl _ | exact Wk.nil | exact Wk.clip _ | exact Wk.tip _ _ _ | exact Wk.opt _ _ (by first | assumption | rfl) | exact Wk.gr _ _ | exact Wk.nil_gr | exact Wk.trans (Wk.opt _ _ (by first | assumption | rfl)) (by first | exact Wk.gr _ _ | exact Wk.nil | exact Wk.clip _ | exact Wk.tip _ _ _) | exact Wk.aggs (by repeat (first | exact Wks.nil | refine Wks.cons (by first | exact Wk.refl _ | exact Wk.nil | exact Wk.clip _ | exact Wk.tip _ _ _ | exact Wk.gr _ _ | exact Wk.nil_gr) ?_)) rfl) (by first | exact Bnd.none _ | exact Bnd.some (by first | exact Wk.refl _ | exact Wk.nil | exact Wk.clip _ | exact Wk.tip _ _ _ | exact Wk.opt _ _ (by first | assumption | rfl) | exact Wk.gr _ _ | exact Wk.nil_gr | exact Wk.trans (Wk.opt _ _ (by first | assumption | rfl)) (by first | exact Wk.gr _ _ | exact Wk.nil | exact Wk.clip _ | exact Wk.tip _ _ _) | exact Wk.aggs (by repeat (first | exact Wks.nil | refine Wks.cons (by first | exact Wk.refl _ | exact Wk.nil | exact Wk.clip _ | exact Wk.tip _ _ _ | exact Wk.gr _ _ | exact Wk.nil_gr) ?_)) rfl) (by omega) (by first | ((simp only [Nat.zero_add, Nat.add_zero, Nat.reduceAdd, Nat.reduceMul, Int.toNat_natCast]) <;> rfl) | rfl)) (by first | exact Bnd.none _ | exact Bnd.some (by first | exact Wk.refl _ | exact Wk.nil | exact Wk.clip _ | exact Wk.tip _ _ _ | exact Wk.opt _ _ (by first | assumption | rfl) | exact Wk.gr _ _ | exact Wk.nil_gr | exact Wk.trans (Wk.opt _ _ (by first | assumption | rfl)) (by first | exact Wk.gr _ _ | exact Wk.nil | exact Wk.clip _ | exact Wk.tip _ _ _) | exact Wk.aggs (by repeat (first | exact Wks.nil | refine Wks.cons (by first | exact Wk.refl _ | exact Wk.nil | exact Wk.clip _ | exact Wk.tip _ _ _ | exact Wk.gr _ _ | exact Wk.nil_gr) ?_)) rfl) (by omega) (by first | ((simp only [Nat.zero_add, Nat.add_zero, Nat.reduceAdd, Nat.reduceMul, Int.toNat_natCast]) <;> rfl) | rfl)) (by have := he279; omega) (by have := he279; omega)) (h := ?_))
        (repeat refine goG (h := ?_))
        replace hF := bnd hF
        obtain ⟨x283, hc284, hF⟩ := hF
        (repeat refine gc (h := ?_))
        refine AW.region ?_
        (repeat refine gk (h := ?_))
        refine AL.call (c_bank_Balance hc284) (h := ?_)
        (repeat refine gk (h := ?_))
        replace hF := ens hF
        obtain ⟨he285, hF⟩ := hF
        replace hF := ens hF
        obtain ⟨he286, hF⟩ := hF
        (repeat refine gc (h := ?_))
        refine AW.region ?_
        (repeat refine gk (h := ?_))
        obtain ⟨j301, hF, hO302⟩ := bnd hF
        (repeat refine gc (h := ?_))
        refine AW.join2_0 (fun (s299 : Int) (s300 : SBook) => [(0, .sl (a0.map intR)), (2, bA false), (3, .ptr g3 0), (4, iA e29), (5, iA s252), (6, iA x268), (7, sA ((⟨#[97, 98, 99, 100, 101]⟩ : Txt).extract (x268.tmod 5).toNat (((x268.tmod 5) + 1).toNat))), (8, sA ((⟨#[103, 115, 120]⟩ : Txt).extract ((IntKind.wrap .i64 (x268.tdiv 5)).tmod 3).toNat ((((IntKind.wrap .i64 (x268.tdiv 5)).tmod 3) + 1).toNat))), (9, iA (1 + ((IntKind.wrap .i64 (x268.tdiv 15)).tmod 9))), (10, iA s299)]) (fun (s299 : Int) (s300 : SBook) => (g3, .cells [iA s300.Number, iA s300.Time, .sl (s300.Accounts.map strR), .sl (s300.Funds.map rFund), .sl (s300.Escrows.map rEscrow)]) :: bs) (fun (s299 : Int) (s300 : SBook) => j301 = (s299, s300)) ?_ (fun s299 s300 hs303 => ?_)
        · (repeat refine gc (h := ?_))
          refine AW.cond (b := (((IntKind.wrap .i64 (x268.tdiv 200)).tmod 3) == 0)) rfl (fun hc305 => ?_) (fun hc305 => ?_)
          · replace hF := cnd_t hc305 hF
            (repeat refine gc (h := ?_))
            replace hF := bnd hF
            obtain ⟨x306, hc307, hF⟩ := hF
            (repeat refine gc (h := ?_))
            refine AW.region ?_
            (repeat refine gk (h := ?_))
            refine AL.call (c_bank_Take hc307) (h := ?_)
            (repeat refine gk (h := ?_))
            (repeat refine gc (h := ?_))
            exact jnQ2_0.n x283.1 x306.1 (some_inj hF) (by repeat (first | exact Sub.nil | refine Sub.cons (k := ?_))) (by repeat (first | exact List.Sublist.refl _ | apply List.Sublist.cons | apply Sl.gB))
          · replace hF := cnd_f hc305 hF
            (repeat refine gc (h := ?_))
            replace hF := bnd hF
            obtain ⟨x308, hc309, hF⟩ := hF
            (repeat refine gc (h := ?_))
            refine AW.region ?_
            (repeat refine gk (h := ?_))
            refine AL.call (c_bank_Give hc309) (h := ?_)
            (repeat refine gk (h := ?_))
            replace hF := ens hF
            obtain ⟨he310, hF⟩ := hF
            (repeat refine gc (h := ?_))
            refine AW.region ?_
            (repeat refine gk (h := ?_))
            (repeat refine gc (h := ?_))
            exact jnQ2_0.n (x283.1 + (1 + ((IntKind.wrap .i64 (x268.tdiv 15)).tmod 9))) x308.1 (some_inj hF) (by repeat (first | exact Sub.nil | refine Sub.cons (k := ?_))) (by repeat (first | exact List.Sublist.refl _ | apply List.Sublist.cons | apply Sl.gB))
        · obtain rfl := hs303.symm
          replace hF := hO302
          try dsimp only at hF
          (repeat refine gc (h := ?_))
          replace hF := bnd hF
          obtain ⟨x311, hc312, hF⟩ := hF
          (repeat refine gc (h := ?_))
          refine AW.region ?_
          (repeat refine gk (h := ?_))
          refine AL.call (c_bank_Balance hc312) (h := ?_)
          (repeat refine gk (h := ?_))
          (repeat refine gc (h := ?_))
          refine AW.region ?_
          (repeat refine gk (h := ?_))
          try refine AL.gd (hq := fun hgb => OpQ.quo_any rfl (by first | exact Wk.refl _ | exact Wk.nil | exact Wk.clip _ | exact Wk.tip _ _ _ | exact Wk.opt _ _ (by first | assumption | rfl) | exact Wk.gr _ _ | exact Wk.nil_gr | exact Wk.trans (Wk.opt _ _ (by first | assumption | rfl)) (by first | exact Wk.gr _ _ | exact Wk.nil | exact Wk.clip _ | exact Wk.tip _ _ _) | exact Wk.aggs (by repeat (first | exact Wks.nil | refine Wks.cons (by first | exact Wk.refl _ | exact Wk.nil | exact Wk.clip _ | exact Wk.tip _ _ _ | exact Wk.gr _ _ | exact Wk.nil_gr) ?_)) rfl) (by first | exact Wk.refl _ | exact Wk.nil | exact Wk.clip _ | exact Wk.tip _ _ _ | exact Wk.opt _ _ (by first | assumption | rfl) | exact Wk.gr _ _ | exact Wk.nil_gr | exact Wk.trans (Wk.opt _ _ (by first | assumption | rfl)) (by first | exact Wk.gr _ _ | exact Wk.nil | exact Wk.clip _ | exact Wk.tip _ _ _) | exact Wk.aggs (by repeat (first | exact Wks.nil | refine Wks.cons (by first | exact Wk.refl _ | exact Wk.nil | exact Wk.clip _ | exact Wk.tip _ _ _ | exact Wk.gr _ _ | exact Wk.nil_gr) ?_)) rfl) (by decide)) (h := ?_)
          (repeat refine gk (h := ?_))
          try refine AL.gd (hq := fun hgb => OpQ.rem_any rfl (by first | exact Wk.refl _ | exact Wk.nil | exact Wk.clip _ | exact Wk.tip _ _ _ | exact Wk.opt _ _ (by first | assumption | rfl) | exact Wk.gr _ _ | exact Wk.nil_gr | exact Wk.trans (Wk.opt _ _ (by first | assumption | rfl)) (by first | exact Wk.gr _ _ | exact Wk.nil | exact Wk.clip _ | exact Wk.tip _ _ _) | exact Wk.aggs (by repeat (first | exact Wks.nil | refine Wks.cons (by first | exact Wk.refl _ | exact Wk.nil | exact Wk.clip _ | exact Wk.tip _ _ _ | exact Wk.gr _ _ | exact Wk.nil_gr) ?_)) rfl) (by first | exact Wk.refl _ | exact Wk.nil | exact Wk.clip _ | exact Wk.tip _ _ _ | exact Wk.opt _ _ (by first | assumption | rfl) | exact Wk.gr _ _ | exact Wk.nil_gr | exact Wk.trans (Wk.opt _ _ (by first | assumption | rfl)) (by first | exact Wk.gr _ _ | exact Wk.nil | exact Wk.clip _ | exact Wk.tip _ _ _) | exact Wk.aggs (by repeat (first | exact Wks.nil | refine Wks.cons (by first | exact Wk.refl _ | exact Wk.nil | exact Wk.clip _ | exact Wk.tip _ _ _ | exact Wk.gr _ _ | exact Wk.nil_gr) ?_)) rfl) (by decide)) (h := ?_)
          (repeat refine gk (h := ?_))
          try refine AL.gd (hq := fun hgb => OpQ.quo_any rfl (by first | exact Wk.refl _ | exact Wk.nil | exact Wk.clip _ | exact Wk.tip _ _ _ | exact Wk.opt _ _ (by first | assumption | rfl) | exact Wk.gr _ _ | exact Wk.nil_gr | exact Wk.trans (Wk.opt _ _ (by first | assumption | rfl)) (by first | exact Wk.gr _ _ | exact Wk.nil | exact Wk.clip _ | exact Wk.tip _ _ _) | exact Wk.aggs (by repeat (first | exact Wks.nil | refine Wks.cons (by first | exact Wk.refl _ | exact Wk.nil | exact Wk.clip _ | exact Wk.tip _ _ _ | exact Wk.gr _ _ | exact Wk.nil_gr) ?_)) rfl) (by first | exact Wk.refl _ | exact Wk.nil | exact Wk.clip _ | exact Wk.tip _ _ _ | exact Wk.opt _ _ (by first | assumption | rfl) | exact Wk.gr _ _ | exact Wk.nil_gr | exact Wk.trans (Wk.opt _ _ (by first | assumption | rfl)) (by first | exact Wk.gr _ _ | exact Wk.nil | exact Wk.clip _ | exact Wk.tip _ _ _) | exact Wk.aggs (by repeat (first | exact Wks.nil | refine Wks.cons (by first | exact Wk.refl _ | exact Wk.nil | exact Wk.clip _ | exact Wk.tip _ _ _ | exact Wk.gr _ _ | exact Wk.nil_gr) ?_)) rfl) (by decide)) (h := ?_)
          (repeat refine gk (h := ?_))
          try refine AL.gd (hq := fun hgb => OpQ.rem_any rfl (by first | exact Wk.refl _ | exact Wk.nil | exact Wk.clip _ | exact Wk.tip _ _ _ | exact Wk.opt _ _ (by first | assumption | rfl) | exact Wk.gr _ _ | exact Wk.nil_gr | exact Wk.trans (Wk.opt _ _ (by first | assumption | rfl)) (by first | exact Wk.gr _ _ | exact Wk.nil | exact Wk.clip _ | exact Wk.tip _ _ _) | exact Wk.aggs (by repeat (first | exact Wks.nil | refine Wks.cons (by first | exact Wk.refl _ | exact Wk.nil | exact Wk.clip _ | exact Wk.tip _ _ _ | exact Wk.gr _ _ | exact Wk.nil_gr) ?_)) rfl) (by first | exact Wk.refl _ | exact Wk.nil | exact Wk.clip _ | exact Wk.tip _ _ _ | exact Wk.opt _ _ (by first | assumption | rfl) | exact Wk.gr _ _ | exact Wk.nil_gr | exact Wk.trans (Wk.opt _ _ (by first | assumption | rfl)) (by first | exact Wk.gr _ _ | exact Wk.nil | exact Wk.clip _ | exact Wk.tip _ _ _) | exact Wk.aggs (by repeat (first | exact Wks.nil | refine Wks.cons (by first | exact Wk.refl _ | exact Wk.nil | exact Wk.clip _ | exact Wk.tip _ _ _ | exact Wk.gr _ _ | exact Wk.nil_gr) ?_)) rfl) (by decide)) (h := ?_)
          (repeat refine gk (h := ?_))
          try refine AL.gd (hq := fun hgb => OpQ.pick_and rfl (by first | exact Wk.refl _ | exact Wk.nil | exact Wk.clip _ | exact Wk.tip _ _ _ | exact Wk.opt _ _ (by first | assumption | rfl) | exact Wk.gr _ _ | exact Wk.nil_gr | exact Wk.trans (Wk.opt _ _ (by first | assumption | rfl)) (by first | exact Wk.gr _ _ | exact Wk.nil | exact Wk.clip _ | exact Wk.tip _ _ _) | exact Wk.aggs (by repeat (first | exact Wks.nil | refine Wks.cons (by first | exact Wk.refl _ | exact Wk.nil | exact Wk.clip _ | exact Wk.tip _ _ _ | exact Wk.gr _ _ | exact Wk.nil_gr) ?_)) rfl) rfl (fun hb => gba hgb hb)) (h := ?_)
          (repeat refine gk (h := ?_))
          (repeat refine gc (h := ?_))
          refine AW.cond (b := (((x311.1 != s299) && (((IntKind.wrap .i64 (x268.tdiv 200)).tmod 3) != 0)) || ((((IntKind.wrap .i64 (x268.tdiv 200)).tmod 3) == 0) && (x311.1 != 0)))) rfl (fun hc314 => ?_) (fun hc314 => ?_)
          · replace hF := cnd_t hc314 hF
            (repeat refine gc (h := ?_))
            (repeat refine gc (h := ?_))
            refine AW.region ?_
            (repeat refine gk (h := ?_))
            obtain rfl := some_inj hF
            (repeat refine gc (h := ?_))
            refine lpQ2_0.r _ rfl (fun ho260 => ?_)
            subst ho260
            replace hF := hO256
            (repeat refine gc (h := ?_))
            obtain rfl := some_inj hF
            (repeat refine gc (h := ?_))
            exact EndQ.fin (bs' := bs) (h := ⟨(by first | exact Wk.refl _ | exact (by first | exact Wk.refl _ | exact Wk.nil | exact Wk.clip _ | exact Wk.tip _ _ _ | exact Wk.opt _ _ (by first | assumption | rfl) | exact Wk.gr _ _ | exact Wk.nil_gr | exact Wk.trans (Wk.opt _ _ (by first | assumption | rfl)) (by first | exact Wk.gr _ _ | exact Wk.nil | exact Wk.clip _ | exact Wk.tip _ _ _) | exact Wk.aggs (by repeat (first | exact Wks.nil | refine Wks.cons (by first | exact Wk.refl _ | exact Wk.nil | exact Wk.clip _ | exact Wk.tip _ _ _ | exact Wk.gr _ _ | exact Wk.nil_gr) ?_)) rfl) | exact Wk.tups (by repeat (first | exact Wks.nil | refine Wks.cons (by first | exact Wk.refl _ | exact Wk.nil | exact Wk.clip _ | exact Wk.tip _ _ _ | exact Wk.opt _ _ (by first | assumption | rfl) | exact Wk.gr _ _ | exact Wk.nil_gr | exact Wk.trans (Wk.opt _ _ (by first | assumption | rfl)) (by first | exact Wk.gr _ _ | exact Wk.nil | exact Wk.clip _ | exact Wk.tip _ _ _) | exact Wk.aggs (by repeat (first | exact Wks.nil | refine Wks.cons (by first | exact Wk.refl _ | exact Wk.nil | exact Wk.clip _ | exact Wk.tip _ _ _ | exact Wk.gr _ _ | exact Wk.nil_gr) ?_)) rfl) ?_))), rfl⟩) (hs := (by repeat (first | exact List.Sublist.refl _ | apply List.Sublist.cons | apply Sl.gB)))
          · replace hF := cnd_f hc314 hF
            (repeat refine gc (h := ?_))
            (repeat refine gc (h := ?_))
            refine AW.region ?_
            (repeat refine gk (h := ?_))
            obtain ⟨oo345, hL346, hO347⟩ := bnd hF
            (repeat refine gc (h := ?_))
            refine AW.join1_0 (fun (e352 : Int) => [(0, .sl (a0.map intR)), (2, bA false), (3, .ptr g3 0), (4, iA e29), (5, iA s252), (6, iA x268), (7, sA ((⟨#[97, 98, 99, 100, 101]⟩ : Txt).extract (x268.tmod 5).toNat (((x268.tmod 5) + 1).toNat))), (8, sA ((⟨#[103, 115, 120]⟩ : Txt).extract ((IntKind.wrap .i64 (x268.tdiv 5)).tmod 3).toNat ((((IntKind.wrap .i64 (x268.tdiv 5)).tmod 3) + 1).toNat))), (9, iA (1 + ((IntKind.wrap .i64 (x268.tdiv 15)).tmod 9))), (10, iA s299), (12, iA x311.1), (14, iA e352)]) (fun (e352 : Int) => (g3, .cells [iA s300.Number, iA s300.Time, .sl (s300.Accounts.map strR), .sl (s300.Funds.map rFund), .sl (s300.Escrows.map rEscrow)]) :: bs) (fun (e352 : Int) => oo345 = .inl e352) ?_ (fun e352 hs368 => ?_)
            · (repeat refine gc (h := ?_))
              refine AW.block ?_
              refine AW.loopF1_0 hL346 (fun (s344 : Int) => [(0, .sl (a0.map intR)), (2, bA false), (3, .ptr g3 0), (4, iA e29), (5, iA s252), (6, iA x268), (7, sA ((⟨#[97, 98, 99, 100, 101]⟩ : Txt).extract (x268.tmod 5).toNat (((x268.tmod 5) + 1).toNat))), (8, sA ((⟨#[103, 115, 120]⟩ : Txt).extract ((IntKind.wrap .i64 (x268.tdiv 5)).tmod 3).toNat ((((IntKind.wrap .i64 (x268.tdiv 5)).tmod 3) + 1).toNat))), (9, iA (1 + ((IntKind.wrap .i64 (x268.tdiv 15)).tmod 9))), (10, iA s299), (12, iA x311.1), (14, iA s344)]) (fun (s344 : Int) => (g3, .cells [iA s300.Number, iA s300.Time, .sl (s300.Accounts.map strR), .sl (s300.Funds.map rFund), .sl (s300.Escrows.map rEscrow)]) :: bs) (fun (s344 : Int) => True)  trivial (by repeat (first | exact Sub.nil | refine Sub.cons (k := ?_))) rfl (fun s344 v348 hp349 hF => ?_)
              replace hF : l_law9_BankOrder_b2 s300 s344 = some v348 := hF
              unfold l_law9_BankOrder_b2 at hF
              (repeat refine gc (h := ?_))
              (repeat refine gc (h := ?_))
              refine AW.region ?_
              (repeat refine gk (h := ?_))
              (repeat refine gc (h := ?_))
              refine AW.cond (b := (decide (s344 < (s300.Funds.length : Int)))) rfl (fun hc354 => ?_) (fun hc354 => ?_)
              · replace hF := cnd_t hc354 hF
                have hc354p := of_decide_eq_true hc354
                (repeat refine gc (h := ?_))
                (repeat refine gc (h := ?_))
                refine AW.block ?_
                replace hF := idx_b hF
                obtain ⟨x355, h356, h357, hF⟩ := hF
                (repeat refine gc (h := ?_))
                refine AW.region ?_
                (repeat refine gk (h := ?_))
                intro g358
                (repeat refine gk (h := ?_))
                replace hF := grd_b hF
                obtain ⟨x359, h360, hF⟩ := hF
                replace hF := grd_b hF
                obtain ⟨x361, h362, hF⟩ := hF
                replace hF := grd_b hF
                obtain ⟨x363, h364, hF⟩ := hF
                (repeat refine gc (h := ?_))
                refine ADl.in_ (h := ?_)
                show ADl _ _ _ _ _ _ (_ :: _) _ _ _
                ((repeat (show ADl _ _ _ _ _ _ (_ :: _) _ _ _; refine goG (h := ?_))); try show ADl _ _ _ _ _ _ (_ :: _) _ _ _)
                try (first | refine ADl.fg (hq := fun _ hgb => OpQ.arith rfl (by first | exact Wk.refl _ | exact Wk.nil | exact Wk.clip _ | exact Wk.tip _ _ _ | exact Wk.opt _ _ (by first | assumption | rfl) | exact Wk.gr _ _ | exact Wk.nil_gr | exact Wk.trans (Wk.opt _ _ (by first | assumption | rfl)) (by first | exact Wk.gr _ _ | exact Wk.nil | exact Wk.clip _ | exact Wk.tip _ _ _) | exact Wk.aggs (by repeat (first | exact Wks.nil | refine Wks.cons (by first | exact Wk.refl _ | exact Wk.nil | exact Wk.clip _ | exact Wk.tip _ _ _ | exact Wk.gr _ _ | exact Wk.nil_gr) ?_)) rfl) (by first | exact Wk.refl _ | exact Wk.nil | exact Wk.clip _ | exact Wk.tip _ _ _ | exact Wk.opt _ _ (by first | assumption | rfl) | exact Wk.gr _ _ | exact Wk.nil_gr | exact Wk.trans (Wk.opt _ _ (by first | assumption | rfl)) (by first | exact Wk.gr _ _ | exact Wk.nil | exact Wk.clip _ | exact Wk.tip _ _ _) | exact Wk.aggs (by repeat (first | exact Wks.nil | refine Wks.cons (by first | exact Wk.refl _ | exact Wk.nil | exact Wk.clip _ | exact Wk.tip _ _ _ | exact Wk.gr _ _ | exact Wk.nil_gr) ?_)) rfl) rfl) (h := ?_) | refine ADl.bg (hq := fun hgb => OpQ.arith rfl (by first | exact Wk.refl _ | exact Wk.nil | exact Wk.clip _ | exact Wk.tip _ _ _ | exact Wk.opt _ _ (by first | assumption | rfl) | exact Wk.gr _ _ | exact Wk.nil_gr | exact Wk.trans (Wk.opt _ _ (by first | assumption | rfl)) (by first | exact Wk.gr _ _ | exact Wk.nil | exact Wk.clip _ | exact Wk.tip _ _ _) | exact Wk.aggs (by repeat (first | exact Wks.nil | refine Wks.cons (by first | exact Wk.refl _ | exact Wk.nil | exact Wk.clip _ | exact Wk.tip _ _ _ | exact Wk.gr _ _ | exact Wk.nil_gr) ?_)) rfl) (by first | exact Wk.refl _ | exact Wk.nil | exact Wk.clip _ | exact Wk.tip _ _ _ | exact Wk.opt _ _ (by first | assumption | rfl) | exact Wk.gr _ _ | exact Wk.nil_gr | exact Wk.trans (Wk.opt _ _ (by first | assumption | rfl)) (by first | exact Wk.gr _ _ | exact Wk.nil | exact Wk.clip _ | exact Wk.tip _ _ _) | exact Wk.aggs (by repeat (first | exact Wks.nil | refine Wks.cons (by first | exact Wk.refl _ | exact Wk.nil | exact Wk.clip _ | exact Wk.tip _ _ _ | exact Wk.gr _ _ | exact Wk.nil_gr) ?_)) rfl) rfl) (h := ?_))
                ((repeat (show ADl _ _ _ _ _ _ (_ :: _) _ _ _; refine goG (h := ?_))); try show ADl _ _ _ _ _ _ (_ :: _) _ _ _)
                try (first | refine ADl.fg (hq := fun _ hgb => OpQ.idx_map rfl (by first | exact Wk.refl _ | exact Wk.nil | exact Wk.clip _ | exact Wk.tip _ _ _ | exact Wk.opt _ _ (by first | assumption | rfl) | exact Wk.gr _ _ | exact Wk.nil_gr | exact Wk.trans (Wk.opt _ _ (by first | assumption | rfl)) (by first | exact Wk.gr _ _ | exact Wk.nil | exact Wk.clip _ | exact Wk.tip _ _ _) | exact Wk.aggs (by repeat (first | exact Wks.nil | refine Wks.cons (by first | exact Wk.refl _ | exact Wk.nil | exact Wk.clip _ | exact Wk.tip _ _ _ | exact Wk.gr _ _ | exact Wk.nil_gr) ?_)) rfl) (by first | exact Wk.refl _ | exact Wk.nil | exact Wk.clip _ | exact Wk.tip _ _ _ | exact Wk.opt _ _ (by first | assumption | rfl) | exact Wk.gr _ _ | exact Wk.nil_gr | exact Wk.trans (Wk.opt _ _ (by first | assumption | rfl)) (by first | exact Wk.gr _ _ | exact Wk.nil | exact Wk.clip _ | exact Wk.tip _ _ _) | exact Wk.aggs (by repeat (first | exact Wks.nil | refine Wks.cons (by first | exact Wk.refl _ | exact Wk.nil | exact Wk.clip _ | exact Wk.tip _ _ _ | exact Wk.gr _ _ | exact Wk.nil_gr) ?_)) rfl) (idxO_some (h360 hgb)).1 (idxO_some (h360 hgb)).2 (by rfl)) (h := ?_) | refine ADl.bg (hq := fun hgb => OpQ.idx_map rfl (by first | exact Wk.refl _ | exact Wk.nil | exact Wk.clip _ | exact Wk.tip _ _ _ | exact Wk.opt _ _ (by first | assumption | rfl) | exact Wk.gr _ _ | exact Wk.nil_gr | exact Wk.trans (Wk.opt _ _ (by first | assumption | rfl)) (by first | exact Wk.gr _ _ | exact Wk.nil | exact Wk.clip _ | exact Wk.tip _ _ _) | exact Wk.aggs (by repeat (first | exact Wks.nil | refine Wks.cons (by first | exact Wk.refl _ | exact Wk.nil | exact Wk.clip _ | exact Wk.tip _ _ _ | exact Wk.gr _ _ | exact Wk.nil_gr) ?_)) rfl) (by first | exact Wk.refl _ | exact Wk.nil | exact Wk.clip _ | exact Wk.tip _ _ _ | exact Wk.opt _ _ (by first | assumption | rfl) | exact Wk.gr _ _ | exact Wk.nil_gr | exact Wk.trans (Wk.opt _ _ (by first | assumption | rfl)) (by first | exact Wk.gr _ _ | exact Wk.nil | exact Wk.clip _ | exact Wk.tip _ _ _) | exact Wk.aggs (by repeat (first | exact Wks.nil | refine Wks.cons (by first | exact Wk.refl _ | exact Wk.nil | exact Wk.clip _ | exact Wk.tip _ _ _ | exact Wk.gr _ _ | exact Wk.nil_gr) ?_)) rfl) (idxO_some (h360 hgb)).1 (idxO_some (h360 hgb)).2 (by rfl)) (h := ?_))
                ((repeat (show ADl _ _ _ _ _ _ (_ :: _) _ _ _; refine goG (h := ?_))); try show ADl _ _ _ _ _ _ (_ :: _) _ _ _)
                try (first | refine ADl.fg (hq := fun _ hgb => OpQ.arith rfl (by first | exact Wk.refl _ | exact Wk.nil | exact Wk.clip _ | exact Wk.tip _ _ _ | exact Wk.opt _ _ (by first | assumption | rfl) | exact Wk.gr _ _ | exact Wk.nil_gr | exact Wk.trans (Wk.opt _ _ (by first | assumption | rfl)) (by first | exact Wk.gr _ _ | exact Wk.nil | exact Wk.clip _ | exact Wk.tip _ _ _) | exact Wk.aggs (by repeat (first | exact Wks.nil | refine Wks.cons (by first | exact Wk.refl _ | exact Wk.nil | exact Wk.clip _ | exact Wk.tip _ _ _ | exact Wk.gr _ _ | exact Wk.nil_gr) ?_)) rfl) (by first | exact Wk.refl _ | exact Wk.nil | exact Wk.clip _ | exact Wk.tip _ _ _ | exact Wk.opt _ _ (by first | assumption | rfl) | exact Wk.gr _ _ | exact Wk.nil_gr | exact Wk.trans (Wk.opt _ _ (by first | assumption | rfl)) (by first | exact Wk.gr _ _ | exact Wk.nil | exact Wk.clip _ | exact Wk.tip _ _ _) | exact Wk.aggs (by repeat (first | exact Wks.nil | refine Wks.cons (by first | exact Wk.refl _ | exact Wk.nil | exact Wk.clip _ | exact Wk.tip _ _ _ | exact Wk.gr _ _ | exact Wk.nil_gr) ?_)) rfl) rfl) (h := ?_) | refine ADl.bg (hq := fun hgb => OpQ.arith rfl (by first | exact Wk.refl _ | exact Wk.nil | exact Wk.clip _ | exact Wk.tip _ _ _ | exact Wk.opt _ _ (by first | assumption | rfl) | exact Wk.gr _ _ | exact Wk.nil_gr | exact Wk.trans (Wk.opt _ _ (by first | assumption | rfl)) (by first | exact Wk.gr _ _ | exact Wk.nil | exact Wk.clip _ | exact Wk.tip _ _ _) | exact Wk.aggs (by repeat (first | exact Wks.nil | refine Wks.cons (by first | exact Wk.refl _ | exact Wk.nil | exact Wk.clip _ | exact Wk.tip _ _ _ | exact Wk.gr _ _ | exact Wk.nil_gr) ?_)) rfl) (by first | exact Wk.refl _ | exact Wk.nil | exact Wk.clip _ | exact Wk.tip _ _ _ | exact Wk.opt _ _ (by first | assumption | rfl) | exact Wk.gr _ _ | exact Wk.nil_gr | exact Wk.trans (Wk.opt _ _ (by first | assumption | rfl)) (by first | exact Wk.gr _ _ | exact Wk.nil | exact Wk.clip _ | exact Wk.tip _ _ _) | exact Wk.aggs (by repeat (first | exact Wks.nil | refine Wks.cons (by first | exact Wk.refl _ | exact Wk.nil | exact Wk.clip _ | exact Wk.tip _ _ _ | exact Wk.gr _ _ | exact Wk.nil_gr) ?_)) rfl) rfl) (h := ?_))
                ((repeat (show ADl _ _ _ _ _ _ (_ :: _) _ _ _; refine goG (h := ?_))); try show ADl _ _ _ _ _ _ (_ :: _) _ _ _)
                try (first | refine ADl.fg (hq := fun _ hgb => OpQ.idx_map rfl (by first | exact Wk.refl _ | exact Wk.nil | exact Wk.clip _ | exact Wk.tip _ _ _ | exact Wk.opt _ _ (by first | assumption | rfl) | exact Wk.gr _ _ | exact Wk.nil_gr | exact Wk.trans (Wk.opt _ _ (by first | assumption | rfl)) (by first | exact Wk.gr _ _ | exact Wk.nil | exact Wk.clip _ | exact Wk.tip _ _ _) | exact Wk.aggs (by repeat (first | exact Wks.nil | refine Wks.cons (by first | exact Wk.refl _ | exact Wk.nil | exact Wk.clip _ | exact Wk.tip _ _ _ | exact Wk.gr _ _ | exact Wk.nil_gr) ?_)) rfl) (by first | exact Wk.refl _ | exact Wk.nil | exact Wk.clip _ | exact Wk.tip _ _ _ | exact Wk.opt _ _ (by first | assumption | rfl) | exact Wk.gr _ _ | exact Wk.nil_gr | exact Wk.trans (Wk.opt _ _ (by first | assumption | rfl)) (by first | exact Wk.gr _ _ | exact Wk.nil | exact Wk.clip _ | exact Wk.tip _ _ _) | exact Wk.aggs (by repeat (first | exact Wks.nil | refine Wks.cons (by first | exact Wk.refl _ | exact Wk.nil | exact Wk.clip _ | exact Wk.tip _ _ _ | exact Wk.gr _ _ | exact Wk.nil_gr) ?_)) rfl) (idxO_some (h362 hgb)).1 (idxO_some (h362 hgb)).2 (by rfl)) (h := ?_) | refine ADl.bg (hq := fun hgb => OpQ.idx_map rfl (by first | exact Wk.refl _ | exact Wk.nil | exact Wk.clip _ | exact Wk.tip _ _ _ | exact Wk.opt _ _ (by first | assumption | rfl) | exact Wk.gr _ _ | exact Wk.nil_gr | exact Wk.trans (Wk.opt _ _ (by first | assumption | rfl)) (by first | exact Wk.gr _ _ | exact Wk.nil | exact Wk.clip _ | exact Wk.tip _ _ _) | exact Wk.aggs (by repeat (first | exact Wks.nil | refine Wks.cons (by first | exact Wk.refl _ | exact Wk.nil | exact Wk.clip _ | exact Wk.tip _ _ _ | exact Wk.gr _ _ | exact Wk.nil_gr) ?_)) rfl) (by first | exact Wk.refl _ | exact Wk.nil | exact Wk.clip _ | exact Wk.tip _ _ _ | exact Wk.opt _ _ (by first | assumption | rfl) | exact Wk.gr _ _ | exact Wk.nil_gr | exact Wk.trans (Wk.opt _ _ (by first | assumption | rfl)) (by first | exact Wk.gr _ _ | exact Wk.nil | exact Wk.clip _ | exact Wk.tip _ _ _) | exact Wk.aggs (by repeat (first | exact Wks.nil | refine Wks.cons (by first | exact Wk.refl _ | exact Wk.nil | exact Wk.clip _ | exact Wk.tip _ _ _ | exact Wk.gr _ _ | exact Wk.nil_gr) ?_)) rfl) (idxO_some (h362 hgb)).1 (idxO_some (h362 hgb)).2 (by rfl)) (h := ?_))
                ((repeat (show ADl _ _ _ _ _ _ (_ :: _) _ _ _; refine goG (h := ?_))); try show ADl _ _ _ _ _ _ (_ :: _) _ _ _)
                try (first | refine ADl.fg (hq := fun _ hgb => OpQ.arith rfl (by first | exact Wk.refl _ | exact Wk.nil | exact Wk.clip _ | exact Wk.tip _ _ _ | exact Wk.opt _ _ (by first | assumption | rfl) | exact Wk.gr _ _ | exact Wk.nil_gr | exact Wk.trans (Wk.opt _ _ (by first | assumption | rfl)) (by first | exact Wk.gr _ _ | exact Wk.nil | exact Wk.clip _ | exact Wk.tip _ _ _) | exact Wk.aggs (by repeat (first | exact Wks.nil | refine Wks.cons (by first | exact Wk.refl _ | exact Wk.nil | exact Wk.clip _ | exact Wk.tip _ _ _ | exact Wk.gr _ _ | exact Wk.nil_gr) ?_)) rfl) (by first | exact Wk.refl _ | exact Wk.nil | exact Wk.clip _ | exact Wk.tip _ _ _ | exact Wk.opt _ _ (by first | assumption | rfl) | exact Wk.gr _ _ | exact Wk.nil_gr | exact Wk.trans (Wk.opt _ _ (by first | assumption | rfl)) (by first | exact Wk.gr _ _ | exact Wk.nil | exact Wk.clip _ | exact Wk.tip _ _ _) | exact Wk.aggs (by repeat (first | exact Wks.nil | refine Wks.cons (by first | exact Wk.refl _ | exact Wk.nil | exact Wk.clip _ | exact Wk.tip _ _ _ | exact Wk.gr _ _ | exact Wk.nil_gr) ?_)) rfl) rfl) (h := ?_) | refine ADl.bg (hq := fun hgb => OpQ.arith rfl (by first | exact Wk.refl _ | exact Wk.nil | exact Wk.clip _ | exact Wk.tip _ _ _ | exact Wk.opt _ _ (by first | assumption | rfl) | exact Wk.gr _ _ | exact Wk.nil_gr | exact Wk.trans (Wk.opt _ _ (by first | assumption | rfl)) (by first | exact Wk.gr _ _ | exact Wk.nil | exact Wk.clip _ | exact Wk.tip _ _ _) | exact Wk.aggs (by repeat (first | exact Wks.nil | refine Wks.cons (by first | exact Wk.refl _ | exact Wk.nil | exact Wk.clip _ | exact Wk.tip _ _ _ | exact Wk.gr _ _ | exact Wk.nil_gr) ?_)) rfl) (by first | exact Wk.refl _ | exact Wk.nil | exact Wk.clip _ | exact Wk.tip _ _ _ | exact Wk.opt _ _ (by first | assumption | rfl) | exact Wk.gr _ _ | exact Wk.nil_gr | exact Wk.trans (Wk.opt _ _ (by first | assumption | rfl)) (by first | exact Wk.gr _ _ | exact Wk.nil | exact Wk.clip _ | exact Wk.tip _ _ _) | exact Wk.aggs (by repeat (first | exact Wks.nil | refine Wks.cons (by first | exact Wk.refl _ | exact Wk.nil | exact Wk.clip _ | exact Wk.tip _ _ _ | exact Wk.gr _ _ | exact Wk.nil_gr) ?_)) rfl) rfl) (h := ?_))
                ((repeat (show ADl _ _ _ _ _ _ (_ :: _) _ _ _; refine goG (h := ?_))); try show ADl _ _ _ _ _ _ (_ :: _) _ _ _)
                try (first | refine ADl.fg (hq := fun _ hgb => OpQ.idx_map rfl (by first | exact Wk.refl _ | exact Wk.nil | exact Wk.clip _ | exact Wk.tip _ _ _ | exact Wk.opt _ _ (by first | assumption | rfl) | exact Wk.gr _ _ | exact Wk.nil_gr | exact Wk.trans (Wk.opt _ _ (by first | assumption | rfl)) (by first | exact Wk.gr _ _ | exact Wk.nil | exact Wk.clip _ | exact Wk.tip _ _ _) | exact Wk.aggs (by repeat (first | exact Wks.nil | refine Wks.cons (by first | exact Wk.refl _ | exact Wk.nil | exact Wk.clip _ | exact Wk.tip _ _ _ | exact Wk.gr _ _ | exact Wk.nil_gr) ?_)) rfl) (by first | exact Wk.refl _ | exact Wk.nil | exact Wk.clip _ | exact Wk.tip _ _ _ | exact Wk.opt _ _ (by first | assumption | rfl) | exact Wk.gr _ _ | exact Wk.nil_gr | exact Wk.trans (Wk.opt _ _ (by first | assumption | rfl)) (by first | exact Wk.gr _ _ | exact Wk.nil | exact Wk.clip _ | exact Wk.tip _ _ _) | exact Wk.aggs (by repeat (first | exact Wks.nil | refine Wks.cons (by first | exact Wk.refl _ | exact Wk.nil | exact Wk.clip _ | exact Wk.tip _ _ _ | exact Wk.gr _ _ | exact Wk.nil_gr) ?_)) rfl) (idxO_some (h364 hgb)).1 (idxO_some (h364 hgb)).2 (by rfl)) (h := ?_) | refine ADl.bg (hq := fun hgb => OpQ.idx_map rfl (by first | exact Wk.refl _ | exact Wk.nil | exact Wk.clip _ | exact Wk.tip _ _ _ | exact Wk.opt _ _ (by first | assumption | rfl) | exact Wk.gr _ _ | exact Wk.nil_gr | exact Wk.trans (Wk.opt _ _ (by first | assumption | rfl)) (by first | exact Wk.gr _ _ | exact Wk.nil | exact Wk.clip _ | exact Wk.tip _ _ _) | exact Wk.aggs (by repeat (first | exact Wks.nil | refine Wks.cons (by first | exact Wk.refl _ | exact Wk.nil | exact Wk.clip _ | exact Wk.tip _ _ _ | exact Wk.gr _ _ | exact Wk.nil_gr) ?_)) rfl) (by first | exact Wk.refl _ | exact Wk.nil | exact Wk.clip _ | exact Wk.tip _ _ _ | exact Wk.opt _ _ (by first | assumption | rfl) | exact Wk.gr _ _ | exact Wk.nil_gr | exact Wk.trans (Wk.opt _ _ (by first | assumption | rfl)) (by first | exact Wk.gr _ _ | exact Wk.nil | exact Wk.clip _ | exact Wk.tip _ _ _) | exact Wk.aggs (by repeat (first | exact Wks.nil | refine Wks.cons (by first | exact Wk.refl _ | exact Wk.nil | exact Wk.clip _ | exact Wk.tip _ _ _ | exact Wk.gr _ _ | exact Wk.nil_gr) ?_)) rfl) (idxO_some (h364 hgb)).1 (idxO_some (h364 hgb)).2 (by rfl)) (h := ?_))
                ((repeat (show ADl _ _ _ _ _ _ (_ :: _) _ _ _; refine goG (h := ?_))); try show ADl _ _ _ _ _ _ (_ :: _) _ _ _)
                try (first | refine ADl.fg (hq := fun _ hgb => OpQ.pick_and rfl (by first | exact Wk.refl _ | exact Wk.nil | exact Wk.clip _ | exact Wk.tip _ _ _ | exact Wk.opt _ _ (by first | assumption | rfl) | exact Wk.gr _ _ | exact Wk.nil_gr | exact Wk.trans (Wk.opt _ _ (by first | assumption | rfl)) (by first | exact Wk.gr _ _ | exact Wk.nil | exact Wk.clip _ | exact Wk.tip _ _ _) | exact Wk.aggs (by repeat (first | exact Wks.nil | refine Wks.cons (by first | exact Wk.refl _ | exact Wk.nil | exact Wk.clip _ | exact Wk.tip _ _ _ | exact Wk.gr _ _ | exact Wk.nil_gr) ?_)) rfl) rfl (fun hb => gba hgb hb)) (h := ?_) | refine ADl.bg (hq := fun hgb => OpQ.pick_and rfl (by first | exact Wk.refl _ | exact Wk.nil | exact Wk.clip _ | exact Wk.tip _ _ _ | exact Wk.opt _ _ (by first | assumption | rfl) | exact Wk.gr _ _ | exact Wk.nil_gr | exact Wk.trans (Wk.opt _ _ (by first | assumption | rfl)) (by first | exact Wk.gr _ _ | exact Wk.nil | exact Wk.clip _ | exact Wk.tip _ _ _) | exact Wk.aggs (by repeat (first | exact Wks.nil | refine Wks.cons (by first | exact Wk.refl _ | exact Wk.nil | exact Wk.clip _ | exact Wk.tip _ _ _ | exact Wk.gr _ _ | exact Wk.nil_gr) ?_)) rfl) rfl (fun hb => gba hgb hb)) (h := ?_))
                ((repeat (show ADl _ _ _ _ _ _ (_ :: _) _ _ _; refine goG (h := ?_))); try show ADl _ _ _ _ _ _ (_ :: _) _ _ _)
                try (first | refine ADl.fg (hq := fun _ hgb => OpQ.pick_or rfl (by first | exact Wk.refl _ | exact Wk.nil | exact Wk.clip _ | exact Wk.tip _ _ _ | exact Wk.opt _ _ (by first | assumption | rfl) | exact Wk.gr _ _ | exact Wk.nil_gr | exact Wk.trans (Wk.opt _ _ (by first | assumption | rfl)) (by first | exact Wk.gr _ _ | exact Wk.nil | exact Wk.clip _ | exact Wk.tip _ _ _) | exact Wk.aggs (by repeat (first | exact Wks.nil | refine Wks.cons (by first | exact Wk.refl _ | exact Wk.nil | exact Wk.clip _ | exact Wk.tip _ _ _ | exact Wk.gr _ _ | exact Wk.nil_gr) ?_)) rfl) rfl (fun hb => gbo hgb hb)) (h := ?_) | refine ADl.bg (hq := fun hgb => OpQ.pick_or rfl (by first | exact Wk.refl _ | exact Wk.nil | exact Wk.clip _ | exact Wk.tip _ _ _ | exact Wk.opt _ _ (by first | assumption | rfl) | exact Wk.gr _ _ | exact Wk.nil_gr | exact Wk.trans (Wk.opt _ _ (by first | assumption | rfl)) (by first | exact Wk.gr _ _ | exact Wk.nil | exact Wk.clip _ | exact Wk.tip _ _ _) | exact Wk.aggs (by repeat (first | exact Wks.nil | refine Wks.cons (by first | exact Wk.refl _ | exact Wk.nil | exact Wk.clip _ | exact Wk.tip _ _ _ | exact Wk.gr _ _ | exact Wk.nil_gr) ?_)) rfl) rfl (fun hb => gbo hgb hb)) (h := ?_))
                ((repeat (show ADl _ _ _ _ _ _ (_ :: _) _ _ _; refine goG (h := ?_))); try show ADl _ _ _ _ _ _ (_ :: _) _ _ _)
                try (first | refine ADl.fg (hq := fun _ hgb => OpQ.pick_and rfl (by first | exact Wk.refl _ | exact Wk.nil | exact Wk.clip _ | exact Wk.tip _ _ _ | exact Wk.opt _ _ (by first | assumption | rfl) | exact Wk.gr _ _ | exact Wk.nil_gr | exact Wk.trans (Wk.opt _ _ (by first | assumption | rfl)) (by first | exact Wk.gr _ _ | exact Wk.nil | exact Wk.clip _ | exact Wk.tip _ _ _) | exact Wk.aggs (by repeat (first | exact Wks.nil | refine Wks.cons (by first | exact Wk.refl _ | exact Wk.nil | exact Wk.clip _ | exact Wk.tip _ _ _ | exact Wk.gr _ _ | exact Wk.nil_gr) ?_)) rfl) rfl (fun hb => gba hgb hb)) (h := ?_) | refine ADl.bg (hq := fun hgb => OpQ.pick_and rfl (by first | exact Wk.refl _ | exact Wk.nil | exact Wk.clip _ | exact Wk.tip _ _ _ | exact Wk.opt _ _ (by first | assumption | rfl) | exact Wk.gr _ _ | exact Wk.nil_gr | exact Wk.trans (Wk.opt _ _ (by first | assumption | rfl)) (by first | exact Wk.gr _ _ | exact Wk.nil | exact Wk.clip _ | exact Wk.tip _ _ _) | exact Wk.aggs (by repeat (first | exact Wks.nil | refine Wks.cons (by first | exact Wk.refl _ | exact Wk.nil | exact Wk.clip _ | exact Wk.tip _ _ _ | exact Wk.gr _ _ | exact Wk.nil_gr) ?_)) rfl) rfl (fun hb => gba hgb hb)) (h := ?_))
                ((repeat (show ADl _ _ _ _ _ _ (_ :: _) _ _ _; refine goG (h := ?_))); try show ADl _ _ _ _ _ _ (_ :: _) _ _ _)
                (repeat refine goG (h := ?_))
                (repeat refine gc (h := ?_))
                refine AW.cond (b := ((decide (x355.Amount < 1)) || ((decide (s344 > 0)) && ((!(Op.bytesLess x359.Account.toList x355.Account.toList || decide (x359.Account = x355.Account))) || ((decide (x361.Account = x355.Account)) && (!(Op.bytesLess x363.Asset.toList x355.Asset.toList))))))) rfl (fun hc365 => ?_) (fun hc365 => ?_)
                · replace hF := cnd_t hc365 hF
                  (repeat refine gc (h := ?_))
                  (repeat refine gc (h := ?_))
                  refine AW.region ?_
                  (repeat refine gk (h := ?_))
                  obtain rfl := some_inj hF
                  (repeat refine gc (h := ?_))
                  refine lpQ1_0.r _ rfl (fun ho351 => ?_)
                  subst ho351
                  replace hF := hO347
                  (repeat refine gc (h := ?_))
                  obtain rfl := some_inj hF
                  (repeat refine gc (h := ?_))
                  refine lpQ2_0.r _ rfl (fun ho260 => ?_)
                  subst ho260
                  replace hF := hO256
                  (repeat refine gc (h := ?_))
                  obtain rfl := some_inj hF
                  (repeat refine gc (h := ?_))
                  exact EndQ.fin (bs' := bs) (h := ⟨(by first | exact Wk.refl _ | exact (by first | exact Wk.refl _ | exact Wk.nil | exact Wk.clip _ | exact Wk.tip _ _ _ | exact Wk.opt _ _ (by first | assumption | rfl) | exact Wk.gr _ _ | exact Wk.nil_gr | exact Wk.trans (Wk.opt _ _ (by first | assumption | rfl)) (by first | exact Wk.gr _ _ | exact Wk.nil | exact Wk.clip _ | exact Wk.tip _ _ _) | exact Wk.aggs (by repeat (first | exact Wks.nil | refine Wks.cons (by first | exact Wk.refl _ | exact Wk.nil | exact Wk.clip _ | exact Wk.tip _ _ _ | exact Wk.gr _ _ | exact Wk.nil_gr) ?_)) rfl) | exact Wk.tups (by repeat (first | exact Wks.nil | refine Wks.cons (by first | exact Wk.refl _ | exact Wk.nil | exact Wk.clip _ | exact Wk.tip _ _ _ | exact Wk.opt _ _ (by first | assumption | rfl) | exact Wk.gr _ _ | exact Wk.nil_gr | exact Wk.trans (Wk.opt _ _ (by first | assumption | rfl)) (by first | exact Wk.gr _ _ | exact Wk.nil | exact Wk.clip _ | exact Wk.tip _ _ _) | exact Wk.aggs (by repeat (first | exact Wks.nil | refine Wks.cons (by first | exact Wk.refl _ | exact Wk.nil | exact Wk.clip _ | exact Wk.tip _ _ _ | exact Wk.gr _ _ | exact Wk.nil_gr) ?_)) rfl) ?_))), rfl⟩) (hs := (by repeat (first | exact List.Sublist.refl _ | apply List.Sublist.cons | apply Sl.gB)))
                · replace hF := cnd_f hc365 hF
                  (repeat refine gc (h := ?_))
                  replace hF := ens hF
                  obtain ⟨he366, hF⟩ := hF
                  (repeat refine gc (h := ?_))
                  refine AW.region ?_
                  (repeat refine gk (h := ?_))
                  (repeat refine gc (h := ?_))
                  exact lpQ1_0.n (s344 + 1) (some_inj hF) trivial (by repeat (first | exact Sub.nil | refine Sub.cons (k := ?_))) (by repeat (first | exact List.Sublist.refl _ | apply List.Sublist.cons | apply Sl.gB))
              · replace hF := cnd_f hc354 hF
                have hc354p := of_decide_eq_false hc354
                (repeat refine gc (h := ?_))
                obtain rfl := some_inj hF
                (repeat refine gc (h := ?_))
                refine lpQ1_0.e _ rfl (fun ho351 => ?_)
                (repeat refine gc (h := ?_))
                exact jnQ1_0.n s344 ho351 (by repeat (first | exact Sub.nil | refine Sub.cons (k := ?_))) (by repeat (first | exact List.Sublist.refl _ | apply List.Sublist.cons | apply Sl.gB))
            · obtain rfl := hs368.symm
              replace hF := hO347
              try dsimp only at hF
              (repeat refine gc (h := ?_))
              replace hF := ens hF
              obtain ⟨he367, hF⟩ := hF
              (repeat refine gc (h := ?_))
              refine AW.region ?_
              (repeat refine gk (h := ?_))
              (repeat refine gc (h := ?_))
              exact lpQ2_0.n (s252 + 1) s300 (some_inj hF) trivial (by repeat (first | exact Sub.nil | refine Sub.cons (k := ?_))) (by repeat (first | exact List.Sublist.refl _ | apply List.Sublist.cons | apply Sl.gB))
      · replace hF := cnd_f hc264 hF
        (repeat refine gc (h := ?_))
        obtain rfl := some_inj hF
        (repeat refine gc (h := ?_))
        refine lpQ2_0.e _ rfl (fun ho260 => ?_)
        (repeat refine gc (h := ?_))
        exact jnQ2_0.n s252 s253 ho260 (by repeat (first | exact Sub.nil | refine Sub.cons (k := ?_))) (by repeat (first | exact List.Sublist.refl _ | apply List.Sublist.cons | apply Sl.gB))
    · obtain rfl := hs373.symm
      replace hF := hO256
      try dsimp only at hF
      (repeat refine gc (h := ?_))
      replace hF := grd_b hF
      obtain ⟨x369, h370, hF⟩ := hF
      replace hF := grd_b hF
      obtain ⟨x371, hc372, hF⟩ := hF
      (repeat refine gc (h := ?_))
      refine AW.region ?_
      (repeat refine gk (h := ?_))
      try refine AL.gd (hq := fun hgb => OpQ.idx_map rfl (by first | exact Wk.refl _ | exact Wk.nil | exact Wk.clip _ | exact Wk.tip _ _ _ | exact Wk.opt _ _ (by first | assumption | rfl) | exact Wk.gr _ _ | exact Wk.nil_gr | exact Wk.trans (Wk.opt _ _ (by first | assumption | rfl)) (by first | exact Wk.gr _ _ | exact Wk.nil | exact Wk.clip _ | exact Wk.tip _ _ _) | exact Wk.aggs (by repeat (first | exact Wks.nil | refine Wks.cons (by first | exact Wk.refl _ | exact Wk.nil | exact Wk.clip _ | exact Wk.tip _ _ _ | exact Wk.gr _ _ | exact Wk.nil_gr) ?_)) rfl) (by first | exact Wk.refl _ | exact Wk.nil | exact Wk.clip _ | exact Wk.tip _ _ _ | exact Wk.opt _ _ (by first | assumption | rfl) | exact Wk.gr _ _ | exact Wk.nil_gr | exact Wk.trans (Wk.opt _ _ (by first | assumption | rfl)) (by first | exact Wk.gr _ _ | exact Wk.nil | exact Wk.clip _ | exact Wk.tip _ _ _) | exact Wk.aggs (by repeat (first | exact Wks.nil | refine Wks.cons (by first | exact Wk.refl _ | exact Wk.nil | exact Wk.clip _ | exact Wk.tip _ _ _ | exact Wk.gr _ _ | exact Wk.nil_gr) ?_)) rfl) (idxO_some (h370 hgb)).1 (idxO_some (h370 hgb)).2 (by rfl)) (h := ?_)
      (repeat refine gk (h := ?_))
      refine AL.gd (hq := fun hgb => OpQ.c (c_law9_awake (hc372 hgb))) (h := ?_)
      (repeat refine gk (h := ?_))
      obtain rfl := some_inj hF
      (repeat refine gc (h := ?_))
      exact EndQ.fin (bs' := bs) (h := ⟨(by first | exact Wk.refl _ | exact (by first | exact Wk.refl _ | exact Wk.nil | exact Wk.clip _ | exact Wk.tip _ _ _ | exact Wk.opt _ _ (by first | assumption | rfl) | exact Wk.gr _ _ | exact Wk.nil_gr | exact Wk.trans (Wk.opt _ _ (by first | assumption | rfl)) (by first | exact Wk.gr _ _ | exact Wk.nil | exact Wk.clip _ | exact Wk.tip _ _ _) | exact Wk.aggs (by repeat (first | exact Wks.nil | refine Wks.cons (by first | exact Wk.refl _ | exact Wk.nil | exact Wk.clip _ | exact Wk.tip _ _ _ | exact Wk.gr _ _ | exact Wk.nil_gr) ?_)) rfl) | exact Wk.tups (by repeat (first | exact Wks.nil | refine Wks.cons (by first | exact Wk.refl _ | exact Wk.nil | exact Wk.clip _ | exact Wk.tip _ _ _ | exact Wk.opt _ _ (by first | assumption | rfl) | exact Wk.gr _ _ | exact Wk.nil_gr | exact Wk.trans (Wk.opt _ _ (by first | assumption | rfl)) (by first | exact Wk.gr _ _ | exact Wk.nil | exact Wk.clip _ | exact Wk.tip _ _ _) | exact Wk.aggs (by repeat (first | exact Wks.nil | refine Wks.cons (by first | exact Wk.refl _ | exact Wk.nil | exact Wk.clip _ | exact Wk.tip _ _ _ | exact Wk.gr _ _ | exact Wk.nil_gr) ?_)) rfl) ?_))), rfl⟩) (hs := (by repeat (first | exact List.Sublist.refl _ | apply List.Sublist.cons | apply Sl.gB)))

end Go.Proofs.Ytnkkfmnpkgjabaa.X
