/- Lifted code. Printed by a program of this repo (lift.py). -/
import Derived.Test.YtnkkfmnpkgjabaaF5
namespace Go.Proofs.Ytnkkfmnpkgjabaa.X
open Go.RowKit
set_option linter.unusedVariables false
set_option linter.unusedSimpArgs false
set_option maxRecDepth 10000
set_option maxHeartbeats 4000000

noncomputable def l_law9_BankNumbers_b0 (a0 : List Int) (s104 : Int) (s105 : SBook) (s106 : SBook) : Option ((Int × SBook × SBook) ⊕ ((Int × SBook × SBook) ⊕ Bool)) :=
cond ((decide (s104 < (a0.length : Int))) && (decide (s104 < 100))) (
(idxO a0 s104).bind fun x119 =>
(l_law0_Place x119 1073741824).bind fun x122 =>
(ensure (0 < 10)).bind fun _ =>
(ensure (0 < 10)).bind fun _ =>
(ensure (0 < 16)).bind fun _ =>
(ensure (0 < 10)).bind fun _ =>
(ensure (0 < 16)).bind fun _ =>
(ensure (-9223372036854775808 ≤ ((IntKind.wrap .i64 (x122.tdiv 10)).tmod 16) + 1 ∧ ((IntKind.wrap .i64 (x122.tdiv 10)).tmod 16) + 1 ≤ 9223372036854775807)).bind fun _ =>
(ensure (0 ≤ ((IntKind.wrap .i64 (x122.tdiv 10)).tmod 16) ∧ ((IntKind.wrap .i64 (x122.tdiv 10)).tmod 16) ≤ (((IntKind.wrap .i64 (x122.tdiv 10)).tmod 16) + 1) ∧ (((IntKind.wrap .i64 (x122.tdiv 10)).tmod 16) + 1) ≤ ((⟨#[97, 98, 99, 100, 101, 102, 103, 104, 105, 106, 107, 108, 109, 110, 111, 112]⟩ : Txt).size : Int))).bind fun _ =>
(ensure (0 < 160)).bind fun _ =>
(ensure (0 < 4)).bind fun _ =>
(ensure (0 < 160)).bind fun _ =>
(ensure (0 < 4)).bind fun _ =>
(ensure (-9223372036854775808 ≤ ((IntKind.wrap .i64 (x122.tdiv 160)).tmod 4) + 1 ∧ ((IntKind.wrap .i64 (x122.tdiv 160)).tmod 4) + 1 ≤ 9223372036854775807)).bind fun _ =>
(ensure (0 ≤ ((IntKind.wrap .i64 (x122.tdiv 160)).tmod 4) ∧ ((IntKind.wrap .i64 (x122.tdiv 160)).tmod 4) ≤ (((IntKind.wrap .i64 (x122.tdiv 160)).tmod 4) + 1) ∧ (((IntKind.wrap .i64 (x122.tdiv 160)).tmod 4) + 1) ≤ ((⟨#[97, 98, 99, 100]⟩ : Txt).size : Int))).bind fun _ =>
(ensure (0 < 640)).bind fun _ =>
(ensure (0 < 6)).bind fun _ =>
(ensure (0 < 640)).bind fun _ =>
(ensure (0 < 6)).bind fun _ =>
(ensure (-9223372036854775808 ≤ ((IntKind.wrap .i64 (x122.tdiv 640)).tmod 6) + 1 ∧ ((IntKind.wrap .i64 (x122.tdiv 640)).tmod 6) + 1 ≤ 9223372036854775807)).bind fun _ =>
(ensure (0 ≤ ((IntKind.wrap .i64 (x122.tdiv 640)).tmod 6) ∧ ((IntKind.wrap .i64 (x122.tdiv 640)).tmod 6) ≤ (((IntKind.wrap .i64 (x122.tdiv 640)).tmod 6) + 1) ∧ (((IntKind.wrap .i64 (x122.tdiv 640)).tmod 6) + 1) ≤ ((⟨#[103, 115, 120, 121, 122, 119]⟩ : Txt).size : Int))).bind fun _ =>
(ensure (0 < 3840)).bind fun _ =>
(ensure (0 < 50)).bind fun _ =>
(ensure (0 < 10)).bind fun _ =>
(ensure (0 < 16)).bind fun _ =>
(grd ((decide (((IntKind.wrap .i64 (x122.tdiv 10)).tmod 16) > 3))) (ensure (0 < 10))).bind fun _ =>
Option.bind (α := Txt) (
cond ((decide (((IntKind.wrap .i64 (x122.tdiv 10)).tmod 16) > 3)) && (decide ((x122.tmod 10) > 1))) (
some (⟨#[97]⟩ : Txt)) (
some ((⟨#[97, 98, 99, 100, 101, 102, 103, 104, 105, 106, 107, 108, 109, 110, 111, 112]⟩ : Txt).extract ((IntKind.wrap .i64 (x122.tdiv 10)).tmod 16).toNat ((((IntKind.wrap .i64 (x122.tdiv 10)).tmod 16) + 1).toNat)))) fun j152 => (match j152 with
| s151 =>
(l_law9_step s106 s105 (Slaw09Op.mk (x122.tmod 10) s151 ((⟨#[97, 98, 99, 100]⟩ : Txt).extract ((IntKind.wrap .i64 (x122.tdiv 160)).tmod 4).toNat ((((IntKind.wrap .i64 (x122.tdiv 160)).tmod 4) + 1).toNat)) ((⟨#[103, 115, 120, 121, 122, 119]⟩ : Txt).extract ((IntKind.wrap .i64 (x122.tdiv 640)).tmod 6).toNat ((((IntKind.wrap .i64 (x122.tdiv 640)).tmod 6) + 1).toNat)) ((IntKind.wrap .i64 (x122.tdiv 3840)).tmod 50))).bind fun x157 =>
cond (!x157.2.2) (
some (.inr (.inr false))) (
(ensure (-9223372036854775808 ≤ s104 + 1 ∧ s104 + 1 ≤ 9223372036854775807)).bind fun _ =>
some (.inl ((s104 + 1), x157.2.1, x157.1))))) (
some (.inr (.inl (s104, s105, s106))))
noncomputable def l_law9_BankNumbers (a0 : List Int) : Option (Bool) :=
(l_bank_New 0).bind fun x1 =>
(l_ref9_New 0).bind fun x3 =>
Option.bind (loopF (τ := ((Int × SBook × SBook) ⊕ Bool)) (fun s : Int × SBook × SBook => l_law9_BankNumbers_b0 a0 s.1 s.2.1 s.2.2) (0, x3, x1)) fun oo107 => (match oo107 with
| .inl (e114, e115, e116) =>
(l_law9_awake).bind fun x164 =>
some x164
| .inr r112 => some r112)
theorem c_law9_BankNumbers {a0 : List Int} {r : Bool} (hF : l_law9_BankNumbers a0 = some r) : APure Try.prog 7 [.sl (a0.map intR)] (bA r) := fun bs => by
  unfold l_law9_BankNumbers at hF
  refine ACalls.wk ?_
  refine ACalls.in_ Try.func7 Try.ntmps7 (h := ?_)
  (repeat refine gc (h := ?_))
  refine AW.region ?_
  (repeat refine gl (h := ?_))
  obtain ⟨x1, hc2, hF⟩ := bnd hF
  obtain ⟨x3, hc4, hF⟩ := bnd hF
  (repeat refine gc (h := ?_))
  refine AW.region ?_
  (repeat refine gl (h := ?_))
  refine AL.call (c_bank_New hc2) (h := ?_)
  (repeat refine gl (h := ?_))
  refine AL.call (c_ref9_New hc4) (h := ?_)
  (repeat refine gl (h := ?_))
  intro g5
  (repeat refine gl (h := ?_))
  intro g6
  (repeat refine gl (h := ?_))
  (repeat refine gc (h := ?_))
  refine AW.region ?_
  (repeat refine gl (h := ?_))
  obtain ⟨oo107, hL108, hO109⟩ := bnd hF
  (repeat refine gc (h := ?_))
  refine AW.join3_0 (fun (e114 : Int) (e115 : SBook) (e116 : SBook) => [(0, .sl (a0.map intR)), (2, bA false), (3, .ptr g5 0), (4, .ptr g6 0), (5, iA e114)]) (fun (e114 : Int) (e115 : SBook) (e116 : SBook) => (g6, .cells [iA e115.Number, iA e115.Time, .sl (e115.Accounts.map strR), .sl (e115.Funds.map rFund), .sl (e115.Escrows.map rEscrow)]) :: (g5, .cells [iA e116.Number, iA e116.Time, .sl (e116.Accounts.map strR), .sl (e116.Funds.map rFund), .sl (e116.Escrows.map rEscrow)]) :: bs) (fun (e114 : Int) (e115 : SBook) (e116 : SBook) => oo107 = .inl (e114, e115, e116)) ?_ (fun e114 e115 e116 hs166 => ?_)
  · (repeat refine gc (h := ?_))
    refine AW.block ?_
    refine AW.loopF3_0 hL108 (fun (s104 : Int) (s105 : SBook) (s106 : SBook) => [(0, .sl (a0.map intR)), (2, bA false), (3, .ptr g5 0), (4, .ptr g6 0), (5, iA s104)]) (fun (s104 : Int) (s105 : SBook) (s106 : SBook) => (g6, .cells [iA s105.Number, iA s105.Time, .sl (s105.Accounts.map strR), .sl (s105.Funds.map rFund), .sl (s105.Escrows.map rEscrow)]) :: (g5, .cells [iA s106.Number, iA s106.Time, .sl (s106.Accounts.map strR), .sl (s106.Funds.map rFund), .sl (s106.Escrows.map rEscrow)]) :: bs) (fun (s104 : Int) (s105 : SBook) (s106 : SBook) => True)  trivial (by repeat (first | exact Sub.nil | refine Sub.cons (k := ?_))) rfl (fun s104 s105 s106 v110 hp111 hF => ?_)
    replace hF : l_law9_BankNumbers_b0 a0 s104 s105 s106 = some v110 := hF
    unfold l_law9_BankNumbers_b0 at hF
    (repeat refine gc (h := ?_))
    (repeat refine gc (h := ?_))
    refine AW.region ?_
    (repeat refine gl (h := ?_))
    (repeat refine gc (h := ?_))
    refine AW.cond (b := ((decide (s104 < (a0.length : Int))) && (decide (s104 < 100)))) rfl (fun hc118 => ?_) (fun hc118 => ?_)
    · replace hF := cnd_t hc118 hF
      (repeat refine gc (h := ?_))
      (repeat refine gc (h := ?_))
      refine AW.block ?_
      obtain ⟨x119, h120, h121, hF⟩ := idx_b hF
      obtain ⟨x122, hc123, hF⟩ := bnd hF
      (repeat refine gc (h := ?_))
      refine AW.region ?_
      (repeat refine gl (h := ?_))
      refine AL.call (c_law0_Place hc123) (h := ?_)
      (repeat refine gl (h := ?_))
      obtain ⟨he124, hF⟩ := ens hF
      obtain ⟨he125, hF⟩ := ens hF
      obtain ⟨he126, hF⟩ := ens hF
      obtain ⟨he127, hF⟩ := ens hF
      obtain ⟨he128, hF⟩ := ens hF
      obtain ⟨he129, hF⟩ := ens hF
      obtain ⟨he130, hF⟩ := ens hF
      obtain ⟨he131, hF⟩ := ens hF
      obtain ⟨he132, hF⟩ := ens hF
      obtain ⟨he133, hF⟩ := ens hF
      obtain ⟨he134, hF⟩ := ens hF
      obtain ⟨he135, hF⟩ := ens hF
      obtain ⟨he136, hF⟩ := ens hF
      obtain ⟨he137, hF⟩ := ens hF
      obtain ⟨he138, hF⟩ := ens hF
      obtain ⟨he139, hF⟩ := ens hF
      obtain ⟨he140, hF⟩ := ens hF
      obtain ⟨he141, hF⟩ := ens hF
      obtain ⟨he142, hF⟩ := ens hF
      obtain ⟨he143, hF⟩ := ens hF
      obtain ⟨he144, hF⟩ := ens hF
      (repeat refine gc (h := ?_))
      refine ADl.in_ (h := ?_)
      show ADl _ _ _ _ _ _ (_ :: _) _ _ _
      ((repeat (show ADl _ _ _ _ _ _ (_ :: _) _ _ _; refine goD (h := ?_))); try show ADl _ _ _ _ _ _ (_ :: _) _ _ _)
      try (first | refine ADl.f (hq := fun _ => OpQ.part_str rfl (by first | exact Wk.refl _ | exact Wk.nil | exact Wk.clip _ | exact Wk.tip _ _ _ | exact Wk.opt _ _ (by first | assumption | rfl) | exact Wk.gr _ _ | exact Wk.nil_gr | exact Wk.trans (Wk.opt _ _ (by first | assumption | rfl)) (by first | exact Wk.gr _ _ | exact Wk.nil | exact Wk.clip _ | exact Wk.tip _ _ _) | exact Wk.aggs (by repeat (first | exact Wks.nil | refine Wks.cons (by first | exact Wk.refl _ | exact Wk.nil | exact Wk.clip _ | exact Wk.tip _ _ _ | exact Wk.gr _ _ | exact Wk.nil_gr) ?_)) rfl) (by first | exact Bnd.none _ | exact Bnd.some (by first | exact Wk.refl _ | exact Wk.nil | exact Wk.clip _ | exact Wk.tip _ _ _ | exact Wk.opt _ _ (by first | assumption | rfl) | exact Wk.gr _ _ | exact Wk.nil_gr | exact Wk.trans (Wk.opt _ _ (by first | assumption | rfl)) (by first | exact Wk.gr _ _ | exact Wk.nil | exact Wk.clip _ | exact Wk.tip _ _ _) | exact Wk.aggs (by repeat (first | exact Wks.nil | refine Wks.cons (by first | exact Wk.refl _ | exact Wk.nil | exact Wk.clip _ | exact Wk.tip _ _ _ | exact Wk.gr _ _ | exact Wk.nil_gr) ?_)) rfl) (by omega) (by first | ((simp only [Nat.zero_add, Nat.add_zero, Nat.reduceAdd, Nat.reduceMul, Int.toNat_natCast]) <;> rfl) | rfl)) (by first | exact Bnd.none _ | exact Bnd.some (by first | exact Wk.refl _ | exact Wk.nil | exact Wk.clip _ | exact Wk.tip _ _ _ | exact Wk.opt _ _ (by first | assumption | rfl) | exact Wk.gr _ _ | exact Wk.nil_gr | exact Wk.trans (Wk.opt _ _ (by first | assumption | rfl)) (by first | exact Wk.gr _ _ | exact Wk.nil | exact Wk.clip _ | exact Wk.tip _ _ _) | exact Wk.aggs (by repeat (first | exact Wks.nil | refine Wks.cons (by first | exact Wk.refl _ | exact Wk.nil | exact Wk.clip _ | exact Wk.tip _ _ _ | exact Wk.gr _ _ | exact Wk.nil_gr) ?_)) rfl) (by omega) (by first | ((simp only [Nat.zero_add, Nat.add_zero, Nat.reduceAdd, Nat.reduceMul, Int.toNat_natCast]) <;> rfl) | rfl)) (by have := he130; omega) (by have := he130; omega)) (h := ?_) | refine ADl.b (hq := OpQ.part_str rfl (by first | exact Wk.refl _ | exact Wk.nil | exact Wk.clip _ | exact Wk.tip _ _ _ | exact Wk.opt _ _ (by first | assumption | rfl) | exact Wk.gr _ _ | exact Wk.nil_gr | exact Wk.trans (Wk.opt _ _ (by first | assumption | rfl)) (by first | exact Wk.gr _ _ | exact Wk.nil | exact Wk.clip _ | exact Wk.tip _ _ _) | exact Wk.aggs (by repeat (first | exact Wks.nil | refine Wks.cons (by first | exact Wk.refl _ | exact Wk.nil | exact Wk.clip _ | exact Wk.tip _ _ _ | exact Wk.gr _ _ | exact Wk.nil_gr) ?_)) rfl) (by first | exact Bnd.none _ | exact Bnd.some (by first | exact Wk.refl _ | exact Wk.nil | exact Wk.clip _ | exact Wk.tip _ _ _ | exact Wk.opt _ _ (by first | assumption | rfl) | exact Wk.gr _ _ | exact Wk.nil_gr | exact Wk.trans (Wk.opt _ _ (by first | assumption | rfl)) (by first | exact Wk.gr _ _ | exact Wk.nil | exact Wk.clip _ | exact Wk.tip _ _ _) | exact Wk.aggs (by repeat (first | exact Wks.nil | refine Wks.cons (by first | exact Wk.refl _ | exact Wk.nil | exact Wk.clip _ | exact Wk.tip _ _ _ | exact Wk.gr _ _ | exact Wk.nil_gr) ?_)) rfl) (by omega) (by first | ((simp only [Nat.zero_add, Nat.add_zero, Nat.reduceAdd, Nat.reduceMul, Int.toNat_natCast]) <;> rfl) | rfl)) (by first | exact Bnd.none _ | exact Bnd.some (by first | exact Wk.refl _ | exact Wk.nil | exact Wk.clip _ | exact Wk.tip _ _ _ | exact Wk.opt _ _ (by first | assumption | rfl) | exact Wk.gr _ _ | exact Wk.nil_gr | exact Wk.trans (Wk.opt _ _ (by first | assumption | rfl)) (by first | exact Wk.gr _ _ | exact Wk.nil | exact Wk.clip _ | exact Wk.tip _ _ _) | exact Wk.aggs (by repeat (first | exact Wks.nil | refine Wks.cons (by first | exact Wk.refl _ | exact Wk.nil | exact Wk.clip _ | exact Wk.tip _ _ _ | exact Wk.gr _ _ | exact Wk.nil_gr) ?_)) rfl) (by omega) (by first | ((simp only [Nat.zero_add, Nat.add_zero, Nat.reduceAdd, Nat.reduceMul, Int.toNat_natCast]) <;> rfl) | rfl)) (by have := he130; omega) (by have := he130; omega)) (h := ?_))
      ((repeat (show ADl _ _ _ _ _ _ (_ :: _) _ _ _; refine goD (h := ?_))); try show ADl _ _ _ _ _ _ (_ :: _) _ _ _)
      try (first | refine ADl.f (hq := fun _ => OpQ.part_str rfl (by first | exact Wk.refl _ | exact Wk.nil | exact Wk.clip _ | exact Wk.tip _ _ _ | exact Wk.opt _ _ (by first | assumption | rfl) | exact Wk.gr _ _ | exact Wk.nil_gr | exact Wk.trans (Wk.opt _ _ (by first | assumption | rfl)) (by first | exact Wk.gr _ _ | exact Wk.nil | exact Wk.clip _ | exact Wk.tip _ _ _) | exact Wk.aggs (by repeat (first | exact Wks.nil | refine Wks.cons (by first | exact Wk.refl _ | exact Wk.nil | exact Wk.clip _ | exact Wk.tip _ _ _ | exact Wk.gr _ _ | exact Wk.nil_gr) ?_)) rfl) (by first | exact Bnd.none _ | exact Bnd.some (by first | exact Wk.refl _ | exact Wk.nil | exact Wk.clip _ | exact Wk.tip _ _ _ | exact Wk.opt _ _ (by first | assumption | rfl) | exact Wk.gr _ _ | exact Wk.nil_gr | exact Wk.trans (Wk.opt _ _ (by first | assumption | rfl)) (by first | exact Wk.gr _ _ | exact Wk.nil | exact Wk.clip _ | exact Wk.tip _ _ _) | exact Wk.aggs (by repeat (first | exact Wks.nil | refine Wks.cons (by first | exact Wk.refl _ | exact Wk.nil | exact Wk.clip _ | exact Wk.tip _ _ _ | exact Wk.gr _ _ | exact Wk.nil_gr) ?_)) rfl) (by omega) (by first | ((simp only [Nat.zero_add, Nat.add_zero, Nat.reduceAdd, Nat.reduceMul, Int.toNat_natCast]) <;> rfl) | rfl)) (by first | exact Bnd.none _ | exact Bnd.some (by first | exact Wk.refl _ | exact Wk.nil | exact Wk.clip _ | exact Wk.tip _ _ _ | exact Wk.opt _ _ (by first | assumption | rfl) | exact Wk.gr _ _ | exact Wk.nil_gr | exact Wk.trans (Wk.opt _ _ (by first | assumption | rfl)) (by first | exact Wk.gr _ _ | exact Wk.nil | exact Wk.clip _ | exact Wk.tip _ _ _) | exact Wk.aggs (by repeat (first | exact Wks.nil | refine Wks.cons (by first | exact Wk.refl _ | exact Wk.nil | exact Wk.clip _ | exact Wk.tip _ _ _ | exact Wk.gr _ _ | exact Wk.nil_gr) ?_)) rfl) (by omega) (by first | ((simp only [Nat.zero_add, Nat.add_zero, Nat.reduceAdd, Nat.reduceMul, Int.toNat_natCast]) <;> rfl) | rfl)) (by have := he136; omega) (by have := he136; omega)) (h := ?_) | refine ADl.b (hq := OpQ.part_str rfl (by first | exact Wk.refl _ | exact Wk.nil | exact Wk.clip _ | exact Wk.tip _ _ _ | exact Wk.opt _ _ (by first | assumption | rfl) | exact Wk.gr _ _ | exact Wk.nil_gr | exact Wk.trans (Wk.opt _ _ (by first | assumption | rfl)) (by first | exact Wk.gr _ _ | exact Wk.nil | exact Wk.clip _ | exact Wk.tip _ _ _) | exact Wk.aggs (by repeat (first | exact Wks.nil | refine Wks.cons (by first | exact Wk.refl _ | exact Wk.nil | exact Wk.clip _ | exact Wk.tip _ _ _ | exact Wk.gr _ _ | exact Wk.nil_gr) ?_)) rfl) (by first | exact Bnd.none _ | exact Bnd.some (by first | exact Wk.refl _ | exact Wk.nil | exact Wk.clip _ | exact Wk.tip _ _ _ | exact Wk.opt _ _ (by first | assumption | rfl) | exact Wk.gr _ _ | exact Wk.nil_gr | exact Wk.trans (Wk.opt _ _ (by first | assumption | rfl)) (by first | exact Wk.gr _ _ | exact Wk.nil | exact Wk.clip _ | exact Wk.tip _ _ _) | exact Wk.aggs (by repeat (first | exact Wks.nil | refine Wks.cons (by first | exact Wk.refl _ | exact Wk.nil | exact Wk.clip _ | exact Wk.tip _ _ _ | exact Wk.gr _ _ | exact Wk.nil_gr) ?_)) rfl) (by omega) (by first | ((simp only [Nat.zero_add, Nat.add_zero, Nat.reduceAdd, Nat.reduceMul, Int.toNat_natCast]) <;> rfl) | rfl)) (by first | exact Bnd.none _ | exact Bnd.some (by first | exact Wk.refl _ | exact Wk.nil | exact Wk.clip _ | exact Wk.tip _ _ _ | exact Wk.opt _ _ (by first | assumption | rfl) | exact Wk.gr _ _ | exact Wk.nil_gr | exact Wk.trans (Wk.opt _ _ (by first | assumption | rfl)) (by first | exact Wk.gr _ _ | exact Wk.nil | exact Wk.clip _ | exact Wk.tip _ _ _) | exact Wk.aggs (by repeat (first | exact Wks.nil | refine Wks.cons (by first | exact Wk.refl _ | exact Wk.nil | exact Wk.clip _ | exact Wk.tip _ _ _ | exact Wk.gr _ _ | exact Wk.nil_gr) ?_)) rfl) (by omega) (by first | ((simp only [Nat.zero_add, Nat.add_zero, Nat.reduceAdd, Nat.reduceMul, Int.toNat_natCast]) <;> rfl) | rfl)) (by have := he136; omega) (by have := he136; omega)) (h := ?_))
      ((repeat (show ADl _ _ _ _ _ _ (_ :: _) _ _ _; refine goD (h := ?_))); try show ADl _ _ _ _ _ _ (_ :: _) _ _ _)
      try (first | refine ADl.f (hq := fun _ => OpQ.part_str rfl (by first | exact Wk.refl _ | exact Wk.nil | exact Wk.clip _ | exact Wk.tip _ _ _ | exact Wk.opt _ _ (by first | assumption | rfl) | exact Wk.gr _ _ | exact Wk.nil_gr | exact Wk.trans (Wk.opt _ _ (by first | assumption | rfl)) (by first | exact Wk.gr _ _ | exact Wk.nil | exact Wk.clip _ | exact Wk.tip _ _ _) | exact Wk.aggs (by repeat (first | exact Wks.nil | refine Wks.cons (by first | exact Wk.refl _ | exact Wk.nil | exact Wk.clip _ | exact Wk.tip _ _ _ | exact Wk.gr _ _ | exact Wk.nil_gr) ?_)) rfl) (by first | exact Bnd.none _ | exact Bnd.some (by first | exact Wk.refl _ | exact Wk.nil | exact Wk.clip _ | exact Wk.tip _ _ _ | exact Wk.opt _ _ (by first | assumption | rfl) | exact Wk.gr _ _ | exact Wk.nil_gr | exact Wk.trans (Wk.opt _ _ (by first | assumption | rfl)) (by first | exact Wk.gr _ _ | exact Wk.nil | exact Wk.clip _ | exact Wk.tip _ _ _) | exact Wk.aggs (by repeat (first | exact Wks.nil | refine Wks.cons (by first | exact Wk.refl _ | exact Wk.nil | exact Wk.clip _ | exact Wk.tip _ _ _ | exact Wk.gr _ _ | exact Wk.nil_gr) ?_)) rfl) (by omega) (by first | ((simp only [Nat.zero_add, Nat.add_zero, Nat.reduceAdd, Nat.reduceMul, Int.toNat_natCast]) <;> rfl) | rfl)) (by first | exact Bnd.none _ | exact Bnd.some (by first | exact Wk.refl _ | exact Wk.nil | exact Wk.clip _ | exact Wk.tip _ _ _ | exact Wk.opt _ _ (by first | assumption | rfl) | exact Wk.gr _ _ | exact Wk.nil_gr | exact Wk.trans (Wk.opt _ _ (by first | assumption | rfl)) (by first | exact Wk.gr _ _ | exact Wk.nil | exact Wk.clip _ | exact Wk.tip _ _ _) | exact Wk.aggs (by repeat (first | exact Wks.nil | refine Wks.cons (by first | exact Wk.refl _ | exact Wk.nil | exact Wk.clip _ | exact Wk.tip _ _ _ | exact Wk.gr _ _ | exact Wk.nil_gr) ?_)) rfl) (by omega) (by first | ((simp only [Nat.zero_add, Nat.add_zero, Nat.reduceAdd, Nat.reduceMul, Int.toNat_natCast]) <;> rfl) | rfl)) (by have := he142; omega) (by have := he142; omega)) (h := ?_) | refine ADl.b (hq := OpQ.part_str rfl (by first | exact Wk.refl _ | exact Wk.nil | exact Wk.clip _ | exact Wk.tip _ _ _ | exact Wk.opt _ _ (by first | assumption | rfl) | exact Wk.gr _ _ | exact Wk.nil_gr | exact Wk.trans (Wk.opt _ _ (by first | assumption | rfl)) (by first | exact Wk.gr _ _ | exact Wk.nil | exact Wk.clip _ | exact Wk.tip _ _ _) | exact Wk.aggs (by repeat (first | exact Wks.nil | refine Wks.cons (by first | exact Wk.refl _ | exact Wk.nil | exact Wk.clip _ | exact Wk.tip _ _ _ | exact Wk.gr _ _ | exact Wk.nil_gr) ?_)) rfl) (by first | exact Bnd.none _ | exact Bnd.some (by first | exact Wk.refl _ | exact Wk.nil | exact Wk.clip _ | exact Wk.tip _ _ _ | exact Wk.opt _ _ (by first | assumption | rfl) | exact Wk.gr _ _ | exact Wk.nil_gr | exact Wk.trans (Wk.opt _ _ (by first | assumption | rfl)) (by first | exact Wk.gr _ _ | exact Wk.nil | exact Wk.clip _ | exact Wk.tip _ _ _) | exact Wk.aggs (by repeat (first | exact Wks.nil | refine Wks.cons (by first | exact Wk.refl _ | exact Wk.nil | exact Wk.clip _ | exact Wk.tip _ _ _ | exact Wk.gr _ _ | exact Wk.nil_gr) ?_)) rfl) (by omega) (by first | ((simp only [Nat.zero_add, Nat.add_zero, Nat.reduceAdd, Nat.reduceMul, Int.toNat_natCast]) <;> rfl) | rfl)) (by first | exact Bnd.none _ | exact Bnd.some (by first | exact Wk.refl _ | exact Wk.nil | exact Wk.clip _ | exact Wk.tip _ _ _ | exact Wk.opt _ _ (by first | assumption | rfl) | exact Wk.gr _ _ | exact Wk.nil_gr | exact Wk.trans (Wk.opt _ _ (by first | assumption | rfl)) (by first | exact Wk.gr _ _ | exact Wk.nil | exact Wk.clip _ | exact Wk.tip _ _ _) | exact Wk.aggs (by repeat (first | exact Wks.nil | refine Wks.cons (by first | exact Wk.refl _ | exact Wk.nil | exact Wk.clip _ | exact Wk.tip _ _ _ | exact Wk.gr _ _ | exact Wk.nil_gr) ?_)) rfl) (by omega) (by first | ((simp only [Nat.zero_add, Nat.add_zero, Nat.reduceAdd, Nat.reduceMul, Int.toNat_natCast]) <;> rfl) | rfl)) (by have := he142; omega) (by have := he142; omega)) (h := ?_))
      ((repeat (show ADl _ _ _ _ _ _ (_ :: _) _ _ _; refine goD (h := ?_))); try show ADl _ _ _ _ _ _ (_ :: _) _ _ _)
      intro g145
      ((repeat (show ADl _ _ _ _ _ _ (_ :: _) _ _ _; refine goD (h := ?_))); try show ADl _ _ _ _ _ _ (_ :: _) _ _ _)
      (repeat refine goD (h := ?_))
      obtain ⟨he146, hF⟩ := ens hF
      obtain ⟨he147, hF⟩ := ens hF
      obtain ⟨_, he148, hF⟩ := grd_b hF
      replace he148 : (decide (((IntKind.wrap .i64 (x122.tdiv 10)).tmod 16) > 3)) = true → 0 < 10 := fun hb => ens1 (he148 hb)
      (repeat refine gc (h := ?_))
      refine AW.region ?_
      (repeat refine gl (h := ?_))
      try refine AL.gd (hq := fun hgb => OpQ.rem_any rfl (by first | exact Wk.refl _ | exact Wk.nil | exact Wk.clip _ | exact Wk.tip _ _ _ | exact Wk.opt _ _ (by first | assumption | rfl) | exact Wk.gr _ _ | exact Wk.nil_gr | exact Wk.trans (Wk.opt _ _ (by first | assumption | rfl)) (by first | exact Wk.gr _ _ | exact Wk.nil | exact Wk.clip _ | exact Wk.tip _ _ _) | exact Wk.aggs (by repeat (first | exact Wks.nil | refine Wks.cons (by first | exact Wk.refl _ | exact Wk.nil | exact Wk.clip _ | exact Wk.tip _ _ _ | exact Wk.gr _ _ | exact Wk.nil_gr) ?_)) rfl) (by first | exact Wk.refl _ | exact Wk.nil | exact Wk.clip _ | exact Wk.tip _ _ _ | exact Wk.opt _ _ (by first | assumption | rfl) | exact Wk.gr _ _ | exact Wk.nil_gr | exact Wk.trans (Wk.opt _ _ (by first | assumption | rfl)) (by first | exact Wk.gr _ _ | exact Wk.nil | exact Wk.clip _ | exact Wk.tip _ _ _) | exact Wk.aggs (by repeat (first | exact Wks.nil | refine Wks.cons (by first | exact Wk.refl _ | exact Wk.nil | exact Wk.clip _ | exact Wk.tip _ _ _ | exact Wk.gr _ _ | exact Wk.nil_gr) ?_)) rfl) (he148 hgb)) (h := ?_)
      (repeat refine gl (h := ?_))
      obtain ⟨j152, hF, hO153⟩ := bnd hF
      (repeat refine gc (h := ?_))
      refine AW.join1_0 (fun (s151 : Txt) => [(0, .sl (a0.map intR)), (2, bA false), (3, .ptr g5 0), (4, .ptr g6 0), (5, iA s104), (6, iA x122), (7, .ptr g145 0)]) (fun (s151 : Txt) => (g145, .cells [iA (x122.tmod 10), sA s151, sA ((⟨#[97, 98, 99, 100]⟩ : Txt).extract ((IntKind.wrap .i64 (x122.tdiv 160)).tmod 4).toNat ((((IntKind.wrap .i64 (x122.tdiv 160)).tmod 4) + 1).toNat)), sA ((⟨#[103, 115, 120, 121, 122, 119]⟩ : Txt).extract ((IntKind.wrap .i64 (x122.tdiv 640)).tmod 6).toNat ((((IntKind.wrap .i64 (x122.tdiv 640)).tmod 6) + 1).toNat)), iA ((IntKind.wrap .i64 (x122.tdiv 3840)).tmod 50)]) :: (g6, .cells [iA s105.Number, iA s105.Time, .sl (s105.Accounts.map strR), .sl (s105.Funds.map rFund), .sl (s105.Escrows.map rEscrow)]) :: (g5, .cells [iA s106.Number, iA s106.Time, .sl (s106.Accounts.map strR), .sl (s106.Funds.map rFund), .sl (s106.Escrows.map rEscrow)]) :: bs) (fun (s151 : Txt) => j152 = s151) ?_ (fun s151 hs154 => ?_)
      · (repeat refine gc (h := ?_))
        refine AW.cond (b := ((decide (((IntKind.wrap .i64 (x122.tdiv 10)).tmod 16) > 3)) && (decide ((x122.tmod 10) > 1)))) rfl (fun hc156 => ?_) (fun hc156 => ?_)
        · replace hF := cnd_t hc156 hF
          (repeat refine gc (h := ?_))
          (repeat refine gc (h := ?_))
          refine AW.region ?_
          (repeat refine gl (h := ?_))
          (repeat refine gc (h := ?_))
          exact jnQ1_0.n (⟨#[97]⟩ : Txt) (some_inj hF) (by repeat (first | exact Sub.nil | refine Sub.cons (k := ?_))) (by repeat (first | exact List.Sublist.refl _ | apply List.Sublist.cons | apply Sl.gB))
        · replace hF := cnd_f hc156 hF
          (repeat refine gc (h := ?_))
          (repeat refine gc (h := ?_))
          exact jnQ1_0.n ((⟨#[97, 98, 99, 100, 101, 102, 103, 104, 105, 106, 107, 108, 109, 110, 111, 112]⟩ : Txt).extract ((IntKind.wrap .i64 (x122.tdiv 10)).tmod 16).toNat ((((IntKind.wrap .i64 (x122.tdiv 10)).tmod 16) + 1).toNat)) (some_inj hF) (by repeat (first | exact Sub.nil | refine Sub.cons (k := ?_))) (by repeat (first | exact List.Sublist.refl _ | apply List.Sublist.cons | apply Sl.gB))
      · obtain rfl := hs154.symm
        replace hF := hO153
        try dsimp only at hF
        (repeat refine gc (h := ?_))
        obtain ⟨x157, hc158, hF⟩ := bnd hF
        (repeat refine gc (h := ?_))
        refine AW.region ?_
        (repeat refine gl (h := ?_))
        refine AL.call (c_law9_step hc158) (h := ?_)
        (repeat refine gl (h := ?_))
        intro g159
        (repeat refine gl (h := ?_))
        intro g160
        (repeat refine gl (h := ?_))
        (repeat refine gc (h := ?_))
        refine AW.region ?_
        (repeat refine gl (h := ?_))
        (repeat refine gc (h := ?_))
        refine AW.cond (b := (!x157.2.2)) rfl (fun hc162 => ?_) (fun hc162 => ?_)
        · replace hF := cnd_t hc162 hF
          (repeat refine gc (h := ?_))
          (repeat refine gc (h := ?_))
          refine AW.region ?_
          (repeat refine gl (h := ?_))
          obtain rfl := some_inj hF
          (repeat refine gc (h := ?_))
          refine lpQ3_0.r _ rfl (fun ho113 => ?_)
          subst ho113
          replace hF := hO109
          (repeat refine gc (h := ?_))
          obtain rfl := some_inj hF
          (repeat refine gc (h := ?_))
          exact EndQ.fin (bs' := bs) (h := ⟨(by first | exact Wk.refl _ | exact (by first | exact Wk.refl _ | exact Wk.nil | exact Wk.clip _ | exact Wk.tip _ _ _ | exact Wk.opt _ _ (by first | assumption | rfl) | exact Wk.gr _ _ | exact Wk.nil_gr | exact Wk.trans (Wk.opt _ _ (by first | assumption | rfl)) (by first | exact Wk.gr _ _ | exact Wk.nil | exact Wk.clip _ | exact Wk.tip _ _ _) | exact Wk.aggs (by repeat (first | exact Wks.nil | refine Wks.cons (by first | exact Wk.refl _ | exact Wk.nil | exact Wk.clip _ | exact Wk.tip _ _ _ | exact Wk.gr _ _ | exact Wk.nil_gr) ?_)) rfl) | exact Wk.tups (by repeat (first | exact Wks.nil | refine Wks.cons (by first | exact Wk.refl _ | exact Wk.nil | exact Wk.clip _ | exact Wk.tip _ _ _ | exact Wk.opt _ _ (by first | assumption | rfl) | exact Wk.gr _ _ | exact Wk.nil_gr | exact Wk.trans (Wk.opt _ _ (by first | assumption | rfl)) (by first | exact Wk.gr _ _ | exact Wk.nil | exact Wk.clip _ | exact Wk.tip _ _ _) | exact Wk.aggs (by repeat (first | exact Wks.nil | refine Wks.cons (by first | exact Wk.refl _ | exact Wk.nil | exact Wk.clip _ | exact Wk.tip _ _ _ | exact Wk.gr _ _ | exact Wk.nil_gr) ?_)) rfl) ?_))), rfl⟩) (hs := (by repeat (first | exact List.Sublist.refl _ | apply List.Sublist.cons | apply Sl.gB)))
        · replace hF := cnd_f hc162 hF
          (repeat refine gc (h := ?_))
          (repeat refine gc (h := ?_))
          (repeat refine goD (h := ?_))
          obtain ⟨he163, hF⟩ := ens hF
          (repeat refine gc (h := ?_))
          refine AW.region ?_
          (repeat refine gl (h := ?_))
          (repeat refine gc (h := ?_))
          exact lpQ3_0.n (s104 + 1) x157.2.1 x157.1 (some_inj hF) trivial (by repeat (first | exact Sub.nil | refine Sub.cons (k := ?_))) (by repeat (first | exact List.Sublist.refl _ | apply List.Sublist.cons | apply Sl.gB))
    · replace hF := cnd_f hc118 hF
      (repeat refine gc (h := ?_))
      obtain rfl := some_inj hF
      (repeat refine gc (h := ?_))
      refine lpQ3_0.e _ rfl (fun ho113 => ?_)
      (repeat refine gc (h := ?_))
      exact jnQ3_0.n s104 s105 s106 ho113 (by repeat (first | exact Sub.nil | refine Sub.cons (k := ?_))) (by repeat (first | exact List.Sublist.refl _ | apply List.Sublist.cons | apply Sl.gB))
  · obtain rfl := hs166.symm
    replace hF := hO109
    try dsimp only at hF
    (repeat refine gc (h := ?_))
    obtain ⟨x164, hc165, hF⟩ := bnd hF
    (repeat refine gc (h := ?_))
    refine AW.region ?_
    (repeat refine gl (h := ?_))
    refine AL.call (c_law9_awake hc165) (h := ?_)
    (repeat refine gl (h := ?_))
    obtain rfl := some_inj hF
    (repeat refine gc (h := ?_))
    exact EndQ.fin (bs' := bs) (h := ⟨(by first | exact Wk.refl _ | exact (by first | exact Wk.refl _ | exact Wk.nil | exact Wk.clip _ | exact Wk.tip _ _ _ | exact Wk.opt _ _ (by first | assumption | rfl) | exact Wk.gr _ _ | exact Wk.nil_gr | exact Wk.trans (Wk.opt _ _ (by first | assumption | rfl)) (by first | exact Wk.gr _ _ | exact Wk.nil | exact Wk.clip _ | exact Wk.tip _ _ _) | exact Wk.aggs (by repeat (first | exact Wks.nil | refine Wks.cons (by first | exact Wk.refl _ | exact Wk.nil | exact Wk.clip _ | exact Wk.tip _ _ _ | exact Wk.gr _ _ | exact Wk.nil_gr) ?_)) rfl) | exact Wk.tups (by repeat (first | exact Wks.nil | refine Wks.cons (by first | exact Wk.refl _ | exact Wk.nil | exact Wk.clip _ | exact Wk.tip _ _ _ | exact Wk.opt _ _ (by first | assumption | rfl) | exact Wk.gr _ _ | exact Wk.nil_gr | exact Wk.trans (Wk.opt _ _ (by first | assumption | rfl)) (by first | exact Wk.gr _ _ | exact Wk.nil | exact Wk.clip _ | exact Wk.tip _ _ _) | exact Wk.aggs (by repeat (first | exact Wks.nil | refine Wks.cons (by first | exact Wk.refl _ | exact Wk.nil | exact Wk.clip _ | exact Wk.tip _ _ _ | exact Wk.gr _ _ | exact Wk.nil_gr) ?_)) rfl) ?_))), rfl⟩) (hs := (by repeat (first | exact List.Sublist.refl _ | apply List.Sublist.cons | apply Sl.gB)))

end Go.Proofs.Ytnkkfmnpkgjabaa.X
