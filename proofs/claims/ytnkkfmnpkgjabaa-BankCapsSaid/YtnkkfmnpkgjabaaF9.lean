/- Lifted code. Printed by a program of this repo (lift.py). -/
import Derived.Test.YtnkkfmnpkgjabaaF5
import Derived.Test.YtnkkfmnpkgjabaaL5
namespace Go.Proofs.Ytnkkfmnpkgjabaa.X
open Go.RowKit
set_option linter.unusedVariables false
set_option linter.unusedSimpArgs false
set_option maxRecDepth 10000
set_option maxHeartbeats 4000000

noncomputable def l_law0_Digits_r (rec_ : Int → Option (Txt)) (a0 : Int) : Option (Txt) :=
cond (decide (a0 ≤ (-10))) (
(ensure (0 < 10)).bind fun _ =>
(ensure (-9223372036854775808 ≤ -(a0.tmod 10) ∧ -(a0.tmod 10) ≤ 9223372036854775807)).bind fun _ =>
(ensure (0 < 10)).bind fun _ =>
(rec_ (IntKind.wrap .i64 (a0.tdiv 10))).bind fun x41 =>
(ensure (-9223372036854775808 ≤ (-(a0.tmod 10)) + 1 ∧ (-(a0.tmod 10)) + 1 ≤ 9223372036854775807)).bind fun _ =>
(ensure (0 ≤ (-(a0.tmod 10)) ∧ (-(a0.tmod 10)) ≤ ((-(a0.tmod 10)) + 1) ∧ ((-(a0.tmod 10)) + 1) ≤ ((⟨#[48, 49, 50, 51, 52, 53, 54, 55, 56, 57]⟩ : Txt).size : Int))).bind fun _ =>
(ensure (x41.size + ((⟨#[48, 49, 50, 51, 52, 53, 54, 55, 56, 57]⟩ : Txt).extract (-(a0.tmod 10)).toNat (((-(a0.tmod 10)) + 1).toNat)).size ≤ 9223372036854775807)).bind fun _ =>
some (x41 ++ ((⟨#[48, 49, 50, 51, 52, 53, 54, 55, 56, 57]⟩ : Txt).extract (-(a0.tmod 10)).toNat (((-(a0.tmod 10)) + 1).toNat)))) (
cond (decide (a0 < 0)) (
(ensure (-9223372036854775808 ≤ -a0 ∧ -a0 ≤ 9223372036854775807)).bind fun _ =>
(ensure (-9223372036854775808 ≤ -a0 ∧ -a0 ≤ 9223372036854775807)).bind fun _ =>
(ensure (-9223372036854775808 ≤ (-a0) + 1 ∧ (-a0) + 1 ≤ 9223372036854775807)).bind fun _ =>
(ensure (0 ≤ (-a0) ∧ (-a0) ≤ ((-a0) + 1) ∧ ((-a0) + 1) ≤ ((⟨#[48, 49, 50, 51, 52, 53, 54, 55, 56, 57]⟩ : Txt).size : Int))).bind fun _ =>
(ensure ((⟨#[45]⟩ : Txt).size + ((⟨#[48, 49, 50, 51, 52, 53, 54, 55, 56, 57]⟩ : Txt).extract (-a0).toNat (((-a0) + 1).toNat)).size ≤ 9223372036854775807)).bind fun _ =>
some ((⟨#[45]⟩ : Txt) ++ ((⟨#[48, 49, 50, 51, 52, 53, 54, 55, 56, 57]⟩ : Txt).extract (-a0).toNat (((-a0) + 1).toNat)))) (
cond (decide (a0 < 10)) (
(ensure (-9223372036854775808 ≤ a0 + 1 ∧ a0 + 1 ≤ 9223372036854775807)).bind fun _ =>
(ensure (0 ≤ a0 ∧ a0 ≤ (a0 + 1) ∧ (a0 + 1) ≤ ((⟨#[48, 49, 50, 51, 52, 53, 54, 55, 56, 57]⟩ : Txt).size : Int))).bind fun _ =>
some ((⟨#[48, 49, 50, 51, 52, 53, 54, 55, 56, 57]⟩ : Txt).extract a0.toNat ((a0 + 1).toNat))) (
(ensure (0 < 10)).bind fun _ =>
(rec_ (IntKind.wrap .i64 (a0.tdiv 10))).bind fun x68 =>
(ensure (0 < 10)).bind fun _ =>
(ensure (0 < 10)).bind fun _ =>
(ensure (-9223372036854775808 ≤ (a0.tmod 10) + 1 ∧ (a0.tmod 10) + 1 ≤ 9223372036854775807)).bind fun _ =>
(ensure (0 ≤ (a0.tmod 10) ∧ (a0.tmod 10) ≤ ((a0.tmod 10) + 1) ∧ ((a0.tmod 10) + 1) ≤ ((⟨#[48, 49, 50, 51, 52, 53, 54, 55, 56, 57]⟩ : Txt).size : Int))).bind fun _ =>
(ensure (x68.size + ((⟨#[48, 49, 50, 51, 52, 53, 54, 55, 56, 57]⟩ : Txt).extract (a0.tmod 10).toNat (((a0.tmod 10) + 1).toNat)).size ≤ 9223372036854775807)).bind fun _ =>
some (x68 ++ ((⟨#[48, 49, 50, 51, 52, 53, 54, 55, 56, 57]⟩ : Txt).extract (a0.tmod 10).toNat (((a0.tmod 10) + 1).toNat))))))
noncomputable def l_law0_Digits : Nat → Int → Option (Txt)
  | 0 => fun _ => none
  | n + 1 => l_law0_Digits_r (l_law0_Digits n)
theorem c_law0_Digits_r {rec_ : Int → Option (Txt)} (ih_ : ∀ {a0 : Int} {r : Txt}, rec_ a0 = some r → APure Try.prog 26 [iA a0] (sA r)) {a0 : Int} {r : Txt} (hF : l_law0_Digits_r rec_ a0 = some r) : APure Try.prog 26 [iA a0] (sA r) := fun bs => by
  unfold l_law0_Digits_r at hF
  refine ACalls.wk ?_
  refine ACalls.in_ Try.func26 Try.ntmps26 (h := ?_)
  (repeat refine gc (h := ?_))
  refine AW.region ?_
  (repeat refine gl (h := ?_))
  (repeat refine gc (h := ?_))
  refine AW.block ?_
  (repeat refine gc (h := ?_))
  refine AW.region ?_
  (repeat refine gl (h := ?_))
  (repeat refine gc (h := ?_))
  refine AW.cond (b := (decide (a0 ≤ (-10)))) rfl (fun hc37 => ?_) (fun hc37 => ?_)
  · replace hF := cnd_t hc37 hF
    have hc37p := of_decide_eq_true hc37
    (repeat refine gc (h := ?_))
    obtain ⟨he38, hF⟩ := ens hF
    obtain ⟨he39, hF⟩ := ens hF
    (repeat refine gc (h := ?_))
    refine AW.region ?_
    (repeat refine gl (h := ?_))
    obtain ⟨he40, hF⟩ := ens hF
    obtain ⟨x41, hc42, hF⟩ := bnd hF
    obtain ⟨he43, hF⟩ := ens hF
    obtain ⟨he44, hF⟩ := ens hF
    obtain ⟨he45, hF⟩ := ens hF
    (repeat refine gc (h := ?_))
    (repeat refine goD (h := ?_))
    refine ADl.call (ih_ hc42) (h := ?_)
    (repeat refine goD (h := ?_))
    try (first | refine ADl.f (hq := fun _ => OpQ.part_str rfl (by first | exact Wk.refl _ | exact Wk.nil | exact Wk.clip _ | exact Wk.tip _ _ _ | exact Wk.opt _ _ (by first | assumption | rfl) | exact Wk.gr _ _ | exact Wk.nil_gr | exact Wk.trans (Wk.opt _ _ (by first | assumption | rfl)) (by first | exact Wk.gr _ _ | exact Wk.nil | exact Wk.clip _ | exact Wk.tip _ _ _) | exact Wk.aggs (by repeat (first | exact Wks.nil | refine Wks.cons (by first | exact Wk.refl _ | exact Wk.nil | exact Wk.clip _ | exact Wk.tip _ _ _ | exact Wk.gr _ _ | exact Wk.nil_gr) ?_)) rfl) (by first | exact Bnd.none _ | exact Bnd.some (by first | exact Wk.refl _ | exact Wk.nil | exact Wk.clip _ | exact Wk.tip _ _ _ | exact Wk.opt _ _ (by first | assumption | rfl) | exact Wk.gr _ _ | exact Wk.nil_gr | exact Wk.trans (Wk.opt _ _ (by first | assumption | rfl)) (by first | exact Wk.gr _ _ | exact Wk.nil | exact Wk.clip _ | exact Wk.tip _ _ _) | exact Wk.aggs (by repeat (first | exact Wks.nil | refine Wks.cons (by first | exact Wk.refl _ | exact Wk.nil | exact Wk.clip _ | exact Wk.tip _ _ _ | exact Wk.gr _ _ | exact Wk.nil_gr) ?_)) rfl) (by omega) (by first | ((simp only [Nat.zero_add, Nat.add_zero, Nat.reduceAdd, Nat.reduceMul, Int.toNat_natCast]) <;> rfl) | rfl)) (by first | exact Bnd.none _ | exact Bnd.some (by first | exact Wk.refl _ | exact Wk.nil | exact Wk.clip _ | exact Wk.tip _ _ _ | exact Wk.opt _ _ (by first | assumption | rfl) | exact Wk.gr _ _ | exact Wk.nil_gr | exact Wk.trans (Wk.opt _ _ (by first | assumption | rfl)) (by first | exact Wk.gr _ _ | exact Wk.nil | exact Wk.clip _ | exact Wk.tip _ _ _) | exact Wk.aggs (by repeat (first | exact Wks.nil | refine Wks.cons (by first | exact Wk.refl _ | exact Wk.nil | exact Wk.clip _ | exact Wk.tip _ _ _ | exact Wk.gr _ _ | exact Wk.nil_gr) ?_)) rfl) (by omega) (by first | ((simp only [Nat.zero_add, Nat.add_zero, Nat.reduceAdd, Nat.reduceMul, Int.toNat_natCast]) <;> rfl) | rfl)) (by have := he44; omega) (by have := he44; omega)) (h := ?_) | refine ADl.b (hq := OpQ.part_str rfl (by first | exact Wk.refl _ | exact Wk.nil | exact Wk.clip _ | exact Wk.tip _ _ _ | exact Wk.opt _ _ (by first | assumption | rfl) | exact Wk.gr _ _ | exact Wk.nil_gr | exact Wk.trans (Wk.opt _ _ (by first | assumption | rfl)) (by first | exact Wk.gr _ _ | exact Wk.nil | exact Wk.clip _ | exact Wk.tip _ _ _) | exact Wk.aggs (by repeat (first | exact Wks.nil | refine Wks.cons (by first | exact Wk.refl _ | exact Wk.nil | exact Wk.clip _ | exact Wk.tip _ _ _ | exact Wk.gr _ _ | exact Wk.nil_gr) ?_)) rfl) (by first | exact Bnd.none _ | exact Bnd.some (by first | exact Wk.refl _ | exact Wk.nil | exact Wk.clip _ | exact Wk.tip _ _ _ | exact Wk.opt _ _ (by first | assumption | rfl) | exact Wk.gr _ _ | exact Wk.nil_gr | exact Wk.trans (Wk.opt _ _ (by first | assumption | rfl)) (by first | exact Wk.gr _ _ | exact Wk.nil | exact Wk.clip _ | exact Wk.tip _ _ _) | exact Wk.aggs (by repeat (first | exact Wks.nil | refine Wks.cons (by first | exact Wk.refl _ | exact Wk.nil | exact Wk.clip _ | exact Wk.tip _ _ _ | exact Wk.gr _ _ | exact Wk.nil_gr) ?_)) rfl) (by omega) (by first | ((simp only [Nat.zero_add, Nat.add_zero, Nat.reduceAdd, Nat.reduceMul, Int.toNat_natCast]) <;> rfl) | rfl)) (by first | exact Bnd.none _ | exact Bnd.some (by first | exact Wk.refl _ | exact Wk.nil | exact Wk.clip _ | exact Wk.tip _ _ _ | exact Wk.opt _ _ (by first | assumption | rfl) | exact Wk.gr _ _ | exact Wk.nil_gr | exact Wk.trans (Wk.opt _ _ (by first | assumption | rfl)) (by first | exact Wk.gr _ _ | exact Wk.nil | exact Wk.clip _ | exact Wk.tip _ _ _) | exact Wk.aggs (by repeat (first | exact Wks.nil | refine Wks.cons (by first | exact Wk.refl _ | exact Wk.nil | exact Wk.clip _ | exact Wk.tip _ _ _ | exact Wk.gr _ _ | exact Wk.nil_gr) ?_)) rfl) (by omega) (by first | ((simp only [Nat.zero_add, Nat.add_zero, Nat.reduceAdd, Nat.reduceMul, Int.toNat_natCast]) <;> rfl) | rfl)) (by have := he44; omega) (by have := he44; omega)) (h := ?_))
    (repeat refine goD (h := ?_))
    obtain rfl := some_inj hF
    (repeat refine gc (h := ?_))
    exact EndQ.fin (bs' := bs) (h := ⟨(by first | exact Wk.refl _ | exact (by first | exact Wk.refl _ | exact Wk.nil | exact Wk.clip _ | exact Wk.tip _ _ _ | exact Wk.opt _ _ (by first | assumption | rfl) | exact Wk.gr _ _ | exact Wk.nil_gr | exact Wk.trans (Wk.opt _ _ (by first | assumption | rfl)) (by first | exact Wk.gr _ _ | exact Wk.nil | exact Wk.clip _ | exact Wk.tip _ _ _) | exact Wk.aggs (by repeat (first | exact Wks.nil | refine Wks.cons (by first | exact Wk.refl _ | exact Wk.nil | exact Wk.clip _ | exact Wk.tip _ _ _ | exact Wk.gr _ _ | exact Wk.nil_gr) ?_)) rfl) | exact Wk.tups (by repeat (first | exact Wks.nil | refine Wks.cons (by first | exact Wk.refl _ | exact Wk.nil | exact Wk.clip _ | exact Wk.tip _ _ _ | exact Wk.opt _ _ (by first | assumption | rfl) | exact Wk.gr _ _ | exact Wk.nil_gr | exact Wk.trans (Wk.opt _ _ (by first | assumption | rfl)) (by first | exact Wk.gr _ _ | exact Wk.nil | exact Wk.clip _ | exact Wk.tip _ _ _) | exact Wk.aggs (by repeat (first | exact Wks.nil | refine Wks.cons (by first | exact Wk.refl _ | exact Wk.nil | exact Wk.clip _ | exact Wk.tip _ _ _ | exact Wk.gr _ _ | exact Wk.nil_gr) ?_)) rfl) ?_))), rfl⟩) (hs := (by repeat (first | exact List.Sublist.refl _ | apply List.Sublist.cons | apply Sl.gB)))
  · replace hF := cnd_f hc37 hF
    have hc37p := of_decide_eq_false hc37
    (repeat refine gc (h := ?_))
    (repeat refine gc (h := ?_))
    refine AW.region ?_
    (repeat refine gl (h := ?_))
    (repeat refine gc (h := ?_))
    refine AW.cond (b := (decide (a0 < 0))) rfl (fun hc55 => ?_) (fun hc55 => ?_)
    · replace hF := cnd_t hc55 hF
      have hc55p := of_decide_eq_true hc55
      (repeat refine gc (h := ?_))
      obtain ⟨he56, hF⟩ := ens hF
      obtain ⟨he57, hF⟩ := ens hF
      obtain ⟨he58, hF⟩ := ens hF
      obtain ⟨he59, hF⟩ := ens hF
      obtain ⟨he60, hF⟩ := ens hF
      (repeat refine gc (h := ?_))
      refine AW.region ?_
      (repeat refine gl (h := ?_))
      try refine AL.s (hq := OpQ.part_str rfl (by first | exact Wk.refl _ | exact Wk.nil | exact Wk.clip _ | exact Wk.tip _ _ _ | exact Wk.opt _ _ (by first | assumption | rfl) | exact Wk.gr _ _ | exact Wk.nil_gr | exact Wk.trans (Wk.opt _ _ (by first | assumption | rfl)) (by first | exact Wk.gr _ _ | exact Wk.nil | exact Wk.clip _ | exact Wk.tip _ _ _) | exact Wk.aggs (by repeat (first | exact Wks.nil | refine Wks.cons (by first | exact Wk.refl _ | exact Wk.nil | exact Wk.clip _ | exact Wk.tip _ _ _ | exact Wk.gr _ _ | exact Wk.nil_gr) ?_)) rfl) (by first | exact Bnd.none _ | exact Bnd.some (by first | exact Wk.refl _ | exact Wk.nil | exact Wk.clip _ | exact Wk.tip _ _ _ | exact Wk.opt _ _ (by first | assumption | rfl) | exact Wk.gr _ _ | exact Wk.nil_gr | exact Wk.trans (Wk.opt _ _ (by first | assumption | rfl)) (by first | exact Wk.gr _ _ | exact Wk.nil | exact Wk.clip _ | exact Wk.tip _ _ _) | exact Wk.aggs (by repeat (first | exact Wks.nil | refine Wks.cons (by first | exact Wk.refl _ | exact Wk.nil | exact Wk.clip _ | exact Wk.tip _ _ _ | exact Wk.gr _ _ | exact Wk.nil_gr) ?_)) rfl) (by omega) (by first | ((simp only [Nat.zero_add, Nat.add_zero, Nat.reduceAdd, Nat.reduceMul, Int.toNat_natCast]) <;> rfl) | rfl)) (by first | exact Bnd.none _ | exact Bnd.some (by first | exact Wk.refl _ | exact Wk.nil | exact Wk.clip _ | exact Wk.tip _ _ _ | exact Wk.opt _ _ (by first | assumption | rfl) | exact Wk.gr _ _ | exact Wk.nil_gr | exact Wk.trans (Wk.opt _ _ (by first | assumption | rfl)) (by first | exact Wk.gr _ _ | exact Wk.nil | exact Wk.clip _ | exact Wk.tip _ _ _) | exact Wk.aggs (by repeat (first | exact Wks.nil | refine Wks.cons (by first | exact Wk.refl _ | exact Wk.nil | exact Wk.clip _ | exact Wk.tip _ _ _ | exact Wk.gr _ _ | exact Wk.nil_gr) ?_)) rfl) (by omega) (by first | ((simp only [Nat.zero_add, Nat.add_zero, Nat.reduceAdd, Nat.reduceMul, Int.toNat_natCast]) <;> rfl) | rfl)) (by have := he59; omega) (by have := he59; omega)) (h := ?_)
      (repeat refine gl (h := ?_))
      obtain rfl := some_inj hF
      (repeat refine gc (h := ?_))
      exact EndQ.fin (bs' := bs) (h := ⟨(by first | exact Wk.refl _ | exact (by first | exact Wk.refl _ | exact Wk.nil | exact Wk.clip _ | exact Wk.tip _ _ _ | exact Wk.opt _ _ (by first | assumption | rfl) | exact Wk.gr _ _ | exact Wk.nil_gr | exact Wk.trans (Wk.opt _ _ (by first | assumption | rfl)) (by first | exact Wk.gr _ _ | exact Wk.nil | exact Wk.clip _ | exact Wk.tip _ _ _) | exact Wk.aggs (by repeat (first | exact Wks.nil | refine Wks.cons (by first | exact Wk.refl _ | exact Wk.nil | exact Wk.clip _ | exact Wk.tip _ _ _ | exact Wk.gr _ _ | exact Wk.nil_gr) ?_)) rfl) | exact Wk.tups (by repeat (first | exact Wks.nil | refine Wks.cons (by first | exact Wk.refl _ | exact Wk.nil | exact Wk.clip _ | exact Wk.tip _ _ _ | exact Wk.opt _ _ (by first | assumption | rfl) | exact Wk.gr _ _ | exact Wk.nil_gr | exact Wk.trans (Wk.opt _ _ (by first | assumption | rfl)) (by first | exact Wk.gr _ _ | exact Wk.nil | exact Wk.clip _ | exact Wk.tip _ _ _) | exact Wk.aggs (by repeat (first | exact Wks.nil | refine Wks.cons (by first | exact Wk.refl _ | exact Wk.nil | exact Wk.clip _ | exact Wk.tip _ _ _ | exact Wk.gr _ _ | exact Wk.nil_gr) ?_)) rfl) ?_))), rfl⟩) (hs := (by repeat (first | exact List.Sublist.refl _ | apply List.Sublist.cons | apply Sl.gB)))
    · replace hF := cnd_f hc55 hF
      have hc55p := of_decide_eq_false hc55
      (repeat refine gc (h := ?_))
      (repeat refine gc (h := ?_))
      refine AW.region ?_
      (repeat refine gl (h := ?_))
      (repeat refine gc (h := ?_))
      refine AW.cond (b := (decide (a0 < 10))) rfl (fun hc64 => ?_) (fun hc64 => ?_)
      · replace hF := cnd_t hc64 hF
        have hc64p := of_decide_eq_true hc64
        (repeat refine gc (h := ?_))
        obtain ⟨he65, hF⟩ := ens hF
        obtain ⟨he66, hF⟩ := ens hF
        (repeat refine gc (h := ?_))
        refine AW.region ?_
        (repeat refine gl (h := ?_))
        try refine AL.s (hq := OpQ.part_str rfl (by first | exact Wk.refl _ | exact Wk.nil | exact Wk.clip _ | exact Wk.tip _ _ _ | exact Wk.opt _ _ (by first | assumption | rfl) | exact Wk.gr _ _ | exact Wk.nil_gr | exact Wk.trans (Wk.opt _ _ (by first | assumption | rfl)) (by first | exact Wk.gr _ _ | exact Wk.nil | exact Wk.clip _ | exact Wk.tip _ _ _) | exact Wk.aggs (by repeat (first | exact Wks.nil | refine Wks.cons (by first | exact Wk.refl _ | exact Wk.nil | exact Wk.clip _ | exact Wk.tip _ _ _ | exact Wk.gr _ _ | exact Wk.nil_gr) ?_)) rfl) (by first | exact Bnd.none _ | exact Bnd.some (by first | exact Wk.refl _ | exact Wk.nil | exact Wk.clip _ | exact Wk.tip _ _ _ | exact Wk.opt _ _ (by first | assumption | rfl) | exact Wk.gr _ _ | exact Wk.nil_gr | exact Wk.trans (Wk.opt _ _ (by first | assumption | rfl)) (by first | exact Wk.gr _ _ | exact Wk.nil | exact Wk.clip _ | exact Wk.tip _ _ _) | exact Wk.aggs (by repeat (first | exact Wks.nil | refine Wks.cons (by first | exact Wk.refl _ | exact Wk.nil | exact Wk.clip _ | exact Wk.tip _ _ _ | exact Wk.gr _ _ | exact Wk.nil_gr) ?_)) rfl) (by omega) (by first | ((simp only [Nat.zero_add, Nat.add_zero, Nat.reduceAdd, Nat.reduceMul, Int.toNat_natCast]) <;> rfl) | rfl)) (by first | exact Bnd.none _ | exact Bnd.some (by first | exact Wk.refl _ | exact Wk.nil | exact Wk.clip _ | exact Wk.tip _ _ _ | exact Wk.opt _ _ (by first | assumption | rfl) | exact Wk.gr _ _ | exact Wk.nil_gr | exact Wk.trans (Wk.opt _ _ (by first | assumption | rfl)) (by first | exact Wk.gr _ _ | exact Wk.nil | exact Wk.clip _ | exact Wk.tip _ _ _) | exact Wk.aggs (by repeat (first | exact Wks.nil | refine Wks.cons (by first | exact Wk.refl _ | exact Wk.nil | exact Wk.clip _ | exact Wk.tip _ _ _ | exact Wk.gr _ _ | exact Wk.nil_gr) ?_)) rfl) (by omega) (by first | ((simp only [Nat.zero_add, Nat.add_zero, Nat.reduceAdd, Nat.reduceMul, Int.toNat_natCast]) <;> rfl) | rfl)) (by have := he66; omega) (by have := he66; omega)) (h := ?_)
        (repeat refine gl (h := ?_))
        obtain rfl := some_inj hF
        (repeat refine gc (h := ?_))
        exact EndQ.fin (bs' := bs) (h := ⟨(by first | exact Wk.refl _ | exact (by first | exact Wk.refl _ | exact Wk.nil | exact Wk.clip _ | exact Wk.tip _ _ _ | exact Wk.opt _ _ (by first | assumption | rfl) | exact Wk.gr _ _ | exact Wk.nil_gr | exact Wk.trans (Wk.opt _ _ (by first | assumption | rfl)) (by first | exact Wk.gr _ _ | exact Wk.nil | exact Wk.clip _ | exact Wk.tip _ _ _) | exact Wk.aggs (by repeat (first | exact Wks.nil | refine Wks.cons (by first | exact Wk.refl _ | exact Wk.nil | exact Wk.clip _ | exact Wk.tip _ _ _ | exact Wk.gr _ _ | exact Wk.nil_gr) ?_)) rfl) | exact Wk.tups (by repeat (first | exact Wks.nil | refine Wks.cons (by first | exact Wk.refl _ | exact Wk.nil | exact Wk.clip _ | exact Wk.tip _ _ _ | exact Wk.opt _ _ (by first | assumption | rfl) | exact Wk.gr _ _ | exact Wk.nil_gr | exact Wk.trans (Wk.opt _ _ (by first | assumption | rfl)) (by first | exact Wk.gr _ _ | exact Wk.nil | exact Wk.clip _ | exact Wk.tip _ _ _) | exact Wk.aggs (by repeat (first | exact Wks.nil | refine Wks.cons (by first | exact Wk.refl _ | exact Wk.nil | exact Wk.clip _ | exact Wk.tip _ _ _ | exact Wk.gr _ _ | exact Wk.nil_gr) ?_)) rfl) ?_))), rfl⟩) (hs := (by repeat (first | exact List.Sublist.refl _ | apply List.Sublist.cons | apply Sl.gB)))
      · replace hF := cnd_f hc64 hF
        have hc64p := of_decide_eq_false hc64
        (repeat refine gc (h := ?_))
        obtain ⟨he67, hF⟩ := ens hF
        obtain ⟨x68, hc69, hF⟩ := bnd hF
        obtain ⟨he70, hF⟩ := ens hF
        obtain ⟨he71, hF⟩ := ens hF
        obtain ⟨he72, hF⟩ := ens hF
        obtain ⟨he73, hF⟩ := ens hF
        obtain ⟨he74, hF⟩ := ens hF
        (repeat refine gc (h := ?_))
        (repeat refine goD (h := ?_))
        refine ADl.call (ih_ hc69) (h := ?_)
        (repeat refine goD (h := ?_))
        try (first | refine ADl.f (hq := fun _ => OpQ.part_str rfl (by first | exact Wk.refl _ | exact Wk.nil | exact Wk.clip _ | exact Wk.tip _ _ _ | exact Wk.opt _ _ (by first | assumption | rfl) | exact Wk.gr _ _ | exact Wk.nil_gr | exact Wk.trans (Wk.opt _ _ (by first | assumption | rfl)) (by first | exact Wk.gr _ _ | exact Wk.nil | exact Wk.clip _ | exact Wk.tip _ _ _) | exact Wk.aggs (by repeat (first | exact Wks.nil | refine Wks.cons (by first | exact Wk.refl _ | exact Wk.nil | exact Wk.clip _ | exact Wk.tip _ _ _ | exact Wk.gr _ _ | exact Wk.nil_gr) ?_)) rfl) (by first | exact Bnd.none _ | exact Bnd.some (by first | exact Wk.refl _ | exact Wk.nil | exact Wk.clip _ | exact Wk.tip _ _ _ | exact Wk.opt _ _ (by first | assumption | rfl) | exact Wk.gr _ _ | exact Wk.nil_gr | exact Wk.trans (Wk.opt _ _ (by first | assumption | rfl)) (by first | exact Wk.gr _ _ | exact Wk.nil | exact Wk.clip _ | exact Wk.tip _ _ _) | exact Wk.aggs (by repeat (first | exact Wks.nil | refine Wks.cons (by first | exact Wk.refl _ | exact Wk.nil | exact Wk.clip _ | exact Wk.tip _ _ _ | exact Wk.gr _ _ | exact Wk.nil_gr) ?_)) rfl) (by omega) (by first | ((simp only [Nat.zero_add, Nat.add_zero, Nat.reduceAdd, Nat.reduceMul, Int.toNat_natCast]) <;> rfl) | rfl)) (by first | exact Bnd.none _ | exact Bnd.some (by first | exact Wk.refl _ | exact Wk.nil | exact Wk.clip _ | exact Wk.tip _ _ _ | exact Wk.opt _ _ (by first | assumption | rfl) | exact Wk.gr _ _ | exact Wk.nil_gr | exact Wk.trans (Wk.opt _ _ (by first | assumption | rfl)) (by first | exact Wk.gr _ _ | exact Wk.nil | exact Wk.clip _ | exact Wk.tip _ _ _) | exact Wk.aggs (by repeat (first | exact Wks.nil | refine Wks.cons (by first | exact Wk.refl _ | exact Wk.nil | exact Wk.clip _ | exact Wk.tip _ _ _ | exact Wk.gr _ _ | exact Wk.nil_gr) ?_)) rfl) (by omega) (by first | ((simp only [Nat.zero_add, Nat.add_zero, Nat.reduceAdd, Nat.reduceMul, Int.toNat_natCast]) <;> rfl) | rfl)) (by have := he73; omega) (by have := he73; omega)) (h := ?_) | refine ADl.b (hq := OpQ.part_str rfl (by first | exact Wk.refl _ | exact Wk.nil | exact Wk.clip _ | exact Wk.tip _ _ _ | exact Wk.opt _ _ (by first | assumption | rfl) | exact Wk.gr _ _ | exact Wk.nil_gr | exact Wk.trans (Wk.opt _ _ (by first | assumption | rfl)) (by first | exact Wk.gr _ _ | exact Wk.nil | exact Wk.clip _ | exact Wk.tip _ _ _) | exact Wk.aggs (by repeat (first | exact Wks.nil | refine Wks.cons (by first | exact Wk.refl _ | exact Wk.nil | exact Wk.clip _ | exact Wk.tip _ _ _ | exact Wk.gr _ _ | exact Wk.nil_gr) ?_)) rfl) (by first | exact Bnd.none _ | exact Bnd.some (by first | exact Wk.refl _ | exact Wk.nil | exact Wk.clip _ | exact Wk.tip _ _ _ | exact Wk.opt _ _ (by first | assumption | rfl) | exact Wk.gr _ _ | exact Wk.nil_gr | exact Wk.trans (Wk.opt _ _ (by first | assumption | rfl)) (by first | exact Wk.gr _ _ | exact Wk.nil | exact Wk.clip _ | exact Wk.tip _ _ _) | exact Wk.aggs (by repeat (first | exact Wks.nil | refine Wks.cons (by first | exact Wk.refl _ | exact Wk.nil | exact Wk.clip _ | exact Wk.tip _ _ _ | exact Wk.gr _ _ | exact Wk.nil_gr) ?_)) rfl) (by omega) (by first | ((simp only [Nat.zero_add, Nat.add_zero, Nat.reduceAdd, Nat.reduceMul, Int.toNat_natCast]) <;> rfl) | rfl)) (by first | exact Bnd.none _ | exact Bnd.some (by first | exact Wk.refl _ | exact Wk.nil | exact Wk.clip _ | exact Wk.tip _ _ _ | exact Wk.opt _ _ (by first | assumption | rfl) | exact Wk.gr _ _ | exact Wk.nil_gr | exact Wk.trans (Wk.opt _ _ (by first | assumption | rfl)) (by first | exact Wk.gr _ _ | exact Wk.nil | exact Wk.clip _ | exact Wk.tip _ _ _) | exact Wk.aggs (by repeat (first | exact Wks.nil | refine Wks.cons (by first | exact Wk.refl _ | exact Wk.nil | exact Wk.clip _ | exact Wk.tip _ _ _ | exact Wk.gr _ _ | exact Wk.nil_gr) ?_)) rfl) (by omega) (by first | ((simp only [Nat.zero_add, Nat.add_zero, Nat.reduceAdd, Nat.reduceMul, Int.toNat_natCast]) <;> rfl) | rfl)) (by have := he73; omega) (by have := he73; omega)) (h := ?_))
        (repeat refine goD (h := ?_))
        obtain rfl := some_inj hF
        (repeat refine gc (h := ?_))
        exact EndQ.fin (bs' := bs) (h := ⟨(by first | exact Wk.refl _ | exact (by first | exact Wk.refl _ | exact Wk.nil | exact Wk.clip _ | exact Wk.tip _ _ _ | exact Wk.opt _ _ (by first | assumption | rfl) | exact Wk.gr _ _ | exact Wk.nil_gr | exact Wk.trans (Wk.opt _ _ (by first | assumption | rfl)) (by first | exact Wk.gr _ _ | exact Wk.nil | exact Wk.clip _ | exact Wk.tip _ _ _) | exact Wk.aggs (by repeat (first | exact Wks.nil | refine Wks.cons (by first | exact Wk.refl _ | exact Wk.nil | exact Wk.clip _ | exact Wk.tip _ _ _ | exact Wk.gr _ _ | exact Wk.nil_gr) ?_)) rfl) | exact Wk.tups (by repeat (first | exact Wks.nil | refine Wks.cons (by first | exact Wk.refl _ | exact Wk.nil | exact Wk.clip _ | exact Wk.tip _ _ _ | exact Wk.opt _ _ (by first | assumption | rfl) | exact Wk.gr _ _ | exact Wk.nil_gr | exact Wk.trans (Wk.opt _ _ (by first | assumption | rfl)) (by first | exact Wk.gr _ _ | exact Wk.nil | exact Wk.clip _ | exact Wk.tip _ _ _) | exact Wk.aggs (by repeat (first | exact Wks.nil | refine Wks.cons (by first | exact Wk.refl _ | exact Wk.nil | exact Wk.clip _ | exact Wk.tip _ _ _ | exact Wk.gr _ _ | exact Wk.nil_gr) ?_)) rfl) ?_))), rfl⟩) (hs := (by repeat (first | exact List.Sublist.refl _ | apply List.Sublist.cons | apply Sl.gB)))
theorem c_law0_Digits_n : ∀ (n : Nat) (a0 : Int) (r : Txt) (hF : l_law0_Digits n a0 = some r), APure Try.prog 26 [iA a0] (sA r)
  | 0, _, _, hF => nomatch hF
  | n + 1, _, _, hF => c_law0_Digits_r (fun h => c_law0_Digits_n n _ _ h) hF
theorem c_law0_Digits {n : Nat} {a0 : Int} {r : Txt} (hF : l_law0_Digits n a0 = some r) : APure Try.prog 26 [iA a0] (sA r) := c_law0_Digits_n n _ _ hF

noncomputable def l_law0_Account (a0 : Int) : Option (Txt) :=
(l_law0_Digits 64 a0).bind fun x1 =>
(ensure ((⟨#[112, 97, 114, 116, 121]⟩ : Txt).size + x1.size ≤ 9223372036854775807)).bind fun _ =>
some ((⟨#[112, 97, 114, 116, 121]⟩ : Txt) ++ x1)
theorem c_law0_Account {a0 : Int} {r : Txt} (hF : l_law0_Account a0 = some r) : APure Try.prog 24 [iA a0] (sA r) := fun bs => by
  unfold l_law0_Account at hF
  refine ACalls.wk ?_
  refine ACalls.in_ Try.func24 Try.ntmps24 (h := ?_)
  (repeat refine gc (h := ?_))
  refine AW.region ?_
  (repeat refine gl (h := ?_))
  obtain ⟨x1, hc2, hF⟩ := bnd hF
  obtain ⟨he3, hF⟩ := ens hF
  (repeat refine gc (h := ?_))
  refine AW.region ?_
  (repeat refine gl (h := ?_))
  refine AL.call (c_law0_Digits hc2) (h := ?_)
  (repeat refine gl (h := ?_))
  obtain rfl := some_inj hF
  (repeat refine gc (h := ?_))
  exact EndQ.fin (bs' := bs) (h := ⟨(by first | exact Wk.refl _ | exact (by first | exact Wk.refl _ | exact Wk.nil | exact Wk.clip _ | exact Wk.tip _ _ _ | exact Wk.opt _ _ (by first | assumption | rfl) | exact Wk.gr _ _ | exact Wk.nil_gr | exact Wk.trans (Wk.opt _ _ (by first | assumption | rfl)) (by first | exact Wk.gr _ _ | exact Wk.nil | exact Wk.clip _ | exact Wk.tip _ _ _) | exact Wk.aggs (by repeat (first | exact Wks.nil | refine Wks.cons (by first | exact Wk.refl _ | exact Wk.nil | exact Wk.clip _ | exact Wk.tip _ _ _ | exact Wk.gr _ _ | exact Wk.nil_gr) ?_)) rfl) | exact Wk.tups (by repeat (first | exact Wks.nil | refine Wks.cons (by first | exact Wk.refl _ | exact Wk.nil | exact Wk.clip _ | exact Wk.tip _ _ _ | exact Wk.opt _ _ (by first | assumption | rfl) | exact Wk.gr _ _ | exact Wk.nil_gr | exact Wk.trans (Wk.opt _ _ (by first | assumption | rfl)) (by first | exact Wk.gr _ _ | exact Wk.nil | exact Wk.clip _ | exact Wk.tip _ _ _) | exact Wk.aggs (by repeat (first | exact Wks.nil | refine Wks.cons (by first | exact Wk.refl _ | exact Wk.nil | exact Wk.clip _ | exact Wk.tip _ _ _ | exact Wk.gr _ _ | exact Wk.nil_gr) ?_)) rfl) ?_))), rfl⟩) (hs := (by repeat (first | exact List.Sublist.refl _ | apply List.Sublist.cons | apply Sl.gB)))

noncomputable def l_law9_BankCaps_b0 (s25 : Int) (s26 : Int) (s27 : SBook) : Option ((Int × Int × SBook) ⊕ ((Int × Int × SBook) ⊕ Bool)) :=
cond (decide (s26 < 12)) (
(l_law0_Account s26).bind fun x40 =>
(l_bank_Open s27 x40).bind fun x42 =>
cond (x42.2 != 0) (
some (.inr (.inr false))) (
(ensure (-9223372036854775808 ≤ s26 + 1 ∧ s26 + 1 ≤ 9223372036854775807)).bind fun _ =>
some (.inl (x42.2, (s26 + 1), x42.1)))) (
some (.inr (.inl (s25, s26, s27))))
noncomputable def l_law9_BankCaps_b1 (x4 : Int) (x54 : Txt) (s136 : Int) (s137 : Int) (s138 : SBook) : Option ((Int × Int × SBook) ⊕ ((Int × Int × SBook) ⊕ Bool)) :=
(ensure (-9223372036854775808 ≤ 3 + x4 ∧ 3 + x4 ≤ 9223372036854775807)).bind fun _ =>
cond (decide (s137 < (3 + x4))) (
(l_law0_Digits 64 s137).bind fun x152 =>
(ensure ((⟨#[97, 115, 115, 101, 116]⟩ : Txt).size + x152.size ≤ 9223372036854775807)).bind fun _ =>
(l_bank_Give s138 x54 ((⟨#[97, 115, 115, 101, 116]⟩ : Txt) ++ x152) 1).bind fun x155 =>
cond (x155.2 != 0) (
some (.inr (.inr false))) (
(ensure (-9223372036854775808 ≤ s137 + 1 ∧ s137 + 1 ≤ 9223372036854775807)).bind fun _ =>
some (.inl (x155.2, (s137 + 1), x155.1)))) (
some (.inr (.inl (s136, s137, s138))))
noncomputable def l_law9_BankCaps (a0 : Int) (a1 : Int) : Option (Bool) :=
(l_bank_New 0).bind fun x1 =>
(l_law0_Place a1 2).bind fun x4 =>
Option.bind (loopF (τ := ((Int × Int × SBook) ⊕ Bool)) (fun s : Int × Int × SBook => l_law9_BankCaps_b0 s.1 s.2.1 s.2.2) (0, 0, x1)) fun oo28 => (match oo28 with
| .inl (e35, e36, e37) =>
(l_bank_Open e37 (⟨#[111, 116, 104, 101, 114]⟩ : Txt)).bind fun x46 =>
(l_bank_Open e37 (⟨#[48, 49, 50, 51, 52, 53, 54, 55, 56, 57, 48, 49, 50, 51, 52, 53, 54]⟩ : Txt)).bind fun x49 =>
cond ((x46.2 != 7) || (x49.2 != 1)) (
some false) (
(l_law0_Account 0).bind fun x54 =>
(l_law0_Place a0 2).bind fun x56 =>
cond (x56 == 0) (
Option.bind (loopF (τ := ((Int × Int × SBook) ⊕ Bool)) (fun s : Int × Int × SBook => l_law9_BankCaps_b1 x4 x54 s.1 s.2.1 s.2.2) (e35, 0, e37)) fun oo139 => (match oo139 with
| .inl (e146, e147, e148) =>
(l_bank_Give e148 x54 (⟨#[110, 101, 119]⟩ : Txt) 1).bind fun x159 =>
(l_bank_Give e148 x54 (⟨#[97, 115, 115, 101, 116, 48]⟩ : Txt) 1).bind fun x161 =>
(grd (((((x159.2 == 0) == (x4 == 0)) && ((x159.2 == 0) || (x159.2 == 7))) && (x161.2 == 0))) (l_law9_awake)).bind fun x163 =>
some (((((x159.2 == 0) == (x4 == 0)) && ((x159.2 == 0) || (x159.2 == 7))) && (x161.2 == 0)) && x163)
| .inr r144 => some r144)) (
(l_bank_Give e37 x54 (⟨#[103, 111, 108, 100]⟩ : Txt) 1125899906842623).bind fun x166 =>
(l_law0_Account 1).bind fun x168 =>
(ensure (-9223372036854775808 ≤ 1 + x4 ∧ 1 + x4 ≤ 9223372036854775807)).bind fun _ =>
(l_bank_Give x166.1 x168 (⟨#[103, 111, 108, 100]⟩ : Txt) (1 + x4)).bind fun x171 =>
(grd ((((x166.2 == 0) && ((x171.2 == 0) == (x4 == 0))) && ((x4 == 0) || (x171.2 == 3)))) (l_bank_Total x171.1 (⟨#[103, 111, 108, 100]⟩ : Txt))).bind fun x174 =>
(grd (((((x166.2 == 0) && ((x171.2 == 0) == (x4 == 0))) && ((x4 == 0) || (x171.2 == 3))) && (x174 == (IntKind.wrap .i64 (1125899906842624 - x4))))) (l_law9_awake)).bind fun x176 =>
some (((((x166.2 == 0) && ((x171.2 == 0) == (x4 == 0))) && ((x4 == 0) || (x171.2 == 3))) && (x174 == (IntKind.wrap .i64 (1125899906842624 - x4)))) && x176)))
| .inr r33 => some r33)
theorem c_law9_BankCaps {a0 : Int} {a1 : Int} {r : Bool} (hF : l_law9_BankCaps a0 a1 = some r) : APure Try.prog 4 [iA a0, iA a1] (bA r) := fun bs => by
  unfold l_law9_BankCaps at hF
  refine ACalls.wk ?_
  refine ACalls.in_ Try.func4 Try.ntmps4 (h := ?_)
  (repeat refine gc (h := ?_))
  refine AW.region ?_
  (repeat refine gl (h := ?_))
  obtain ⟨x1, hc2, hF⟩ := bnd hF
  (repeat refine gc (h := ?_))
  refine AW.region ?_
  (repeat refine gl (h := ?_))
  refine AL.call (c_bank_New hc2) (h := ?_)
  (repeat refine gl (h := ?_))
  intro g3
  (repeat refine gl (h := ?_))
  obtain ⟨x4, hc5, hF⟩ := bnd hF
  (repeat refine gc (h := ?_))
  refine AW.region ?_
  (repeat refine gl (h := ?_))
  refine AL.call (c_law0_Place hc5) (h := ?_)
  (repeat refine gl (h := ?_))
  (repeat refine gc (h := ?_))
  refine AW.region ?_
  (repeat refine gl (h := ?_))
  (repeat refine gc (h := ?_))
  refine AW.region ?_
  (repeat refine gl (h := ?_))
  obtain ⟨oo28, hL29, hO30⟩ := bnd hF
  (repeat refine gc (h := ?_))
  refine AW.join3_0 (fun (e35 : Int) (e36 : Int) (e37 : SBook) => [(0, iA a0), (1, iA a1), (4, bA false), (5, .ptr g3 0), (6, iA x4), (7, iA e35), (8, iA e36)]) (fun (e35 : Int) (e36 : Int) (e37 : SBook) => (g3, .cells [iA e37.Number, iA e37.Time, .sl (e37.Accounts.map strR), .sl (e37.Funds.map rFund), .sl (e37.Escrows.map rEscrow)]) :: bs) (fun (e35 : Int) (e36 : Int) (e37 : SBook) => oo28 = .inl (e35, e36, e37)) ?_ (fun e35 e36 e37 hs178 => ?_)
  · (repeat refine gc (h := ?_))
    refine AW.block ?_
    refine AW.loopF3_0 hL29 (fun (s25 : Int) (s26 : Int) (s27 : SBook) => [(0, iA a0), (1, iA a1), (4, bA false), (5, .ptr g3 0), (6, iA x4), (7, iA s25), (8, iA s26)]) (fun (s25 : Int) (s26 : Int) (s27 : SBook) => (g3, .cells [iA s27.Number, iA s27.Time, .sl (s27.Accounts.map strR), .sl (s27.Funds.map rFund), .sl (s27.Escrows.map rEscrow)]) :: bs) (fun (s25 : Int) (s26 : Int) (s27 : SBook) => True)  trivial (by repeat (first | exact Sub.nil | refine Sub.cons (k := ?_))) rfl (fun s25 s26 s27 v31 hp32 hF => ?_)
    replace hF : l_law9_BankCaps_b0 s25 s26 s27 = some v31 := hF
    unfold l_law9_BankCaps_b0 at hF
    (repeat refine gc (h := ?_))
    (repeat refine gc (h := ?_))
    refine AW.region ?_
    (repeat refine gl (h := ?_))
    (repeat refine gc (h := ?_))
    refine AW.cond (b := (decide (s26 < 12))) rfl (fun hc39 => ?_) (fun hc39 => ?_)
    · replace hF := cnd_t hc39 hF
      have hc39p := of_decide_eq_true hc39
      (repeat refine gc (h := ?_))
      (repeat refine gc (h := ?_))
      refine AW.block ?_
      obtain ⟨x40, hc41, hF⟩ := bnd hF
      obtain ⟨x42, hc43, hF⟩ := bnd hF
      (repeat refine gc (h := ?_))
      (repeat refine goE (h := ?_))
      refine ADl.call (c_law0_Account hc41) (h := ?_)
      (repeat refine goE (h := ?_))
      refine ADl.call (c_bank_Open hc43) (h := ?_)
      (repeat refine goE (h := ?_))
      (repeat refine gc (h := ?_))
      refine AW.region ?_
      (repeat refine gl (h := ?_))
      (repeat refine gc (h := ?_))
      refine AW.cond (b := (x42.2 != 0)) rfl (fun hc44 => ?_) (fun hc44 => ?_)
      · replace hF := cnd_t hc44 hF
        (repeat refine gc (h := ?_))
        (repeat refine gc (h := ?_))
        refine AW.region ?_
        (repeat refine gl (h := ?_))
        obtain rfl := some_inj hF
        (repeat refine gc (h := ?_))
        refine lpQ3_0.r _ rfl (fun ho34 => ?_)
        subst ho34
        replace hF := hO30
        (repeat refine gc (h := ?_))
        obtain rfl := some_inj hF
        (repeat refine gc (h := ?_))
        exact EndQ.fin (bs' := bs) (h := ⟨(by first | exact Wk.refl _ | exact (by first | exact Wk.refl _ | exact Wk.nil | exact Wk.clip _ | exact Wk.tip _ _ _ | exact Wk.opt _ _ (by first | assumption | rfl) | exact Wk.gr _ _ | exact Wk.nil_gr | exact Wk.trans (Wk.opt _ _ (by first | assumption | rfl)) (by first | exact Wk.gr _ _ | exact Wk.nil | exact Wk.clip _ | exact Wk.tip _ _ _) | exact Wk.aggs (by repeat (first | exact Wks.nil | refine Wks.cons (by first | exact Wk.refl _ | exact Wk.nil | exact Wk.clip _ | exact Wk.tip _ _ _ | exact Wk.gr _ _ | exact Wk.nil_gr) ?_)) rfl) | exact Wk.tups (by repeat (first | exact Wks.nil | refine Wks.cons (by first | exact Wk.refl _ | exact Wk.nil | exact Wk.clip _ | exact Wk.tip _ _ _ | exact Wk.opt _ _ (by first | assumption | rfl) | exact Wk.gr _ _ | exact Wk.nil_gr | exact Wk.trans (Wk.opt _ _ (by first | assumption | rfl)) (by first | exact Wk.gr _ _ | exact Wk.nil | exact Wk.clip _ | exact Wk.tip _ _ _) | exact Wk.aggs (by repeat (first | exact Wks.nil | refine Wks.cons (by first | exact Wk.refl _ | exact Wk.nil | exact Wk.clip _ | exact Wk.tip _ _ _ | exact Wk.gr _ _ | exact Wk.nil_gr) ?_)) rfl) ?_))), rfl⟩) (hs := (by repeat (first | exact List.Sublist.refl _ | apply List.Sublist.cons | apply Sl.gB)))
      · replace hF := cnd_f hc44 hF
        (repeat refine gc (h := ?_))
        obtain ⟨he45, hF⟩ := ens hF
        (repeat refine gc (h := ?_))
        refine AW.region ?_
        (repeat refine gl (h := ?_))
        (repeat refine gc (h := ?_))
        exact lpQ3_0.n x42.2 (s26 + 1) x42.1 (some_inj hF) trivial (by repeat (first | exact Sub.nil | refine Sub.cons (k := ?_))) (by repeat (first | exact List.Sublist.refl _ | apply List.Sublist.cons | apply Sl.gB))
    · replace hF := cnd_f hc39 hF
      have hc39p := of_decide_eq_false hc39
      (repeat refine gc (h := ?_))
      obtain rfl := some_inj hF
      (repeat refine gc (h := ?_))
      refine lpQ3_0.e _ rfl (fun ho34 => ?_)
      (repeat refine gc (h := ?_))
      exact jnQ3_0.n s25 s26 s27 ho34 (by repeat (first | exact Sub.nil | refine Sub.cons (k := ?_))) (by repeat (first | exact List.Sublist.refl _ | apply List.Sublist.cons | apply Sl.gB))
  · obtain rfl := hs178.symm
    replace hF := hO30
    try dsimp only at hF
    (repeat refine gc (h := ?_))
    obtain ⟨x46, hc47, hF⟩ := bnd hF
    (repeat refine gc (h := ?_))
    refine AW.region ?_
    (repeat refine gl (h := ?_))
    refine AL.call (c_bank_Open hc47) (h := ?_)
    (repeat refine gl (h := ?_))
    intro g48
    (repeat refine gl (h := ?_))
    obtain ⟨x49, hc50, hF⟩ := bnd hF
    (repeat refine gc (h := ?_))
    refine AW.region ?_
    (repeat refine gl (h := ?_))
    refine AL.call (c_bank_Open hc50) (h := ?_)
    (repeat refine gl (h := ?_))
    intro g51
    (repeat refine gl (h := ?_))
    (repeat refine gc (h := ?_))
    refine AW.region ?_
    (repeat refine gl (h := ?_))
    (repeat refine gc (h := ?_))
    refine AW.cond (b := ((x46.2 != 7) || (x49.2 != 1))) rfl (fun hc53 => ?_) (fun hc53 => ?_)
    · replace hF := cnd_t hc53 hF
      (repeat refine gc (h := ?_))
      (repeat refine gc (h := ?_))
      refine AW.region ?_
      (repeat refine gl (h := ?_))
      obtain rfl := some_inj hF
      (repeat refine gc (h := ?_))
      exact EndQ.fin (bs' := bs) (h := ⟨(by first | exact Wk.refl _ | exact (by first | exact Wk.refl _ | exact Wk.nil | exact Wk.clip _ | exact Wk.tip _ _ _ | exact Wk.opt _ _ (by first | assumption | rfl) | exact Wk.gr _ _ | exact Wk.nil_gr | exact Wk.trans (Wk.opt _ _ (by first | assumption | rfl)) (by first | exact Wk.gr _ _ | exact Wk.nil | exact Wk.clip _ | exact Wk.tip _ _ _) | exact Wk.aggs (by repeat (first | exact Wks.nil | refine Wks.cons (by first | exact Wk.refl _ | exact Wk.nil | exact Wk.clip _ | exact Wk.tip _ _ _ | exact Wk.gr _ _ | exact Wk.nil_gr) ?_)) rfl) | exact Wk.tups (by repeat (first | exact Wks.nil | refine Wks.cons (by first | exact Wk.refl _ | exact Wk.nil | exact Wk.clip _ | exact Wk.tip _ _ _ | exact Wk.opt _ _ (by first | assumption | rfl) | exact Wk.gr _ _ | exact Wk.nil_gr | exact Wk.trans (Wk.opt _ _ (by first | assumption | rfl)) (by first | exact Wk.gr _ _ | exact Wk.nil | exact Wk.clip _ | exact Wk.tip _ _ _) | exact Wk.aggs (by repeat (first | exact Wks.nil | refine Wks.cons (by first | exact Wk.refl _ | exact Wk.nil | exact Wk.clip _ | exact Wk.tip _ _ _ | exact Wk.gr _ _ | exact Wk.nil_gr) ?_)) rfl) ?_))), rfl⟩) (hs := (by repeat (first | exact List.Sublist.refl _ | apply List.Sublist.cons | apply Sl.gB)))
    · replace hF := cnd_f hc53 hF
      (repeat refine gc (h := ?_))
      obtain ⟨x54, hc55, hF⟩ := bnd hF
      (repeat refine gc (h := ?_))
      refine AW.region ?_
      (repeat refine gl (h := ?_))
      refine AL.call (c_law0_Account hc55) (h := ?_)
      (repeat refine gl (h := ?_))
      obtain ⟨x56, hc57, hF⟩ := bnd hF
      (repeat refine gc (h := ?_))
      refine AW.region ?_
      (repeat refine gl (h := ?_))
      refine AL.call (c_law0_Place hc57) (h := ?_)
      (repeat refine gl (h := ?_))
      (repeat refine gc (h := ?_))
      refine AW.cond (b := (x56 == 0)) rfl (fun hc112 => ?_) (fun hc112 => ?_)
      · replace hF := cnd_t hc112 hF
        (repeat refine gc (h := ?_))
        (repeat refine gc (h := ?_))
        refine AW.region ?_
        (repeat refine gl (h := ?_))
        obtain ⟨oo139, hL140, hO141⟩ := bnd hF
        (repeat refine gc (h := ?_))
        refine AW.join3_0 (fun (e146 : Int) (e147 : Int) (e148 : SBook) => [(0, iA a0), (1, iA a1), (4, bA false), (5, .ptr g3 0), (6, iA x4), (7, iA e146), (8, iA e36), (10, iA x46.2), (12, iA x49.2), (13, sA x54), (14, iA e147)]) (fun (e146 : Int) (e147 : Int) (e148 : SBook) => (g51, .cells [iA x49.1.Number, iA x49.1.Time, .sl (x49.1.Accounts.map strR), .sl (x49.1.Funds.map rFund), .sl (x49.1.Escrows.map rEscrow)]) :: (g48, .cells [iA x46.1.Number, iA x46.1.Time, .sl (x46.1.Accounts.map strR), .sl (x46.1.Funds.map rFund), .sl (x46.1.Escrows.map rEscrow)]) :: (g3, .cells [iA e148.Number, iA e148.Time, .sl (e148.Accounts.map strR), .sl (e148.Funds.map rFund), .sl (e148.Escrows.map rEscrow)]) :: bs) (fun (e146 : Int) (e147 : Int) (e148 : SBook) => oo139 = .inl (e146, e147, e148)) ?_ (fun e146 e147 e148 hs165 => ?_)
        · (repeat refine gc (h := ?_))
          refine AW.block ?_
          refine AW.loopF3_0 hL140 (fun (s136 : Int) (s137 : Int) (s138 : SBook) => [(0, iA a0), (1, iA a1), (4, bA false), (5, .ptr g3 0), (6, iA x4), (7, iA s136), (8, iA e36), (10, iA x46.2), (12, iA x49.2), (13, sA x54), (14, iA s137)]) (fun (s136 : Int) (s137 : Int) (s138 : SBook) => (g51, .cells [iA x49.1.Number, iA x49.1.Time, .sl (x49.1.Accounts.map strR), .sl (x49.1.Funds.map rFund), .sl (x49.1.Escrows.map rEscrow)]) :: (g48, .cells [iA x46.1.Number, iA x46.1.Time, .sl (x46.1.Accounts.map strR), .sl (x46.1.Funds.map rFund), .sl (x46.1.Escrows.map rEscrow)]) :: (g3, .cells [iA s138.Number, iA s138.Time, .sl (s138.Accounts.map strR), .sl (s138.Funds.map rFund), .sl (s138.Escrows.map rEscrow)]) :: bs) (fun (s136 : Int) (s137 : Int) (s138 : SBook) => True)  trivial (by repeat (first | exact Sub.nil | refine Sub.cons (k := ?_))) rfl (fun s136 s137 s138 v142 hp143 hF => ?_)
          replace hF : l_law9_BankCaps_b1 x4 x54 s136 s137 s138 = some v142 := hF
          unfold l_law9_BankCaps_b1 at hF
          (repeat refine gc (h := ?_))
          obtain ⟨he149, hF⟩ := ens hF
          (repeat refine gc (h := ?_))
          refine AW.region ?_
          (repeat refine gl (h := ?_))
          (repeat refine gc (h := ?_))
          refine AW.cond (b := (decide (s137 < (3 + x4)))) rfl (fun hc151 => ?_) (fun hc151 => ?_)
          · replace hF := cnd_t hc151 hF
            have hc151p := of_decide_eq_true hc151
            (repeat refine gc (h := ?_))
            (repeat refine gc (h := ?_))
            refine AW.block ?_
            obtain ⟨x152, hc153, hF⟩ := bnd hF
            obtain ⟨he154, hF⟩ := ens hF
            obtain ⟨x155, hc156, hF⟩ := bnd hF
            (repeat refine gc (h := ?_))
            (repeat refine goE (h := ?_))
            refine ADl.call (c_law0_Digits hc153) (h := ?_)
            (repeat refine goE (h := ?_))
            refine ADl.call (c_bank_Give hc156) (h := ?_)
            (repeat refine goE (h := ?_))
            (repeat refine gc (h := ?_))
            refine AW.region ?_
            (repeat refine gl (h := ?_))
            (repeat refine gc (h := ?_))
            refine AW.cond (b := (x155.2 != 0)) rfl (fun hc157 => ?_) (fun hc157 => ?_)
            · replace hF := cnd_t hc157 hF
              (repeat refine gc (h := ?_))
              (repeat refine gc (h := ?_))
              refine AW.region ?_
              (repeat refine gl (h := ?_))
              obtain rfl := some_inj hF
              (repeat refine gc (h := ?_))
              refine lpQ3_0.r _ rfl (fun ho145 => ?_)
              subst ho145
              replace hF := hO141
              (repeat refine gc (h := ?_))
              obtain rfl := some_inj hF
              (repeat refine gc (h := ?_))
              exact EndQ.fin (bs' := bs) (h := ⟨(by first | exact Wk.refl _ | exact (by first | exact Wk.refl _ | exact Wk.nil | exact Wk.clip _ | exact Wk.tip _ _ _ | exact Wk.opt _ _ (by first | assumption | rfl) | exact Wk.gr _ _ | exact Wk.nil_gr | exact Wk.trans (Wk.opt _ _ (by first | assumption | rfl)) (by first | exact Wk.gr _ _ | exact Wk.nil | exact Wk.clip _ | exact Wk.tip _ _ _) | exact Wk.aggs (by repeat (first | exact Wks.nil | refine Wks.cons (by first | exact Wk.refl _ | exact Wk.nil | exact Wk.clip _ | exact Wk.tip _ _ _ | exact Wk.gr _ _ | exact Wk.nil_gr) ?_)) rfl) | exact Wk.tups (by repeat (first | exact Wks.nil | refine Wks.cons (by first | exact Wk.refl _ | exact Wk.nil | exact Wk.clip _ | exact Wk.tip _ _ _ | exact Wk.opt _ _ (by first | assumption | rfl) | exact Wk.gr _ _ | exact Wk.nil_gr | exact Wk.trans (Wk.opt _ _ (by first | assumption | rfl)) (by first | exact Wk.gr _ _ | exact Wk.nil | exact Wk.clip _ | exact Wk.tip _ _ _) | exact Wk.aggs (by repeat (first | exact Wks.nil | refine Wks.cons (by first | exact Wk.refl _ | exact Wk.nil | exact Wk.clip _ | exact Wk.tip _ _ _ | exact Wk.gr _ _ | exact Wk.nil_gr) ?_)) rfl) ?_))), rfl⟩) (hs := (by repeat (first | exact List.Sublist.refl _ | apply List.Sublist.cons | apply Sl.gB)))
            · replace hF := cnd_f hc157 hF
              (repeat refine gc (h := ?_))
              obtain ⟨he158, hF⟩ := ens hF
              (repeat refine gc (h := ?_))
              refine AW.region ?_
              (repeat refine gl (h := ?_))
              (repeat refine gc (h := ?_))
              exact lpQ3_0.n x155.2 (s137 + 1) x155.1 (some_inj hF) trivial (by repeat (first | exact Sub.nil | refine Sub.cons (k := ?_))) (by repeat (first | exact List.Sublist.refl _ | apply List.Sublist.cons | apply Sl.gB))
          · replace hF := cnd_f hc151 hF
            have hc151p := of_decide_eq_false hc151
            (repeat refine gc (h := ?_))
            obtain rfl := some_inj hF
            (repeat refine gc (h := ?_))
            refine lpQ3_0.e _ rfl (fun ho145 => ?_)
            (repeat refine gc (h := ?_))
            exact jnQ3_0.n s136 s137 s138 ho145 (by repeat (first | exact Sub.nil | refine Sub.cons (k := ?_))) (by repeat (first | exact List.Sublist.refl _ | apply List.Sublist.cons | apply Sl.gB))
        · obtain rfl := hs165.symm
          replace hF := hO141
          try dsimp only at hF
          (repeat refine gc (h := ?_))
          obtain ⟨x159, hc160, hF⟩ := bnd hF
          (repeat refine gc (h := ?_))
          refine AW.region ?_
          (repeat refine gl (h := ?_))
          refine AL.call (c_bank_Give hc160) (h := ?_)
          (repeat refine gl (h := ?_))
          obtain ⟨x161, hc162, hF⟩ := bnd hF
          (repeat refine gc (h := ?_))
          refine AW.region ?_
          (repeat refine gl (h := ?_))
          refine AL.call (c_bank_Give hc162) (h := ?_)
          (repeat refine gl (h := ?_))
          obtain ⟨x163, hc164, hF⟩ := grd_b hF
          (repeat refine gc (h := ?_))
          refine AW.region ?_
          (repeat refine gl (h := ?_))
          try refine AL.gd (hq := fun hgb => OpQ.pick_or rfl (by first | exact Wk.refl _ | exact Wk.nil | exact Wk.clip _ | exact Wk.tip _ _ _ | exact Wk.opt _ _ (by first | assumption | rfl) | exact Wk.gr _ _ | exact Wk.nil_gr | exact Wk.trans (Wk.opt _ _ (by first | assumption | rfl)) (by first | exact Wk.gr _ _ | exact Wk.nil | exact Wk.clip _ | exact Wk.tip _ _ _) | exact Wk.aggs (by repeat (first | exact Wks.nil | refine Wks.cons (by first | exact Wk.refl _ | exact Wk.nil | exact Wk.clip _ | exact Wk.tip _ _ _ | exact Wk.gr _ _ | exact Wk.nil_gr) ?_)) rfl) rfl (fun hb => gbo hgb hb)) (h := ?_)
          (repeat refine gl (h := ?_))
          refine AL.gd (hq := fun hgb => OpQ.c (c_law9_awake (hc164 hgb))) (h := ?_)
          (repeat refine gl (h := ?_))
          obtain rfl := some_inj hF
          (repeat refine gc (h := ?_))
          exact EndQ.fin (bs' := bs) (h := ⟨(by first | exact Wk.refl _ | exact (by first | exact Wk.refl _ | exact Wk.nil | exact Wk.clip _ | exact Wk.tip _ _ _ | exact Wk.opt _ _ (by first | assumption | rfl) | exact Wk.gr _ _ | exact Wk.nil_gr | exact Wk.trans (Wk.opt _ _ (by first | assumption | rfl)) (by first | exact Wk.gr _ _ | exact Wk.nil | exact Wk.clip _ | exact Wk.tip _ _ _) | exact Wk.aggs (by repeat (first | exact Wks.nil | refine Wks.cons (by first | exact Wk.refl _ | exact Wk.nil | exact Wk.clip _ | exact Wk.tip _ _ _ | exact Wk.gr _ _ | exact Wk.nil_gr) ?_)) rfl) | exact Wk.tups (by repeat (first | exact Wks.nil | refine Wks.cons (by first | exact Wk.refl _ | exact Wk.nil | exact Wk.clip _ | exact Wk.tip _ _ _ | exact Wk.opt _ _ (by first | assumption | rfl) | exact Wk.gr _ _ | exact Wk.nil_gr | exact Wk.trans (Wk.opt _ _ (by first | assumption | rfl)) (by first | exact Wk.gr _ _ | exact Wk.nil | exact Wk.clip _ | exact Wk.tip _ _ _) | exact Wk.aggs (by repeat (first | exact Wks.nil | refine Wks.cons (by first | exact Wk.refl _ | exact Wk.nil | exact Wk.clip _ | exact Wk.tip _ _ _ | exact Wk.gr _ _ | exact Wk.nil_gr) ?_)) rfl) ?_))), rfl⟩) (hs := (by repeat (first | exact List.Sublist.refl _ | apply List.Sublist.cons | apply Sl.gB)))
      · replace hF := cnd_f hc112 hF
        (repeat refine gc (h := ?_))
        obtain ⟨x166, hc167, hF⟩ := bnd hF
        (repeat refine gc (h := ?_))
        refine AW.region ?_
        (repeat refine gl (h := ?_))
        refine AL.call (c_bank_Give hc167) (h := ?_)
        (repeat refine gl (h := ?_))
        obtain ⟨x168, hc169, hF⟩ := bnd hF
        obtain ⟨he170, hF⟩ := ens hF
        obtain ⟨x171, hc172, hF⟩ := bnd hF
        (repeat refine gc (h := ?_))
        (repeat refine goE (h := ?_))
        refine ADl.call (c_law0_Account hc169) (h := ?_)
        (repeat refine goE (h := ?_))
        refine ADl.call (c_bank_Give hc172) (h := ?_)
        (repeat refine goE (h := ?_))
        intro g173
        (repeat refine goE (h := ?_))
        obtain ⟨x174, hc175, hF⟩ := grd_b hF
        obtain ⟨x176, hc177, hF⟩ := grd_b hF
        (repeat refine gc (h := ?_))
        refine AW.region ?_
        show AL _ _ _ _ (_ :: _) _ _
        ((repeat (show AL _ _ _ _ (_ :: _) _ _; refine gl (h := ?_))); try show AL _ _ _ _ (_ :: _) _ _)
        try refine AL.gd (hq := fun hgb => OpQ.pick_or rfl (by first | exact Wk.refl _ | exact Wk.nil | exact Wk.clip _ | exact Wk.tip _ _ _ | exact Wk.opt _ _ (by first | assumption | rfl) | exact Wk.gr _ _ | exact Wk.nil_gr | exact Wk.trans (Wk.opt _ _ (by first | assumption | rfl)) (by first | exact Wk.gr _ _ | exact Wk.nil | exact Wk.clip _ | exact Wk.tip _ _ _) | exact Wk.aggs (by repeat (first | exact Wks.nil | refine Wks.cons (by first | exact Wk.refl _ | exact Wk.nil | exact Wk.clip _ | exact Wk.tip _ _ _ | exact Wk.gr _ _ | exact Wk.nil_gr) ?_)) rfl) rfl (fun hb => gbo hgb hb)) (h := ?_)
        ((repeat (show AL _ _ _ _ (_ :: _) _ _; refine gl (h := ?_))); try show AL _ _ _ _ (_ :: _) _ _)
        refine AL.gd (hq := fun hgb => OpQ.c (c_bank_Total (hc175 hgb))) (h := ?_)
        ((repeat (show AL _ _ _ _ (_ :: _) _ _; refine gl (h := ?_))); try show AL _ _ _ _ (_ :: _) _ _)
        refine AL.gd (hq := fun hgb => OpQ.c (c_law9_awake (hc177 hgb))) (h := ?_)
        ((repeat (show AL _ _ _ _ (_ :: _) _ _; refine gl (h := ?_))); try show AL _ _ _ _ (_ :: _) _ _)
        (repeat refine gl (h := ?_))
        obtain rfl := some_inj hF
        (repeat refine gc (h := ?_))
        exact EndQ.fin (bs' := bs) (h := ⟨(by first | exact Wk.refl _ | exact (by first | exact Wk.refl _ | exact Wk.nil | exact Wk.clip _ | exact Wk.tip _ _ _ | exact Wk.opt _ _ (by first | assumption | rfl) | exact Wk.gr _ _ | exact Wk.nil_gr | exact Wk.trans (Wk.opt _ _ (by first | assumption | rfl)) (by first | exact Wk.gr _ _ | exact Wk.nil | exact Wk.clip _ | exact Wk.tip _ _ _) | exact Wk.aggs (by repeat (first | exact Wks.nil | refine Wks.cons (by first | exact Wk.refl _ | exact Wk.nil | exact Wk.clip _ | exact Wk.tip _ _ _ | exact Wk.gr _ _ | exact Wk.nil_gr) ?_)) rfl) | exact Wk.tups (by repeat (first | exact Wks.nil | refine Wks.cons (by first | exact Wk.refl _ | exact Wk.nil | exact Wk.clip _ | exact Wk.tip _ _ _ | exact Wk.opt _ _ (by first | assumption | rfl) | exact Wk.gr _ _ | exact Wk.nil_gr | exact Wk.trans (Wk.opt _ _ (by first | assumption | rfl)) (by first | exact Wk.gr _ _ | exact Wk.nil | exact Wk.clip _ | exact Wk.tip _ _ _) | exact Wk.aggs (by repeat (first | exact Wks.nil | refine Wks.cons (by first | exact Wk.refl _ | exact Wk.nil | exact Wk.clip _ | exact Wk.tip _ _ _ | exact Wk.gr _ _ | exact Wk.nil_gr) ?_)) rfl) ?_))), rfl⟩) (hs := (by repeat (first | exact List.Sublist.refl _ | apply List.Sublist.cons | apply Sl.gB)))

end Go.Proofs.Ytnkkfmnpkgjabaa.X
