/- Lifted code. Printed by a program of this repo (lift.py). -/
import Derived.Test.YtnkkfmnpkgjabaaF4
import Derived.Test.YtnkkfmnpkgjabaaC9
namespace Go.Proofs.Ytnkkfmnpkgjabaa.X
open Go.RowKit
set_option linter.unusedVariables false
set_option linter.unusedSimpArgs false
set_option maxRecDepth 10000
set_option maxHeartbeats 4000000
structure Slaw09Op where
  Kind : Int
  Who : Txt
  Whom : Txt
  Asset : Txt
  Amount : Int
  deriving Inhabited
def rlaw09Op (x : Slaw09Op) : List A := [iA x.Kind, sA x.Who, sA x.Whom, sA x.Asset, iA x.Amount]
theorem rlaw09Op_len (x : Slaw09Op) : (rlaw09Op x).length = 5 := rfl
noncomputable def l_bank_Give (a0 : SBook) (a1 : Txt) (a2 : Txt) (a3 : Int) : Option (SBook × Int) :=
(l_bank_asks a0 a1 a2 a3).bind fun x3 =>
(x_assets a0).bind fun x5 =>
cond (x3 != 0) (
some (a0, x3)) (
(grd ((decide ((x5.length : Int) ≥ 4))) (l_slices_Contains_string_string x5 a2)).bind fun x24 =>
cond ((decide ((x5.length : Int) ≥ 4)) && (!x24)) (
some (a0, 7)) (
(l_bank_Total a0 a2).bind fun x32 =>
(ensure (-9223372036854775808 ≤ 1125899906842624 - a3 ∧ 1125899906842624 - a3 ≤ 9223372036854775807)).bind fun _ =>
cond (decide (x32 > (1125899906842624 - a3))) (
some (a0, 3)) (
(x_put a0 a1 a2 a3).bind fun x37 =>
some (x37, 0))))
theorem c_bank_Give {a0 : SBook} {a1 : Txt} {a2 : Txt} {a3 : Int} {r : SBook × Int} (hF : l_bank_Give a0 a1 a2 a3 = some r) : APure Try.prog 25 [.agg (rBook a0), sA a1, sA a2, iA a3] (.tup [.agg (rBook r.1), iA r.2]) := fun bs => by
  unfold l_bank_Give at hF
  refine ACalls.wk ?_
  refine ACalls.in_ Try.func25 Try.ntmps25 (h := ?_)
  (repeat refine gc (h := ?_))
  refine AW.region ?_
  (repeat refine gl (h := ?_))
  intro g1
  (repeat refine gl (h := ?_))
  intro g2
  (repeat refine gl (h := ?_))
  obtain ⟨x3, hc4, hF⟩ := bnd hF
  obtain ⟨x5, hc6, hF⟩ := bnd hF
  (repeat refine gc (h := ?_))
  (repeat refine goD (h := ?_))
  refine ADl.call (c_bank_asks hc4) (h := ?_)
  (repeat refine goD (h := ?_))
  refine ADl.call (c_x_assets hc6) (h := ?_)
  (repeat refine goD (h := ?_))
  (repeat refine gc (h := ?_))
  refine AW.block ?_
  (repeat refine gc (h := ?_))
  refine AW.region ?_
  (repeat refine gl (h := ?_))
  (repeat refine gc (h := ?_))
  refine AW.cond (b := (x3 != 0)) rfl (fun hc23 => ?_) (fun hc23 => ?_)
  · replace hF := cnd_t hc23 hF
    (repeat refine gc (h := ?_))
    (repeat refine gc (h := ?_))
    refine AW.region ?_
    (repeat refine gl (h := ?_))
    obtain rfl := some_inj hF
    (repeat refine gc (h := ?_))
    exact EndQ.fin (bs' := bs) (h := ⟨(by first | exact Wk.refl _ | exact (by first | exact Wk.refl _ | exact Wk.nil | exact Wk.clip _ | exact Wk.tip _ _ _ | exact Wk.opt _ _ (by first | assumption | rfl) | exact Wk.gr _ _ | exact Wk.nil_gr | exact Wk.trans (Wk.opt _ _ (by first | assumption | rfl)) (by first | exact Wk.gr _ _ | exact Wk.nil | exact Wk.clip _ | exact Wk.tip _ _ _) | exact Wk.aggs (by repeat (first | exact Wks.nil | refine Wks.cons (by first | exact Wk.refl _ | exact Wk.nil | exact Wk.clip _ | exact Wk.tip _ _ _ | exact Wk.gr _ _ | exact Wk.nil_gr) ?_)) rfl) | exact Wk.tups (by repeat (first | exact Wks.nil | refine Wks.cons (by first | exact Wk.refl _ | exact Wk.nil | exact Wk.clip _ | exact Wk.tip _ _ _ | exact Wk.opt _ _ (by first | assumption | rfl) | exact Wk.gr _ _ | exact Wk.nil_gr | exact Wk.trans (Wk.opt _ _ (by first | assumption | rfl)) (by first | exact Wk.gr _ _ | exact Wk.nil | exact Wk.clip _ | exact Wk.tip _ _ _) | exact Wk.aggs (by repeat (first | exact Wks.nil | refine Wks.cons (by first | exact Wk.refl _ | exact Wk.nil | exact Wk.clip _ | exact Wk.tip _ _ _ | exact Wk.gr _ _ | exact Wk.nil_gr) ?_)) rfl) ?_))), rfl⟩) (hs := (by repeat (first | exact List.Sublist.refl _ | apply List.Sublist.cons | apply Sl.gB)))
  · replace hF := cnd_f hc23 hF
    (repeat refine gc (h := ?_))
    obtain ⟨x24, hc25, hF⟩ := grd_b hF
    (repeat refine gc (h := ?_))
    refine AW.region ?_
    (repeat refine gl (h := ?_))
    refine AL.gd (hq := fun hgb => OpQ.c (c_slices_Contains_string_string (hc25 hgb))) (h := ?_)
    (repeat refine gl (h := ?_))
    (repeat refine gc (h := ?_))
    refine AW.cond (b := ((decide ((x5.length : Int) ≥ 4)) && (!x24))) rfl (fun hc31 => ?_) (fun hc31 => ?_)
    · replace hF := cnd_t hc31 hF
      (repeat refine gc (h := ?_))
      (repeat refine gc (h := ?_))
      refine AW.region ?_
      (repeat refine gl (h := ?_))
      obtain rfl := some_inj hF
      (repeat refine gc (h := ?_))
      exact EndQ.fin (bs' := bs) (h := ⟨(by first | exact Wk.refl _ | exact (by first | exact Wk.refl _ | exact Wk.nil | exact Wk.clip _ | exact Wk.tip _ _ _ | exact Wk.opt _ _ (by first | assumption | rfl) | exact Wk.gr _ _ | exact Wk.nil_gr | exact Wk.trans (Wk.opt _ _ (by first | assumption | rfl)) (by first | exact Wk.gr _ _ | exact Wk.nil | exact Wk.clip _ | exact Wk.tip _ _ _) | exact Wk.aggs (by repeat (first | exact Wks.nil | refine Wks.cons (by first | exact Wk.refl _ | exact Wk.nil | exact Wk.clip _ | exact Wk.tip _ _ _ | exact Wk.gr _ _ | exact Wk.nil_gr) ?_)) rfl) | exact Wk.tups (by repeat (first | exact Wks.nil | refine Wks.cons (by first | exact Wk.refl _ | exact Wk.nil | exact Wk.clip _ | exact Wk.tip _ _ _ | exact Wk.opt _ _ (by first | assumption | rfl) | exact Wk.gr _ _ | exact Wk.nil_gr | exact Wk.trans (Wk.opt _ _ (by first | assumption | rfl)) (by first | exact Wk.gr _ _ | exact Wk.nil | exact Wk.clip _ | exact Wk.tip _ _ _) | exact Wk.aggs (by repeat (first | exact Wks.nil | refine Wks.cons (by first | exact Wk.refl _ | exact Wk.nil | exact Wk.clip _ | exact Wk.tip _ _ _ | exact Wk.gr _ _ | exact Wk.nil_gr) ?_)) rfl) ?_))), rfl⟩) (hs := (by repeat (first | exact List.Sublist.refl _ | apply List.Sublist.cons | apply Sl.gB)))
    · replace hF := cnd_f hc31 hF
      (repeat refine gc (h := ?_))
      obtain ⟨x32, hc33, hF⟩ := bnd hF
      obtain ⟨he34, hF⟩ := ens hF
      (repeat refine gc (h := ?_))
      refine AW.region ?_
      (repeat refine gl (h := ?_))
      refine AL.call (c_bank_Total hc33) (h := ?_)
      (repeat refine gl (h := ?_))
      (repeat refine gc (h := ?_))
      refine AW.cond (b := (decide (x32 > (1125899906842624 - a3)))) rfl (fun hc36 => ?_) (fun hc36 => ?_)
      · replace hF := cnd_t hc36 hF
        have hc36p := of_decide_eq_true hc36
        (repeat refine gc (h := ?_))
        (repeat refine gc (h := ?_))
        refine AW.region ?_
        (repeat refine gl (h := ?_))
        obtain rfl := some_inj hF
        (repeat refine gc (h := ?_))
        exact EndQ.fin (bs' := bs) (h := ⟨(by first | exact Wk.refl _ | exact (by first | exact Wk.refl _ | exact Wk.nil | exact Wk.clip _ | exact Wk.tip _ _ _ | exact Wk.opt _ _ (by first | assumption | rfl) | exact Wk.gr _ _ | exact Wk.nil_gr | exact Wk.trans (Wk.opt _ _ (by first | assumption | rfl)) (by first | exact Wk.gr _ _ | exact Wk.nil | exact Wk.clip _ | exact Wk.tip _ _ _) | exact Wk.aggs (by repeat (first | exact Wks.nil | refine Wks.cons (by first | exact Wk.refl _ | exact Wk.nil | exact Wk.clip _ | exact Wk.tip _ _ _ | exact Wk.gr _ _ | exact Wk.nil_gr) ?_)) rfl) | exact Wk.tups (by repeat (first | exact Wks.nil | refine Wks.cons (by first | exact Wk.refl _ | exact Wk.nil | exact Wk.clip _ | exact Wk.tip _ _ _ | exact Wk.opt _ _ (by first | assumption | rfl) | exact Wk.gr _ _ | exact Wk.nil_gr | exact Wk.trans (Wk.opt _ _ (by first | assumption | rfl)) (by first | exact Wk.gr _ _ | exact Wk.nil | exact Wk.clip _ | exact Wk.tip _ _ _) | exact Wk.aggs (by repeat (first | exact Wks.nil | refine Wks.cons (by first | exact Wk.refl _ | exact Wk.nil | exact Wk.clip _ | exact Wk.tip _ _ _ | exact Wk.gr _ _ | exact Wk.nil_gr) ?_)) rfl) ?_))), rfl⟩) (hs := (by repeat (first | exact List.Sublist.refl _ | apply List.Sublist.cons | apply Sl.gB)))
      · replace hF := cnd_f hc36 hF
        have hc36p := of_decide_eq_false hc36
        (repeat refine gc (h := ?_))
        obtain ⟨x37, hc38, hF⟩ := bnd hF
        (repeat refine gc (h := ?_))
        refine AW.region ?_
        (repeat refine gl (h := ?_))
        refine AL.call (c_x_put hc38) (h := ?_)
        (repeat refine gl (h := ?_))
        obtain rfl := some_inj hF
        (repeat refine gc (h := ?_))
        exact EndQ.fin (bs' := bs) (h := ⟨(by first | exact Wk.refl _ | exact (by first | exact Wk.refl _ | exact Wk.nil | exact Wk.clip _ | exact Wk.tip _ _ _ | exact Wk.opt _ _ (by first | assumption | rfl) | exact Wk.gr _ _ | exact Wk.nil_gr | exact Wk.trans (Wk.opt _ _ (by first | assumption | rfl)) (by first | exact Wk.gr _ _ | exact Wk.nil | exact Wk.clip _ | exact Wk.tip _ _ _) | exact Wk.aggs (by repeat (first | exact Wks.nil | refine Wks.cons (by first | exact Wk.refl _ | exact Wk.nil | exact Wk.clip _ | exact Wk.tip _ _ _ | exact Wk.gr _ _ | exact Wk.nil_gr) ?_)) rfl) | exact Wk.tups (by repeat (first | exact Wks.nil | refine Wks.cons (by first | exact Wk.refl _ | exact Wk.nil | exact Wk.clip _ | exact Wk.tip _ _ _ | exact Wk.opt _ _ (by first | assumption | rfl) | exact Wk.gr _ _ | exact Wk.nil_gr | exact Wk.trans (Wk.opt _ _ (by first | assumption | rfl)) (by first | exact Wk.gr _ _ | exact Wk.nil | exact Wk.clip _ | exact Wk.tip _ _ _) | exact Wk.aggs (by repeat (first | exact Wks.nil | refine Wks.cons (by first | exact Wk.refl _ | exact Wk.nil | exact Wk.clip _ | exact Wk.tip _ _ _ | exact Wk.gr _ _ | exact Wk.nil_gr) ?_)) rfl) ?_))), rfl⟩) (hs := (by repeat (first | exact List.Sublist.refl _ | apply List.Sublist.cons | apply Sl.gB)))

noncomputable def l_law9_awake : Option (Bool) :=
(l_bank_New 1).bind fun x1 =>
(l_bank_Open x1 (⟨#[97]⟩ : Txt)).bind fun x3 =>
(l_bank_Give x3.1 (⟨#[97]⟩ : Txt) (⟨#[103, 111, 108, 100]⟩ : Txt) 5).bind fun x6 =>
(l_bank_Take x6.1 (⟨#[97]⟩ : Txt) (⟨#[103, 111, 108, 100]⟩ : Txt) 6).bind fun x9 =>
(l_bank_Balance x6.1 (⟨#[97]⟩ : Txt) (⟨#[103, 111, 108, 100]⟩ : Txt)).bind fun x12 =>
(grd ((((((((x3.2 == 0) && (x6.2 == 0)) && (x9.2 == 6)) && (x12.1 == 5)) && (x12.2 == 0)) && (x3.1.Number == 1)) && ((x3.1.Funds.length : Int) == 0))) (l_bank_Total x6.1 (⟨#[103, 111, 108, 100]⟩ : Txt))).bind fun x14 =>
some ((((((((x3.2 == 0) && (x6.2 == 0)) && (x9.2 == 6)) && (x12.1 == 5)) && (x12.2 == 0)) && (x3.1.Number == 1)) && ((x3.1.Funds.length : Int) == 0)) && (x14 == 5))
theorem c_law9_awake {r : Bool} (hF : l_law9_awake = some r) : APure Try.prog 27 [] (bA r) := fun bs => by
  unfold l_law9_awake at hF
  refine ACalls.wk ?_
  refine ACalls.in_ Try.func27 Try.ntmps27 (h := ?_)
  (repeat refine gc (h := ?_))
  refine AW.region ?_
  (repeat refine gl (h := ?_))
  obtain ⟨x1, hc2, hF⟩ := bnd hF
  obtain ⟨x3, hc4, hF⟩ := bnd hF
  (repeat refine gc (h := ?_))
  refine AW.region ?_
  (repeat refine gl (h := ?_))
  refine AL.call (c_bank_New hc2) (h := ?_)
  (repeat refine gl (h := ?_))
  refine AL.call (c_bank_Open hc4) (h := ?_)
  (repeat refine gl (h := ?_))
  intro g5
  (repeat refine gl (h := ?_))
  obtain ⟨x6, hc7, hF⟩ := bnd hF
  (repeat refine gc (h := ?_))
  refine AW.region ?_
  (repeat refine gl (h := ?_))
  refine AL.call (c_bank_Give hc7) (h := ?_)
  (repeat refine gl (h := ?_))
  intro g8
  (repeat refine gl (h := ?_))
  obtain ⟨x9, hc10, hF⟩ := bnd hF
  (repeat refine gc (h := ?_))
  refine AW.region ?_
  (repeat refine gl (h := ?_))
  refine AL.call (c_bank_Take hc10) (h := ?_)
  (repeat refine gl (h := ?_))
  intro g11
  (repeat refine gl (h := ?_))
  obtain ⟨x12, hc13, hF⟩ := bnd hF
  (repeat refine gc (h := ?_))
  refine AW.region ?_
  (repeat refine gl (h := ?_))
  refine AL.call (c_bank_Balance hc13) (h := ?_)
  (repeat refine gl (h := ?_))
  obtain ⟨x14, hc15, hF⟩ := grd_b hF
  (repeat refine gc (h := ?_))
  refine AW.region ?_
  show AL _ _ _ _ (_ :: _) _ _
  ((repeat (show AL _ _ _ _ (_ :: _) _ _; refine gl (h := ?_))); try show AL _ _ _ _ (_ :: _) _ _)
  refine AL.gd (hq := fun hgb => OpQ.c (c_bank_Total (hc15 hgb))) (h := ?_)
  ((repeat (show AL _ _ _ _ (_ :: _) _ _; refine gl (h := ?_))); try show AL _ _ _ _ (_ :: _) _ _)
  (repeat refine gl (h := ?_))
  obtain rfl := some_inj hF
  (repeat refine gc (h := ?_))
  exact EndQ.fin (bs' := bs) (h := ⟨(by first | exact Wk.refl _ | exact (by first | exact Wk.refl _ | exact Wk.nil | exact Wk.clip _ | exact Wk.tip _ _ _ | exact Wk.opt _ _ (by first | assumption | rfl) | exact Wk.gr _ _ | exact Wk.nil_gr | exact Wk.trans (Wk.opt _ _ (by first | assumption | rfl)) (by first | exact Wk.gr _ _ | exact Wk.nil | exact Wk.clip _ | exact Wk.tip _ _ _) | exact Wk.aggs (by repeat (first | exact Wks.nil | refine Wks.cons (by first | exact Wk.refl _ | exact Wk.nil | exact Wk.clip _ | exact Wk.tip _ _ _ | exact Wk.gr _ _ | exact Wk.nil_gr) ?_)) rfl) | exact Wk.tups (by repeat (first | exact Wks.nil | refine Wks.cons (by first | exact Wk.refl _ | exact Wk.nil | exact Wk.clip _ | exact Wk.tip _ _ _ | exact Wk.opt _ _ (by first | assumption | rfl) | exact Wk.gr _ _ | exact Wk.nil_gr | exact Wk.trans (Wk.opt _ _ (by first | assumption | rfl)) (by first | exact Wk.gr _ _ | exact Wk.nil | exact Wk.clip _ | exact Wk.tip _ _ _) | exact Wk.aggs (by repeat (first | exact Wks.nil | refine Wks.cons (by first | exact Wk.refl _ | exact Wk.nil | exact Wk.clip _ | exact Wk.tip _ _ _ | exact Wk.gr _ _ | exact Wk.nil_gr) ?_)) rfl) ?_))), rfl⟩) (hs := (by repeat (first | exact List.Sublist.refl _ | apply List.Sublist.cons | apply Sl.gB)))

noncomputable def l_law9_step (a0 : SBook) (a1 : SBook) (a2 : Slaw09Op) : Option (SBook × SBook × Bool) :=
(l_law0_Place a2.Kind 10).bind fun x8 =>
Option.bind (α := ((Int × Int × SBook × SBook) ⊕ (SBook × SBook × Bool))) (
cond (decide (x8 < 2)) (
(l_bank_Open a0 a2.Who).bind fun x67 =>
(l_ref9_Open a1 a2.Who).bind fun x69 =>
some (.inl (x67.2, x69.2, x69.1, x67.1))) (
cond (decide (x8 < 4)) (
(l_bank_Give a0 a2.Who a2.Asset a2.Amount).bind fun x72 =>
(l_ref9_Give a1 a2.Who a2.Asset a2.Amount).bind fun x74 =>
some (.inl (x72.2, x74.2, x74.1, x72.1))) (
cond (decide (x8 < 6)) (
(l_bank_Take a0 a2.Who a2.Asset a2.Amount).bind fun x77 =>
(l_ref9_Take a1 a2.Who a2.Asset a2.Amount).bind fun x79 =>
some (.inl (x77.2, x79.2, x79.1, x77.1))) (
cond (decide (x8 < 9)) (
(l_bank_Move a0 a2.Who a2.Whom a2.Asset a2.Amount).bind fun x82 =>
(l_ref9_Move a1 a2.Who a2.Whom a2.Asset a2.Amount).bind fun x84 =>
some (.inl (x82.2, x84.2, x84.1, x82.1))) (
(l_bank_Balance a0 a2.Who a2.Asset).bind fun x86 =>
(l_ref9_Balance a1 a2.Who a2.Asset).bind fun x88 =>
some (.inr (a0, a1, ((x86.1 == x88.1) && (x86.2 == x88.2))))))))) fun j62 => (match j62 with
| .inl (s58, s59, s60, s61) =>
(grd ((s58 == s59)) (l_ref9_Same s61 s60)).bind fun x90 =>
(grd (((s58 == s59) && x90)) (l_ref9_Same a0 a1)).bind fun x92 =>
(grd (((((s58 == s59) && x90) && x92) && (!(s58 == 0)))) (l_ref9_Same a0 s61)).bind fun x94 =>
(grd (((((s58 == s59) && x90) && x92) && ((s58 == 0) || x94))) (l_bank_Total s61 a2.Asset)).bind fun x96 =>
(grd (((((s58 == s59) && x90) && x92) && ((s58 == 0) || x94))) (l_ref9_Total s60 a2.Asset)).bind fun x98 =>
(grd ((((((s58 == s59) && x90) && x92) && ((s58 == 0) || x94)) && (x96 == x98))) (l_bank_Same a0 s61)).bind fun x100 =>
(grd ((((((s58 == s59) && x90) && x92) && ((s58 == 0) || x94)) && (x96 == x98))) (l_ref9_Same a1 s60)).bind fun x102 =>
some (s61, s60, ((((((s58 == s59) && x90) && x92) && ((s58 == 0) || x94)) && (x96 == x98)) && (x100 == x102)))
| .inr r65 => some r65)
theorem c_law9_step {a0 : SBook} {a1 : SBook} {a2 : Slaw09Op} {r : SBook × SBook × Bool} (hF : l_law9_step a0 a1 a2 = some r) : APure Try.prog 32 [.agg (rBook a0), .agg (rBook a1), .agg (rlaw09Op a2)] (.tup [.agg (rBook r.1), .agg (rBook r.2.1), bA r.2.2]) := fun bs => by
  unfold l_law9_step at hF
  refine ACalls.wk ?_
  refine ACalls.in_ Try.func32 Try.ntmps32 (h := ?_)
  (repeat refine gc (h := ?_))
  refine AW.region ?_
  (repeat refine gl (h := ?_))
  intro g1
  (repeat refine gl (h := ?_))
  intro g2
  (repeat refine gl (h := ?_))
  intro g3
  (repeat refine gl (h := ?_))
  intro g4
  (repeat refine gl (h := ?_))
  intro g5
  (repeat refine gl (h := ?_))
  (repeat refine gc (h := ?_))
  refine AW.region ?_
  (repeat refine gl (h := ?_))
  (repeat refine gc (h := ?_))
  refine AW.joinG2 (fun (g6 : Nat) (g7 : Nat) => [(0, .agg (rBook a0)), (1, .agg (rBook a1)), (2, .agg (rlaw09Op a2)), (3, .ptr g1 0), (4, .ptr g2 0), (5, .ptr g3 0), (6, .ptr g4 0), (7, .ptr g5 0), (8, bA false), (9, iA 0), (10, iA 0), (11, .ptr g6 0), (12, .ptr g7 0)]) (fun (g6 : Nat) (g7 : Nat) => (g7, .cells [iA a1.Number, iA a1.Time, .sl (a1.Accounts.map strR), .sl (a1.Funds.map rFund), .sl (a1.Escrows.map rEscrow)]) :: (g6, .cells [iA a0.Number, iA a0.Time, .sl (a0.Accounts.map strR), .sl (a0.Funds.map rFund), .sl (a0.Escrows.map rEscrow)]) :: (g5, .cells [iA 0, iA 0, .nil, .nil, .nil]) :: (g4, .cells [iA 0, iA 0, .nil, .nil, .nil]) :: (g3, .cells [iA a2.Kind, sA a2.Who, sA a2.Whom, sA a2.Asset, iA a2.Amount]) :: (g2, .cells [iA a1.Number, iA a1.Time, .sl (a1.Accounts.map strR), .sl (a1.Funds.map rFund), .sl (a1.Escrows.map rEscrow)]) :: (g1, .cells [iA a0.Number, iA a0.Time, .sl (a0.Accounts.map strR), .sl (a0.Funds.map rFund), .sl (a0.Escrows.map rEscrow)]) :: bs) ?_ (fun g6 g7 => ?_)
  · (repeat refine gc (h := ?_))
    (repeat refine goD (h := ?_))
    refine ADl.alloc2 (h1 := fun g6 g7 => ?_) (h2 := fun g6 g7 => ?_)
    all_goals ((repeat refine goD (h := ?_)))
    all_goals (first | (refine jnG2.nn g6 g7 (by repeat (first | exact Sub.nil | refine Sub.cons (k := ?_))) ⟨_, .refl _, ?_⟩; (repeat (first | exact List.Sublist.refl _ | apply List.Sublist.cons | apply Sl.gB)); done) | (refine jnG2.nn g6 g7 (by repeat (first | exact Sub.nil | refine Sub.cons (k := ?_))) ⟨_, .swap _ _ _, ?_⟩; (repeat (first | exact List.Sublist.refl _ | apply List.Sublist.cons | apply Sl.gB)); done))
  · obtain ⟨x8, hc9, hF⟩ := bnd hF
    (repeat refine gc (h := ?_))
    refine AW.region ?_
    (repeat refine gl (h := ?_))
    refine AL.call (c_law0_Place hc9) (h := ?_)
    (repeat refine gl (h := ?_))
    obtain ⟨j62, hF, hO63⟩ := bnd hF
    (repeat refine gc (h := ?_))
    refine AW.join4_0 (fun (s58 : Int) (s59 : Int) (s60 : SBook) (s61 : SBook) => [(0, .agg (rBook a0)), (1, .agg (rBook a1)), (2, .agg (rlaw09Op a2)), (3, .ptr g1 0), (4, .ptr g2 0), (5, .ptr g3 0), (6, .ptr g4 0), (7, .ptr g5 0), (8, bA false), (9, iA s58), (10, iA s59), (11, .ptr g6 0), (12, .ptr g7 0), (13, iA x8)]) (fun (s58 : Int) (s59 : Int) (s60 : SBook) (s61 : SBook) => (g7, .cells [iA s60.Number, iA s60.Time, .sl (s60.Accounts.map strR), .sl (s60.Funds.map rFund), .sl (s60.Escrows.map rEscrow)]) :: (g6, .cells [iA s61.Number, iA s61.Time, .sl (s61.Accounts.map strR), .sl (s61.Funds.map rFund), .sl (s61.Escrows.map rEscrow)]) :: (g5, .cells [iA 0, iA 0, .nil, .nil, .nil]) :: (g4, .cells [iA 0, iA 0, .nil, .nil, .nil]) :: (g3, .cells [iA a2.Kind, sA a2.Who, sA a2.Whom, sA a2.Asset, iA a2.Amount]) :: (g2, .cells [iA a1.Number, iA a1.Time, .sl (a1.Accounts.map strR), .sl (a1.Funds.map rFund), .sl (a1.Escrows.map rEscrow)]) :: (g1, .cells [iA a0.Number, iA a0.Time, .sl (a0.Accounts.map strR), .sl (a0.Funds.map rFund), .sl (a0.Escrows.map rEscrow)]) :: bs) (fun (s58 : Int) (s59 : Int) (s60 : SBook) (s61 : SBook) => j62 = .inl (s58, s59, s60, s61)) ?_ (fun s58 s59 s60 s61 hs64 => ?_)
    · (repeat refine gc (h := ?_))
      refine AW.block ?_
      (repeat refine gc (h := ?_))
      refine AW.region ?_
      (repeat refine gl (h := ?_))
      (repeat refine gc (h := ?_))
      refine AW.cond (b := (decide (x8 < 2))) rfl (fun hc66 => ?_) (fun hc66 => ?_)
      · replace hF := cnd_t hc66 hF
        have hc66p := of_decide_eq_true hc66
        (repeat refine gc (h := ?_))
        obtain ⟨x67, hc68, hF⟩ := bnd hF
        (repeat refine gc (h := ?_))
        refine AW.region ?_
        (repeat refine gl (h := ?_))
        refine AL.call (c_bank_Open hc68) (h := ?_)
        (repeat refine gl (h := ?_))
        obtain ⟨x69, hc70, hF⟩ := bnd hF
        (repeat refine gc (h := ?_))
        refine AW.region ?_
        (repeat refine gl (h := ?_))
        refine AL.call (c_ref9_Open hc70) (h := ?_)
        (repeat refine gl (h := ?_))
        (repeat refine gc (h := ?_))
        exact jnQ4_0.n x67.2 x69.2 x69.1 x67.1 (some_inj hF) (by repeat (first | exact Sub.nil | refine Sub.cons (k := ?_))) (by repeat (first | exact List.Sublist.refl _ | apply List.Sublist.cons | apply Sl.gB))
      · replace hF := cnd_f hc66 hF
        have hc66p := of_decide_eq_false hc66
        (repeat refine gc (h := ?_))
        (repeat refine gc (h := ?_))
        refine AW.region ?_
        (repeat refine gl (h := ?_))
        (repeat refine gc (h := ?_))
        refine AW.cond (b := (decide (x8 < 4))) rfl (fun hc71 => ?_) (fun hc71 => ?_)
        · replace hF := cnd_t hc71 hF
          have hc71p := of_decide_eq_true hc71
          (repeat refine gc (h := ?_))
          obtain ⟨x72, hc73, hF⟩ := bnd hF
          (repeat refine gc (h := ?_))
          refine AW.region ?_
          (repeat refine gl (h := ?_))
          refine AL.call (c_bank_Give hc73) (h := ?_)
          (repeat refine gl (h := ?_))
          obtain ⟨x74, hc75, hF⟩ := bnd hF
          (repeat refine gc (h := ?_))
          refine AW.region ?_
          (repeat refine gl (h := ?_))
          refine AL.call (c_ref9_Give hc75) (h := ?_)
          (repeat refine gl (h := ?_))
          (repeat refine gc (h := ?_))
          exact jnQ4_0.n x72.2 x74.2 x74.1 x72.1 (some_inj hF) (by repeat (first | exact Sub.nil | refine Sub.cons (k := ?_))) (by repeat (first | exact List.Sublist.refl _ | apply List.Sublist.cons | apply Sl.gB))
        · replace hF := cnd_f hc71 hF
          have hc71p := of_decide_eq_false hc71
          (repeat refine gc (h := ?_))
          (repeat refine gc (h := ?_))
          refine AW.region ?_
          (repeat refine gl (h := ?_))
          (repeat refine gc (h := ?_))
          refine AW.cond (b := (decide (x8 < 6))) rfl (fun hc76 => ?_) (fun hc76 => ?_)
          · replace hF := cnd_t hc76 hF
            have hc76p := of_decide_eq_true hc76
            (repeat refine gc (h := ?_))
            obtain ⟨x77, hc78, hF⟩ := bnd hF
            (repeat refine gc (h := ?_))
            refine AW.region ?_
            (repeat refine gl (h := ?_))
            refine AL.call (c_bank_Take hc78) (h := ?_)
            (repeat refine gl (h := ?_))
            obtain ⟨x79, hc80, hF⟩ := bnd hF
            (repeat refine gc (h := ?_))
            refine AW.region ?_
            (repeat refine gl (h := ?_))
            refine AL.call (c_ref9_Take hc80) (h := ?_)
            (repeat refine gl (h := ?_))
            (repeat refine gc (h := ?_))
            exact jnQ4_0.n x77.2 x79.2 x79.1 x77.1 (some_inj hF) (by repeat (first | exact Sub.nil | refine Sub.cons (k := ?_))) (by repeat (first | exact List.Sublist.refl _ | apply List.Sublist.cons | apply Sl.gB))
          · replace hF := cnd_f hc76 hF
            have hc76p := of_decide_eq_false hc76
            (repeat refine gc (h := ?_))
            (repeat refine gc (h := ?_))
            refine AW.region ?_
            (repeat refine gl (h := ?_))
            (repeat refine gc (h := ?_))
            refine AW.cond (b := (decide (x8 < 9))) rfl (fun hc81 => ?_) (fun hc81 => ?_)
            · replace hF := cnd_t hc81 hF
              have hc81p := of_decide_eq_true hc81
              (repeat refine gc (h := ?_))
              obtain ⟨x82, hc83, hF⟩ := bnd hF
              (repeat refine gc (h := ?_))
              refine AW.region ?_
              (repeat refine gl (h := ?_))
              refine AL.call (c_bank_Move hc83) (h := ?_)
              (repeat refine gl (h := ?_))
              obtain ⟨x84, hc85, hF⟩ := bnd hF
              (repeat refine gc (h := ?_))
              refine AW.region ?_
              (repeat refine gl (h := ?_))
              refine AL.call (c_ref9_Move hc85) (h := ?_)
              (repeat refine gl (h := ?_))
              (repeat refine gc (h := ?_))
              exact jnQ4_0.n x82.2 x84.2 x84.1 x82.1 (some_inj hF) (by repeat (first | exact Sub.nil | refine Sub.cons (k := ?_))) (by repeat (first | exact List.Sublist.refl _ | apply List.Sublist.cons | apply Sl.gB))
            · replace hF := cnd_f hc81 hF
              have hc81p := of_decide_eq_false hc81
              (repeat refine gc (h := ?_))
              obtain ⟨x86, hc87, hF⟩ := bnd hF
              (repeat refine gc (h := ?_))
              refine AW.region ?_
              (repeat refine gl (h := ?_))
              refine AL.call (c_bank_Balance hc87) (h := ?_)
              (repeat refine gl (h := ?_))
              obtain ⟨x88, hc89, hF⟩ := bnd hF
              (repeat refine gc (h := ?_))
              refine AW.region ?_
              (repeat refine gl (h := ?_))
              refine AL.call (c_ref9_Balance hc89) (h := ?_)
              (repeat refine gl (h := ?_))
              (repeat refine gc (h := ?_))
              (repeat refine goD (h := ?_))
              obtain rfl := some_inj hF
              replace hF := hO63
              (repeat refine gc (h := ?_))
              obtain rfl := some_inj hF
              (repeat refine gc (h := ?_))
              exact EndQ.fin (bs' := bs) (h := ⟨(by first | exact Wk.refl _ | exact (by first | exact Wk.refl _ | exact Wk.nil | exact Wk.clip _ | exact Wk.tip _ _ _ | exact Wk.opt _ _ (by first | assumption | rfl) | exact Wk.gr _ _ | exact Wk.nil_gr | exact Wk.trans (Wk.opt _ _ (by first | assumption | rfl)) (by first | exact Wk.gr _ _ | exact Wk.nil | exact Wk.clip _ | exact Wk.tip _ _ _) | exact Wk.aggs (by repeat (first | exact Wks.nil | refine Wks.cons (by first | exact Wk.refl _ | exact Wk.nil | exact Wk.clip _ | exact Wk.tip _ _ _ | exact Wk.gr _ _ | exact Wk.nil_gr) ?_)) rfl) | exact Wk.tups (by repeat (first | exact Wks.nil | refine Wks.cons (by first | exact Wk.refl _ | exact Wk.nil | exact Wk.clip _ | exact Wk.tip _ _ _ | exact Wk.opt _ _ (by first | assumption | rfl) | exact Wk.gr _ _ | exact Wk.nil_gr | exact Wk.trans (Wk.opt _ _ (by first | assumption | rfl)) (by first | exact Wk.gr _ _ | exact Wk.nil | exact Wk.clip _ | exact Wk.tip _ _ _) | exact Wk.aggs (by repeat (first | exact Wks.nil | refine Wks.cons (by first | exact Wk.refl _ | exact Wk.nil | exact Wk.clip _ | exact Wk.tip _ _ _ | exact Wk.gr _ _ | exact Wk.nil_gr) ?_)) rfl) ?_))), rfl⟩) (hs := (by repeat (first | exact List.Sublist.refl _ | apply List.Sublist.cons | apply Sl.gB)))
    · obtain rfl := hs64.symm
      replace hF := hO63
      try dsimp only at hF
      (repeat refine gc (h := ?_))
      obtain ⟨x90, hc91, hF⟩ := grd_b hF
      obtain ⟨x92, hc93, hF⟩ := grd_b hF
      obtain ⟨x94, hc95, hF⟩ := grd_b hF
      obtain ⟨x96, hc97, hF⟩ := grd_b hF
      obtain ⟨x98, hc99, hF⟩ := grd_b hF
      obtain ⟨x100, hc101, hF⟩ := grd_b hF
      obtain ⟨x102, hc103, hF⟩ := grd_b hF
      (repeat refine gc (h := ?_))
      refine ADl.in_ (h := ?_)
      show ADl _ _ _ _ _ _ (_ :: _) _ _ _
      ((repeat (show ADl _ _ _ _ _ _ (_ :: _) _ _ _; refine goD (h := ?_))); try show ADl _ _ _ _ _ _ (_ :: _) _ _ _)
      refine ADl.callg (fun hgb => c_ref9_Same (hc91 hgb)) (h := ?_)
      ((repeat (show ADl _ _ _ _ _ _ (_ :: _) _ _ _; refine goD (h := ?_))); try show ADl _ _ _ _ _ _ (_ :: _) _ _ _)
      refine ADl.callg (fun hgb => c_ref9_Same (hc93 hgb)) (h := ?_)
      ((repeat (show ADl _ _ _ _ _ _ (_ :: _) _ _ _; refine goD (h := ?_))); try show ADl _ _ _ _ _ _ (_ :: _) _ _ _)
      refine ADl.callg (fun hgb => c_ref9_Same (hc95 hgb)) (h := ?_)
      ((repeat (show ADl _ _ _ _ _ _ (_ :: _) _ _ _; refine goD (h := ?_))); try show ADl _ _ _ _ _ _ (_ :: _) _ _ _)
      try (first | refine ADl.fg (hq := fun _ hgb => OpQ.pick_or rfl (by first | exact Wk.refl _ | exact Wk.nil | exact Wk.clip _ | exact Wk.tip _ _ _ | exact Wk.opt _ _ (by first | assumption | rfl) | exact Wk.gr _ _ | exact Wk.nil_gr | exact Wk.trans (Wk.opt _ _ (by first | assumption | rfl)) (by first | exact Wk.gr _ _ | exact Wk.nil | exact Wk.clip _ | exact Wk.tip _ _ _) | exact Wk.aggs (by repeat (first | exact Wks.nil | refine Wks.cons (by first | exact Wk.refl _ | exact Wk.nil | exact Wk.clip _ | exact Wk.tip _ _ _ | exact Wk.gr _ _ | exact Wk.nil_gr) ?_)) rfl) rfl (fun hb => gbo hgb hb)) (h := ?_) | refine ADl.bg (hq := fun hgb => OpQ.pick_or rfl (by first | exact Wk.refl _ | exact Wk.nil | exact Wk.clip _ | exact Wk.tip _ _ _ | exact Wk.opt _ _ (by first | assumption | rfl) | exact Wk.gr _ _ | exact Wk.nil_gr | exact Wk.trans (Wk.opt _ _ (by first | assumption | rfl)) (by first | exact Wk.gr _ _ | exact Wk.nil | exact Wk.clip _ | exact Wk.tip _ _ _) | exact Wk.aggs (by repeat (first | exact Wks.nil | refine Wks.cons (by first | exact Wk.refl _ | exact Wk.nil | exact Wk.clip _ | exact Wk.tip _ _ _ | exact Wk.gr _ _ | exact Wk.nil_gr) ?_)) rfl) rfl (fun hb => gbo hgb hb)) (h := ?_))
      ((repeat (show ADl _ _ _ _ _ _ (_ :: _) _ _ _; refine goD (h := ?_))); try show ADl _ _ _ _ _ _ (_ :: _) _ _ _)
      refine ADl.callg (fun hgb => c_bank_Total (hc97 hgb)) (h := ?_)
      ((repeat (show ADl _ _ _ _ _ _ (_ :: _) _ _ _; refine goD (h := ?_))); try show ADl _ _ _ _ _ _ (_ :: _) _ _ _)
      refine ADl.callg (fun hgb => c_ref9_Total (hc99 hgb)) (h := ?_)
      ((repeat (show ADl _ _ _ _ _ _ (_ :: _) _ _ _; refine goD (h := ?_))); try show ADl _ _ _ _ _ _ (_ :: _) _ _ _)
      refine ADl.callg (fun hgb => c_bank_Same (hc101 hgb)) (h := ?_)
      ((repeat (show ADl _ _ _ _ _ _ (_ :: _) _ _ _; refine goD (h := ?_))); try show ADl _ _ _ _ _ _ (_ :: _) _ _ _)
      refine ADl.callg (fun hgb => c_ref9_Same (hc103 hgb)) (h := ?_)
      ((repeat (show ADl _ _ _ _ _ _ (_ :: _) _ _ _; refine goD (h := ?_))); try show ADl _ _ _ _ _ _ (_ :: _) _ _ _)
      (repeat refine goD (h := ?_))
      obtain rfl := some_inj hF
      (repeat refine gc (h := ?_))
      exact EndQ.fin (bs' := bs) (h := ⟨(by first | exact Wk.refl _ | exact (by first | exact Wk.refl _ | exact Wk.nil | exact Wk.clip _ | exact Wk.tip _ _ _ | exact Wk.opt _ _ (by first | assumption | rfl) | exact Wk.gr _ _ | exact Wk.nil_gr | exact Wk.trans (Wk.opt _ _ (by first | assumption | rfl)) (by first | exact Wk.gr _ _ | exact Wk.nil | exact Wk.clip _ | exact Wk.tip _ _ _) | exact Wk.aggs (by repeat (first | exact Wks.nil | refine Wks.cons (by first | exact Wk.refl _ | exact Wk.nil | exact Wk.clip _ | exact Wk.tip _ _ _ | exact Wk.gr _ _ | exact Wk.nil_gr) ?_)) rfl) | exact Wk.tups (by repeat (first | exact Wks.nil | refine Wks.cons (by first | exact Wk.refl _ | exact Wk.nil | exact Wk.clip _ | exact Wk.tip _ _ _ | exact Wk.opt _ _ (by first | assumption | rfl) | exact Wk.gr _ _ | exact Wk.nil_gr | exact Wk.trans (Wk.opt _ _ (by first | assumption | rfl)) (by first | exact Wk.gr _ _ | exact Wk.nil | exact Wk.clip _ | exact Wk.tip _ _ _) | exact Wk.aggs (by repeat (first | exact Wks.nil | refine Wks.cons (by first | exact Wk.refl _ | exact Wk.nil | exact Wk.clip _ | exact Wk.tip _ _ _ | exact Wk.gr _ _ | exact Wk.nil_gr) ?_)) rfl) ?_))), rfl⟩) (hs := (by repeat (first | exact List.Sublist.refl _ | apply List.Sublist.cons | apply Sl.gB)))

end Go.Proofs.Ytnkkfmnpkgjabaa.X
