/- Lifted code. Printed by a program of this repo (lift.py). -/
import Derived.Test.YtnkkfmnpkgjabaaF5
namespace Go.Proofs.Ytnkkfmnpkgjabaa.X
open Go.RowKit
set_option linter.unusedVariables false
set_option linter.unusedSimpArgs false
set_option maxRecDepth 10000
set_option maxHeartbeats 4000000

noncomputable def l_law9_BankPlays_b0 (a1 : List Slaw09Op) (s46 : Int) (s47 : SBook) (s48 : SBook) : Option ((Int × SBook × SBook) ⊕ ((Int × SBook × SBook) ⊕ Bool)) :=
cond ((decide (s46 < (a1.length : Int))) && (decide (s46 < 80))) (
(idxO a1 s46).bind fun x61 =>
cond (decide ((IntKind.wrap .i64 ((IntKind.wrap .i64 ((x61.Who.size : Int) + (x61.Whom.size : Int))) + (x61.Asset.size : Int))) > 100)) (
(l_law9_awake).bind fun x69 =>
some (.inr (.inr x69))) (
(l_law9_step s48 s47 x61).bind fun x71 =>
cond (!x71.2.2) (
some (.inr (.inr false))) (
some (.inl ((IntKind.wrap .i64 (s46 + 1)), x71.2.1, x71.1))))) (
some (.inr (.inl (s46, s47, s48))))
noncomputable def l_law9_BankPlays (a0 : Int) (a1 : List Slaw09Op) : Option (Bool) :=
(l_bank_New a0).bind fun x1 =>
(l_ref9_New a0).bind fun x3 =>
Option.bind (loopF (τ := ((Int × SBook × SBook) ⊕ Bool)) (fun s : Int × SBook × SBook => l_law9_BankPlays_b0 a1 s.1 s.2.1 s.2.2) (0, x3, x1)) fun oo49 => (match oo49 with
| .inl (e56, e57, e58) =>
(l_ref9_Same e58 e57).bind fun x77 =>
(grd (x77) (l_law9_awake)).bind fun x79 =>
some (x77 && x79)
| .inr r54 => some r54)
theorem c_law9_BankPlays {a0 : Int} {a1 : List Slaw09Op} {r : Bool} (hF : l_law9_BankPlays a0 a1 = some r) : APure Try.prog 6 [iA a0, .sl (a1.map rlaw09Op)] (bA r) := fun bs => by
  unfold l_law9_BankPlays at hF
  refine ACalls.wk ?_
  refine ACalls.in_ Try.func6 Try.ntmps6 (h := ?_)
  (repeat refine gc (h := ?_))
  refine AW.region ?_
  (repeat refine gl (h := ?_))
  obtain ⟨x1, hc2, hF⟩ := bnd hF
  obtain ⟨x3, hc4, hF⟩ := bnd hF
  (repeat refine gc (h := ?_))
  refine AW.region ?_
  (repeat refine gl (h := ?_))
  refine AL.call (c_bank_New hc2) (h := ?_)
  (repeat refine gl (h := ?_))
  refine AL.call (c_ref9_New hc4) (h := ?_)
  (repeat refine gl (h := ?_))
  intro g5
  (repeat refine gl (h := ?_))
  intro g6
  (repeat refine gl (h := ?_))
  (repeat refine gc (h := ?_))
  refine AW.region ?_
  (repeat refine gl (h := ?_))
  obtain ⟨oo49, hL50, hO51⟩ := bnd hF
  (repeat refine gc (h := ?_))
  refine AW.join3_0 (fun (e56 : Int) (e57 : SBook) (e58 : SBook) => [(0, iA a0), (1, .sl (a1.map rlaw09Op)), (4, bA false), (5, .ptr g5 0), (6, .ptr g6 0), (7, iA e56)]) (fun (e56 : Int) (e57 : SBook) (e58 : SBook) => (g6, .cells [iA e57.Number, iA e57.Time, .sl (e57.Accounts.map strR), .sl (e57.Funds.map rFund), .sl (e57.Escrows.map rEscrow)]) :: (g5, .cells [iA e58.Number, iA e58.Time, .sl (e58.Accounts.map strR), .sl (e58.Funds.map rFund), .sl (e58.Escrows.map rEscrow)]) :: bs) (fun (e56 : Int) (e57 : SBook) (e58 : SBook) => oo49 = .inl (e56, e57, e58)) ?_ (fun e56 e57 e58 hs81 => ?_)
  · (repeat refine gc (h := ?_))
    refine AW.block ?_
    refine AW.loopF3_0 hL50 (fun (s46 : Int) (s47 : SBook) (s48 : SBook) => [(0, iA a0), (1, .sl (a1.map rlaw09Op)), (4, bA false), (5, .ptr g5 0), (6, .ptr g6 0), (7, iA s46)]) (fun (s46 : Int) (s47 : SBook) (s48 : SBook) => (g6, .cells [iA s47.Number, iA s47.Time, .sl (s47.Accounts.map strR), .sl (s47.Funds.map rFund), .sl (s47.Escrows.map rEscrow)]) :: (g5, .cells [iA s48.Number, iA s48.Time, .sl (s48.Accounts.map strR), .sl (s48.Funds.map rFund), .sl (s48.Escrows.map rEscrow)]) :: bs) (fun (s46 : Int) (s47 : SBook) (s48 : SBook) => True)  trivial (by repeat (first | exact Sub.nil | refine Sub.cons (k := ?_))) rfl (fun s46 s47 s48 v52 hp53 hF => ?_)
    replace hF : l_law9_BankPlays_b0 a1 s46 s47 s48 = some v52 := hF
    unfold l_law9_BankPlays_b0 at hF
    (repeat refine gc (h := ?_))
    (repeat refine gc (h := ?_))
    refine AW.region ?_
    (repeat refine gl (h := ?_))
    (repeat refine gc (h := ?_))
    refine AW.cond (b := ((decide (s46 < (a1.length : Int))) && (decide (s46 < 80)))) rfl (fun hc60 => ?_) (fun hc60 => ?_)
    · replace hF := cnd_t hc60 hF
      (repeat refine gc (h := ?_))
      (repeat refine gc (h := ?_))
      refine AW.block ?_
      obtain ⟨x61, h62, h63, hF⟩ := idx_b hF
      (repeat refine gc (h := ?_))
      refine AW.region ?_
      (repeat refine gl (h := ?_))
      intro g64
      (repeat refine gl (h := ?_))
      (repeat refine gc (h := ?_))
      refine AW.region ?_
      (repeat refine gl (h := ?_))
      (repeat refine gc (h := ?_))
      refine AW.cond (b := (decide ((IntKind.wrap .i64 ((IntKind.wrap .i64 ((x61.Who.size : Int) + (x61.Whom.size : Int))) + (x61.Asset.size : Int))) > 100))) rfl (fun hc68 => ?_) (fun hc68 => ?_)
      · replace hF := cnd_t hc68 hF
        have hc68p := of_decide_eq_true hc68
        (repeat refine gc (h := ?_))
        obtain ⟨x69, hc70, hF⟩ := bnd hF
        (repeat refine gc (h := ?_))
        refine AW.region ?_
        (repeat refine gl (h := ?_))
        refine AL.call (c_law9_awake hc70) (h := ?_)
        (repeat refine gl (h := ?_))
        obtain rfl := some_inj hF
        (repeat refine gc (h := ?_))
        refine lpQ3_0.r _ rfl (fun ho55 => ?_)
        subst ho55
        replace hF := hO51
        (repeat refine gc (h := ?_))
        obtain rfl := some_inj hF
        (repeat refine gc (h := ?_))
        exact EndQ.fin (bs' := bs) (h := ⟨(by first | exact Wk.refl _ | exact (by first | exact Wk.refl _ | exact Wk.nil | exact Wk.clip _ | exact Wk.tip _ _ _ | exact Wk.opt _ _ (by first | assumption | rfl) | exact Wk.gr _ _ | exact Wk.nil_gr | exact Wk.trans (Wk.opt _ _ (by first | assumption | rfl)) (by first | exact Wk.gr _ _ | exact Wk.nil | exact Wk.clip _ | exact Wk.tip _ _ _) | exact Wk.aggs (by repeat (first | exact Wks.nil | refine Wks.cons (by first | exact Wk.refl _ | exact Wk.nil | exact Wk.clip _ | exact Wk.tip _ _ _ | exact Wk.gr _ _ | exact Wk.nil_gr) ?_)) rfl) | exact Wk.tups (by repeat (first | exact Wks.nil | refine Wks.cons (by first | exact Wk.refl _ | exact Wk.nil | exact Wk.clip _ | exact Wk.tip _ _ _ | exact Wk.opt _ _ (by first | assumption | rfl) | exact Wk.gr _ _ | exact Wk.nil_gr | exact Wk.trans (Wk.opt _ _ (by first | assumption | rfl)) (by first | exact Wk.gr _ _ | exact Wk.nil | exact Wk.clip _ | exact Wk.tip _ _ _) | exact Wk.aggs (by repeat (first | exact Wks.nil | refine Wks.cons (by first | exact Wk.refl _ | exact Wk.nil | exact Wk.clip _ | exact Wk.tip _ _ _ | exact Wk.gr _ _ | exact Wk.nil_gr) ?_)) rfl) ?_))), rfl⟩) (hs := (by repeat (first | exact List.Sublist.refl _ | apply List.Sublist.cons | apply Sl.gB)))
      · replace hF := cnd_f hc68 hF
        have hc68p := of_decide_eq_false hc68
        (repeat refine gc (h := ?_))
        obtain ⟨x71, hc72, hF⟩ := bnd hF
        (repeat refine gc (h := ?_))
        refine AW.region ?_
        (repeat refine gl (h := ?_))
        refine AL.call (c_law9_step hc72) (h := ?_)
        (repeat refine gl (h := ?_))
        intro g73
        (repeat refine gl (h := ?_))
        intro g74
        (repeat refine gl (h := ?_))
        (repeat refine gc (h := ?_))
        refine AW.region ?_
        (repeat refine gl (h := ?_))
        (repeat refine gc (h := ?_))
        refine AW.cond (b := (!x71.2.2)) rfl (fun hc76 => ?_) (fun hc76 => ?_)
        · replace hF := cnd_t hc76 hF
          (repeat refine gc (h := ?_))
          (repeat refine gc (h := ?_))
          refine AW.region ?_
          (repeat refine gl (h := ?_))
          obtain rfl := some_inj hF
          (repeat refine gc (h := ?_))
          refine lpQ3_0.r _ rfl (fun ho55 => ?_)
          subst ho55
          replace hF := hO51
          (repeat refine gc (h := ?_))
          obtain rfl := some_inj hF
          (repeat refine gc (h := ?_))
          exact EndQ.fin (bs' := bs) (h := ⟨(by first | exact Wk.refl _ | exact (by first | exact Wk.refl _ | exact Wk.nil | exact Wk.clip _ | exact Wk.tip _ _ _ | exact Wk.opt _ _ (by first | assumption | rfl) | exact Wk.gr _ _ | exact Wk.nil_gr | exact Wk.trans (Wk.opt _ _ (by first | assumption | rfl)) (by first | exact Wk.gr _ _ | exact Wk.nil | exact Wk.clip _ | exact Wk.tip _ _ _) | exact Wk.aggs (by repeat (first | exact Wks.nil | refine Wks.cons (by first | exact Wk.refl _ | exact Wk.nil | exact Wk.clip _ | exact Wk.tip _ _ _ | exact Wk.gr _ _ | exact Wk.nil_gr) ?_)) rfl) | exact Wk.tups (by repeat (first | exact Wks.nil | refine Wks.cons (by first | exact Wk.refl _ | exact Wk.nil | exact Wk.clip _ | exact Wk.tip _ _ _ | exact Wk.opt _ _ (by first | assumption | rfl) | exact Wk.gr _ _ | exact Wk.nil_gr | exact Wk.trans (Wk.opt _ _ (by first | assumption | rfl)) (by first | exact Wk.gr _ _ | exact Wk.nil | exact Wk.clip _ | exact Wk.tip _ _ _) | exact Wk.aggs (by repeat (first | exact Wks.nil | refine Wks.cons (by first | exact Wk.refl _ | exact Wk.nil | exact Wk.clip _ | exact Wk.tip _ _ _ | exact Wk.gr _ _ | exact Wk.nil_gr) ?_)) rfl) ?_))), rfl⟩) (hs := (by repeat (first | exact List.Sublist.refl _ | apply List.Sublist.cons | apply Sl.gB)))
        · replace hF := cnd_f hc76 hF
          (repeat refine gc (h := ?_))
          (repeat refine gc (h := ?_))
          (repeat refine goD (h := ?_))
          (repeat refine gc (h := ?_))
          refine AW.region ?_
          (repeat refine gl (h := ?_))
          (repeat refine gc (h := ?_))
          exact lpQ3_0.n (IntKind.wrap .i64 (s46 + 1)) x71.2.1 x71.1 (some_inj hF) trivial (by repeat (first | exact Sub.nil | refine Sub.cons (k := ?_))) (by repeat (first | exact List.Sublist.refl _ | apply List.Sublist.cons | apply Sl.gB))
    · replace hF := cnd_f hc60 hF
      (repeat refine gc (h := ?_))
      obtain rfl := some_inj hF
      (repeat refine gc (h := ?_))
      refine lpQ3_0.e _ rfl (fun ho55 => ?_)
      (repeat refine gc (h := ?_))
      exact jnQ3_0.n s46 s47 s48 ho55 (by repeat (first | exact Sub.nil | refine Sub.cons (k := ?_))) (by repeat (first | exact List.Sublist.refl _ | apply List.Sublist.cons | apply Sl.gB))
  · obtain rfl := hs81.symm
    replace hF := hO51
    try dsimp only at hF
    (repeat refine gc (h := ?_))
    obtain ⟨x77, hc78, hF⟩ := bnd hF
    obtain ⟨x79, hc80, hF⟩ := grd_b hF
    (repeat refine gc (h := ?_))
    refine AW.region ?_
    (repeat refine gl (h := ?_))
    refine AL.call (c_ref9_Same hc78) (h := ?_)
    (repeat refine gl (h := ?_))
    refine AL.gd (hq := fun hgb => OpQ.c (c_law9_awake (hc80 hgb))) (h := ?_)
    (repeat refine gl (h := ?_))
    obtain rfl := some_inj hF
    (repeat refine gc (h := ?_))
    exact EndQ.fin (bs' := bs) (h := ⟨(by first | exact Wk.refl _ | exact (by first | exact Wk.refl _ | exact Wk.nil | exact Wk.clip _ | exact Wk.tip _ _ _ | exact Wk.opt _ _ (by first | assumption | rfl) | exact Wk.gr _ _ | exact Wk.nil_gr | exact Wk.trans (Wk.opt _ _ (by first | assumption | rfl)) (by first | exact Wk.gr _ _ | exact Wk.nil | exact Wk.clip _ | exact Wk.tip _ _ _) | exact Wk.aggs (by repeat (first | exact Wks.nil | refine Wks.cons (by first | exact Wk.refl _ | exact Wk.nil | exact Wk.clip _ | exact Wk.tip _ _ _ | exact Wk.gr _ _ | exact Wk.nil_gr) ?_)) rfl) | exact Wk.tups (by repeat (first | exact Wks.nil | refine Wks.cons (by first | exact Wk.refl _ | exact Wk.nil | exact Wk.clip _ | exact Wk.tip _ _ _ | exact Wk.opt _ _ (by first | assumption | rfl) | exact Wk.gr _ _ | exact Wk.nil_gr | exact Wk.trans (Wk.opt _ _ (by first | assumption | rfl)) (by first | exact Wk.gr _ _ | exact Wk.nil | exact Wk.clip _ | exact Wk.tip _ _ _) | exact Wk.aggs (by repeat (first | exact Wks.nil | refine Wks.cons (by first | exact Wk.refl _ | exact Wk.nil | exact Wk.clip _ | exact Wk.tip _ _ _ | exact Wk.gr _ _ | exact Wk.nil_gr) ?_)) rfl) ?_))), rfl⟩) (hs := (by repeat (first | exact List.Sublist.refl _ | apply List.Sublist.cons | apply Sl.gB)))

end Go.Proofs.Ytnkkfmnpkgjabaa.X
