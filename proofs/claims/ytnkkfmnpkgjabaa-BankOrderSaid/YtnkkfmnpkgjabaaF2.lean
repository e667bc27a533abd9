/- Lifted code. Printed by a program of this repo (lift.py). -/
import Derived.Test.YtnkkfmnpkgjabaaF1
namespace Go.Proofs.Ytnkkfmnpkgjabaa.X
open Go.RowKit
set_option linter.unusedVariables false
set_option linter.unusedSimpArgs false
set_option maxRecDepth 10000
set_option maxHeartbeats 4000000
noncomputable def l_ref9_New (a0 : Int) : Option (SBook) :=
some (SBook.mk (min (max a0 0) 3) 0 [] [] [])
theorem c_ref9_New {a0 : Int} {r : SBook} (hF : l_ref9_New a0 = some r) : APure Try.prog 31 [iA a0] (.agg (rBook r)) := fun bs => by
  unfold l_ref9_New at hF
  refine ACalls.wk ?_
  refine ACalls.in_ Try.func31 Try.ntmps31 (h := ?_)
  (repeat refine gc (h := ?_))
  refine AW.region ?_
  (repeat refine gl (h := ?_))
  intro g1
  (repeat refine gl (h := ?_))
  (repeat refine gc (h := ?_))
  refine AW.region ?_
  (repeat refine gl (h := ?_))
  obtain rfl := some_inj hF
  (repeat refine gc (h := ?_))
  exact EndQ.fin (bs' := bs) (h := ⟨(by first | exact Wk.refl _ | exact (by first | exact Wk.refl _ | exact Wk.nil | exact Wk.clip _ | exact Wk.tip _ _ _ | exact Wk.opt _ _ (by first | assumption | rfl) | exact Wk.gr _ _ | exact Wk.nil_gr | exact Wk.trans (Wk.opt _ _ (by first | assumption | rfl)) (by first | exact Wk.gr _ _ | exact Wk.nil | exact Wk.clip _ | exact Wk.tip _ _ _) | exact Wk.aggs (by repeat (first | exact Wks.nil | refine Wks.cons (by first | exact Wk.refl _ | exact Wk.nil | exact Wk.clip _ | exact Wk.tip _ _ _ | exact Wk.gr _ _ | exact Wk.nil_gr) ?_)) rfl) | exact Wk.tups (by repeat (first | exact Wks.nil | refine Wks.cons (by first | exact Wk.refl _ | exact Wk.nil | exact Wk.clip _ | exact Wk.tip _ _ _ | exact Wk.opt _ _ (by first | assumption | rfl) | exact Wk.gr _ _ | exact Wk.nil_gr | exact Wk.trans (Wk.opt _ _ (by first | assumption | rfl)) (by first | exact Wk.gr _ _ | exact Wk.nil | exact Wk.clip _ | exact Wk.tip _ _ _) | exact Wk.aggs (by repeat (first | exact Wks.nil | refine Wks.cons (by first | exact Wk.refl _ | exact Wk.nil | exact Wk.clip _ | exact Wk.tip _ _ _ | exact Wk.gr _ _ | exact Wk.nil_gr) ?_)) rfl) ?_))), rfl⟩) (hs := (by repeat (first | exact List.Sublist.refl _ | apply List.Sublist.cons | apply Sl.gB)))

noncomputable def l_ref7_Same (a0 : SHashkey) (a1 : SHashkey) : Option (Bool) :=
(grd (((a0.Lock == a1.Lock) && (decide (a0.Secret = a1.Secret)))) (l_ref4_SameInts a0.Path a1.Path)).bind fun x3 =>
(grd ((((a0.Lock == a1.Lock) && (decide (a0.Secret = a1.Secret))) && x3)) (l_ref4_SameTexts a0.Sigs a1.Sigs)).bind fun x5 =>
some ((((a0.Lock == a1.Lock) && (decide (a0.Secret = a1.Secret))) && x3) && x5)
theorem c_ref7_Same {a0 : SHashkey} {a1 : SHashkey} {r : Bool} (hF : l_ref7_Same a0 a1 = some r) : APure Try.prog 77 [.agg (rHashkey a0), .agg (rHashkey a1)] (bA r) := fun bs => by
  unfold l_ref7_Same at hF
  refine ACalls.wk ?_
  refine ACalls.in_ Try.func77 Try.ntmps77 (h := ?_)
  (repeat refine gc (h := ?_))
  refine AW.region ?_
  (repeat refine gl (h := ?_))
  intro g1
  (repeat refine gl (h := ?_))
  intro g2
  (repeat refine gl (h := ?_))
  obtain ⟨x3, hc4, hF⟩ := grd_b hF
  obtain ⟨x5, hc6, hF⟩ := grd_b hF
  (repeat refine gc (h := ?_))
  refine AW.region ?_
  show AL _ _ _ _ (_ :: _) _ _
  ((repeat (show AL _ _ _ _ (_ :: _) _ _; refine gl (h := ?_))); try show AL _ _ _ _ (_ :: _) _ _)
  refine AL.gd (hq := fun hgb => OpQ.c (c_ref4_SameInts (hc4 hgb))) (h := ?_)
  ((repeat (show AL _ _ _ _ (_ :: _) _ _; refine gl (h := ?_))); try show AL _ _ _ _ (_ :: _) _ _)
  refine AL.gd (hq := fun hgb => OpQ.c (c_ref4_SameTexts (hc6 hgb))) (h := ?_)
  ((repeat (show AL _ _ _ _ (_ :: _) _ _; refine gl (h := ?_))); try show AL _ _ _ _ (_ :: _) _ _)
  (repeat refine gl (h := ?_))
  obtain rfl := some_inj hF
  (repeat refine gc (h := ?_))
  exact EndQ.fin (bs' := bs) (h := ⟨(by first | exact Wk.refl _ | exact (by first | exact Wk.refl _ | exact Wk.nil | exact Wk.clip _ | exact Wk.tip _ _ _ | exact Wk.opt _ _ (by first | assumption | rfl) | exact Wk.gr _ _ | exact Wk.nil_gr | exact Wk.trans (Wk.opt _ _ (by first | assumption | rfl)) (by first | exact Wk.gr _ _ | exact Wk.nil | exact Wk.clip _ | exact Wk.tip _ _ _) | exact Wk.aggs (by repeat (first | exact Wks.nil | refine Wks.cons (by first | exact Wk.refl _ | exact Wk.nil | exact Wk.clip _ | exact Wk.tip _ _ _ | exact Wk.gr _ _ | exact Wk.nil_gr) ?_)) rfl) | exact Wk.tups (by repeat (first | exact Wks.nil | refine Wks.cons (by first | exact Wk.refl _ | exact Wk.nil | exact Wk.clip _ | exact Wk.tip _ _ _ | exact Wk.opt _ _ (by first | assumption | rfl) | exact Wk.gr _ _ | exact Wk.nil_gr | exact Wk.trans (Wk.opt _ _ (by first | assumption | rfl)) (by first | exact Wk.gr _ _ | exact Wk.nil | exact Wk.clip _ | exact Wk.tip _ _ _) | exact Wk.aggs (by repeat (first | exact Wks.nil | refine Wks.cons (by first | exact Wk.refl _ | exact Wk.nil | exact Wk.clip _ | exact Wk.tip _ _ _ | exact Wk.gr _ _ | exact Wk.nil_gr) ?_)) rfl) ?_))), rfl⟩) (hs := (by repeat (first | exact List.Sublist.refl _ | apply List.Sublist.cons | apply Sl.gB)))

noncomputable def l_ref9_sameEscrow_b0 (a0 : SEscrow) (a1 : SEscrow) (s32 : Int) : Option ((Int) ⊕ (Int ⊕ Bool)) :=
cond (decide (s32 < (a0.Keys.length : Int))) (
(idxO a0.Keys s32).bind fun x43 =>
(idxO a1.Keys s32).bind fun x46 =>
(l_ref7_Same x43 x46).bind fun x49 =>
cond (!x49) (
some (.inr (.inr false))) (
(ensure (-9223372036854775808 ≤ s32 + 1 ∧ s32 + 1 ≤ 9223372036854775807)).bind fun _ =>
some (.inl (s32 + 1)))) (
some (.inr (.inl s32)))
noncomputable def l_ref9_sameEscrow (a0 : SEscrow) (a1 : SEscrow) : Option (Bool) :=
(l_ref4_Same a0.Spec a1.Spec).bind fun x3 =>
cond ((((!x3) || (a0.Arc != a1.Arc)) || (a0.State != a1.State)) || ((a0.Keys.length : Int) != (a1.Keys.length : Int))) (
some false) (
Option.bind (loopF (τ := (Int ⊕ Bool)) (fun s : Int => l_ref9_sameEscrow_b0 a0 a1 s) 0) fun oo33 => (match oo33 with
| .inl e40 =>
some true
| .inr r38 => some r38))
theorem c_ref9_sameEscrow {a0 : SEscrow} {a1 : SEscrow} {r : Bool} (hF : l_ref9_sameEscrow a0 a1 = some r) : APure Try.prog 53 [.agg (rEscrow a0), .agg (rEscrow a1)] (bA r) := fun bs => by
  unfold l_ref9_sameEscrow at hF
  refine ACalls.wk ?_
  refine ACalls.in_ Try.func53 Try.ntmps53 (h := ?_)
  (repeat refine gc (h := ?_))
  refine AW.region ?_
  (repeat refine gl (h := ?_))
  intro g1
  (repeat refine gl (h := ?_))
  intro g2
  (repeat refine gl (h := ?_))
  obtain ⟨x3, hc4, hF⟩ := bnd hF
  (repeat refine gc (h := ?_))
  refine AW.region ?_
  show AL _ _ _ _ (_ :: _) _ _
  ((repeat (show AL _ _ _ _ (_ :: _) _ _; refine gl (h := ?_))); try show AL _ _ _ _ (_ :: _) _ _)
  refine AL.call (c_ref4_Same hc4) (h := ?_)
  ((repeat (show AL _ _ _ _ (_ :: _) _ _; refine gl (h := ?_))); try show AL _ _ _ _ (_ :: _) _ _)
  (repeat refine gl (h := ?_))
  (repeat refine gc (h := ?_))
  refine AW.cond (b := ((((!x3) || (a0.Arc != a1.Arc)) || (a0.State != a1.State)) || ((a0.Keys.length : Int) != (a1.Keys.length : Int)))) rfl (fun hc6 => ?_) (fun hc6 => ?_)
  · replace hF := cnd_t hc6 hF
    (repeat refine gc (h := ?_))
    (repeat refine gc (h := ?_))
    refine AW.region ?_
    (repeat refine gl (h := ?_))
    obtain rfl := some_inj hF
    (repeat refine gc (h := ?_))
    exact EndQ.fin (bs' := bs) (h := ⟨(by first | exact Wk.refl _ | exact (by first | exact Wk.refl _ | exact Wk.nil | exact Wk.clip _ | exact Wk.tip _ _ _ | exact Wk.opt _ _ (by first | assumption | rfl) | exact Wk.gr _ _ | exact Wk.nil_gr | exact Wk.trans (Wk.opt _ _ (by first | assumption | rfl)) (by first | exact Wk.gr _ _ | exact Wk.nil | exact Wk.clip _ | exact Wk.tip _ _ _) | exact Wk.aggs (by repeat (first | exact Wks.nil | refine Wks.cons (by first | exact Wk.refl _ | exact Wk.nil | exact Wk.clip _ | exact Wk.tip _ _ _ | exact Wk.gr _ _ | exact Wk.nil_gr) ?_)) rfl) | exact Wk.tups (by repeat (first | exact Wks.nil | refine Wks.cons (by first | exact Wk.refl _ | exact Wk.nil | exact Wk.clip _ | exact Wk.tip _ _ _ | exact Wk.opt _ _ (by first | assumption | rfl) | exact Wk.gr _ _ | exact Wk.nil_gr | exact Wk.trans (Wk.opt _ _ (by first | assumption | rfl)) (by first | exact Wk.gr _ _ | exact Wk.nil | exact Wk.clip _ | exact Wk.tip _ _ _) | exact Wk.aggs (by repeat (first | exact Wks.nil | refine Wks.cons (by first | exact Wk.refl _ | exact Wk.nil | exact Wk.clip _ | exact Wk.tip _ _ _ | exact Wk.gr _ _ | exact Wk.nil_gr) ?_)) rfl) ?_))), rfl⟩) (hs := (by repeat (first | exact List.Sublist.refl _ | apply List.Sublist.cons | apply Sl.gB)))
  · replace hF := cnd_f hc6 hF
    (repeat refine gc (h := ?_))
    (repeat refine gc (h := ?_))
    refine AW.region ?_
    (repeat refine gl (h := ?_))
    obtain ⟨oo33, hL34, hO35⟩ := bnd hF
    (repeat refine gc (h := ?_))
    refine AW.join1_0 (fun (e40 : Int) => [(0, .agg (rEscrow a0)), (1, .agg (rEscrow a1)), (2, .ptr g1 0), (3, .ptr g2 0), (4, bA false), (5, iA e40)]) (fun (e40 : Int) => (g2, .cells [sA a1.Spec.ID, .sl (a1.Spec.Parties.map rParty), .sl (a1.Spec.Arcs.map rArc), .sl (a1.Spec.Leaders.map intR), .sl (a1.Spec.Locks.map strR), iA a1.Spec.Start, iA a1.Spec.Delta, iA a1.Arc, iA a1.State, .sl (a1.Keys.map rHashkey)]) :: (g1, .cells [sA a0.Spec.ID, .sl (a0.Spec.Parties.map rParty), .sl (a0.Spec.Arcs.map rArc), .sl (a0.Spec.Leaders.map intR), .sl (a0.Spec.Locks.map strR), iA a0.Spec.Start, iA a0.Spec.Delta, iA a0.Arc, iA a0.State, .sl (a0.Keys.map rHashkey)]) :: bs) (fun (e40 : Int) => oo33 = .inl e40) ?_ (fun e40 hs53 => ?_)
    · (repeat refine gc (h := ?_))
      refine AW.block ?_
      refine AW.loopF1_0 hL34 (fun (s32 : Int) => [(0, .agg (rEscrow a0)), (1, .agg (rEscrow a1)), (2, .ptr g1 0), (3, .ptr g2 0), (4, bA false), (5, iA s32)]) (fun (s32 : Int) => (g2, .cells [sA a1.Spec.ID, .sl (a1.Spec.Parties.map rParty), .sl (a1.Spec.Arcs.map rArc), .sl (a1.Spec.Leaders.map intR), .sl (a1.Spec.Locks.map strR), iA a1.Spec.Start, iA a1.Spec.Delta, iA a1.Arc, iA a1.State, .sl (a1.Keys.map rHashkey)]) :: (g1, .cells [sA a0.Spec.ID, .sl (a0.Spec.Parties.map rParty), .sl (a0.Spec.Arcs.map rArc), .sl (a0.Spec.Leaders.map intR), .sl (a0.Spec.Locks.map strR), iA a0.Spec.Start, iA a0.Spec.Delta, iA a0.Arc, iA a0.State, .sl (a0.Keys.map rHashkey)]) :: bs) (fun (s32 : Int) => True)  trivial (by repeat (first | exact Sub.nil | refine Sub.cons (k := ?_))) rfl (fun s32 v36 hp37 hF => ?_)
      replace hF : l_ref9_sameEscrow_b0 a0 a1 s32 = some v36 := hF
      unfold l_ref9_sameEscrow_b0 at hF
      (repeat refine gc (h := ?_))
      (repeat refine gc (h := ?_))
      refine AW.region ?_
      (repeat refine gl (h := ?_))
      (repeat refine gc (h := ?_))
      refine AW.cond (b := (decide (s32 < (a0.Keys.length : Int)))) rfl (fun hc42 => ?_) (fun hc42 => ?_)
      · replace hF := cnd_t hc42 hF
        have hc42p := of_decide_eq_true hc42
        (repeat refine gc (h := ?_))
        (repeat refine gc (h := ?_))
        refine AW.block ?_
        obtain ⟨x43, h44, h45, hF⟩ := idx_b hF
        obtain ⟨x46, h47, h48, hF⟩ := idx_b hF
        obtain ⟨x49, hc50, hF⟩ := bnd hF
        (repeat refine gc (h := ?_))
        (repeat refine goD (h := ?_))
        refine ADl.call (c_ref7_Same hc50) (h := ?_)
        (repeat refine goD (h := ?_))
        (repeat refine gc (h := ?_))
        refine AW.cond (b := (!x49)) rfl (fun hc51 => ?_) (fun hc51 => ?_)
        · replace hF := cnd_t hc51 hF
          (repeat refine gc (h := ?_))
          (repeat refine gc (h := ?_))
          refine AW.region ?_
          (repeat refine gl (h := ?_))
          obtain rfl := some_inj hF
          (repeat refine gc (h := ?_))
          refine lpQ1_0.r _ rfl (fun ho39 => ?_)
          subst ho39
          replace hF := hO35
          (repeat refine gc (h := ?_))
          obtain rfl := some_inj hF
          (repeat refine gc (h := ?_))
          exact EndQ.fin (bs' := bs) (h := ⟨(by first | exact Wk.refl _ | exact (by first | exact Wk.refl _ | exact Wk.nil | exact Wk.clip _ | exact Wk.tip _ _ _ | exact Wk.opt _ _ (by first | assumption | rfl) | exact Wk.gr _ _ | exact Wk.nil_gr | exact Wk.trans (Wk.opt _ _ (by first | assumption | rfl)) (by first | exact Wk.gr _ _ | exact Wk.nil | exact Wk.clip _ | exact Wk.tip _ _ _) | exact Wk.aggs (by repeat (first | exact Wks.nil | refine Wks.cons (by first | exact Wk.refl _ | exact Wk.nil | exact Wk.clip _ | exact Wk.tip _ _ _ | exact Wk.gr _ _ | exact Wk.nil_gr) ?_)) rfl) | exact Wk.tups (by repeat (first | exact Wks.nil | refine Wks.cons (by first | exact Wk.refl _ | exact Wk.nil | exact Wk.clip _ | exact Wk.tip _ _ _ | exact Wk.opt _ _ (by first | assumption | rfl) | exact Wk.gr _ _ | exact Wk.nil_gr | exact Wk.trans (Wk.opt _ _ (by first | assumption | rfl)) (by first | exact Wk.gr _ _ | exact Wk.nil | exact Wk.clip _ | exact Wk.tip _ _ _) | exact Wk.aggs (by repeat (first | exact Wks.nil | refine Wks.cons (by first | exact Wk.refl _ | exact Wk.nil | exact Wk.clip _ | exact Wk.tip _ _ _ | exact Wk.gr _ _ | exact Wk.nil_gr) ?_)) rfl) ?_))), rfl⟩) (hs := (by repeat (first | exact List.Sublist.refl _ | apply List.Sublist.cons | apply Sl.gB)))
        · replace hF := cnd_f hc51 hF
          (repeat refine gc (h := ?_))
          obtain ⟨he52, hF⟩ := ens hF
          (repeat refine gc (h := ?_))
          refine AW.region ?_
          (repeat refine gl (h := ?_))
          (repeat refine gc (h := ?_))
          exact lpQ1_0.n (s32 + 1) (some_inj hF) trivial (by repeat (first | exact Sub.nil | refine Sub.cons (k := ?_))) (by repeat (first | exact List.Sublist.refl _ | apply List.Sublist.cons | apply Sl.gB))
      · replace hF := cnd_f hc42 hF
        have hc42p := of_decide_eq_false hc42
        (repeat refine gc (h := ?_))
        obtain rfl := some_inj hF
        (repeat refine gc (h := ?_))
        refine lpQ1_0.e _ rfl (fun ho39 => ?_)
        (repeat refine gc (h := ?_))
        exact jnQ1_0.n s32 ho39 (by repeat (first | exact Sub.nil | refine Sub.cons (k := ?_))) (by repeat (first | exact List.Sublist.refl _ | apply List.Sublist.cons | apply Sl.gB))
    · obtain rfl := hs53.symm
      replace hF := hO35
      try dsimp only at hF
      (repeat refine gc (h := ?_))
      (repeat refine gc (h := ?_))
      refine AW.region ?_
      (repeat refine gl (h := ?_))
      obtain rfl := some_inj hF
      (repeat refine gc (h := ?_))
      exact EndQ.fin (bs' := bs) (h := ⟨(by first | exact Wk.refl _ | exact (by first | exact Wk.refl _ | exact Wk.nil | exact Wk.clip _ | exact Wk.tip _ _ _ | exact Wk.opt _ _ (by first | assumption | rfl) | exact Wk.gr _ _ | exact Wk.nil_gr | exact Wk.trans (Wk.opt _ _ (by first | assumption | rfl)) (by first | exact Wk.gr _ _ | exact Wk.nil | exact Wk.clip _ | exact Wk.tip _ _ _) | exact Wk.aggs (by repeat (first | exact Wks.nil | refine Wks.cons (by first | exact Wk.refl _ | exact Wk.nil | exact Wk.clip _ | exact Wk.tip _ _ _ | exact Wk.gr _ _ | exact Wk.nil_gr) ?_)) rfl) | exact Wk.tups (by repeat (first | exact Wks.nil | refine Wks.cons (by first | exact Wk.refl _ | exact Wk.nil | exact Wk.clip _ | exact Wk.tip _ _ _ | exact Wk.opt _ _ (by first | assumption | rfl) | exact Wk.gr _ _ | exact Wk.nil_gr | exact Wk.trans (Wk.opt _ _ (by first | assumption | rfl)) (by first | exact Wk.gr _ _ | exact Wk.nil | exact Wk.clip _ | exact Wk.tip _ _ _) | exact Wk.aggs (by repeat (first | exact Wks.nil | refine Wks.cons (by first | exact Wk.refl _ | exact Wk.nil | exact Wk.clip _ | exact Wk.tip _ _ _ | exact Wk.gr _ _ | exact Wk.nil_gr) ?_)) rfl) ?_))), rfl⟩) (hs := (by repeat (first | exact List.Sublist.refl _ | apply List.Sublist.cons | apply Sl.gB)))

noncomputable def l_ref9_Same_b0 (a0 : SBook) (a1 : SBook) (s32 : Int) : Option ((Int) ⊕ (Int ⊕ Bool)) :=
cond (decide (s32 < (a0.Funds.length : Int))) (
(idxO a0.Funds s32).bind fun x43 =>
(idxO a1.Funds s32).bind fun x46 =>
cond (((!decide (x43.Account = x46.Account)) || (!decide (x43.Asset = x46.Asset))) || (x43.Amount != x46.Amount)) (
some (.inr (.inr false))) (
(ensure (-9223372036854775808 ≤ s32 + 1 ∧ s32 + 1 ≤ 9223372036854775807)).bind fun _ =>
some (.inl (s32 + 1)))) (
some (.inr (.inl s32)))
noncomputable def l_ref9_Same_b1 (a0 : SBook) (a1 : SBook) (s78 : Int) : Option ((Int) ⊕ (Int ⊕ Bool)) :=
cond (decide (s78 < (a0.Escrows.length : Int))) (
(idxO a0.Escrows s78).bind fun x89 =>
(idxO a1.Escrows s78).bind fun x92 =>
(l_ref9_sameEscrow x89 x92).bind fun x95 =>
cond (!x95) (
some (.inr (.inr false))) (
(ensure (-9223372036854775808 ≤ s78 + 1 ∧ s78 + 1 ≤ 9223372036854775807)).bind fun _ =>
some (.inl (s78 + 1)))) (
some (.inr (.inl s78)))
noncomputable def l_ref9_Same (a0 : SBook) (a1 : SBook) : Option (Bool) :=
(grd ((!((a0.Number != a1.Number) || (a0.Time != a1.Time)))) (l_ref4_SameTexts a0.Accounts a1.Accounts)).bind fun x3 =>
cond (((((a0.Number != a1.Number) || (a0.Time != a1.Time)) || (!x3)) || ((a0.Funds.length : Int) != (a1.Funds.length : Int))) || ((a0.Escrows.length : Int) != (a1.Escrows.length : Int))) (
some false) (
Option.bind (loopF (τ := (Int ⊕ Bool)) (fun s : Int => l_ref9_Same_b0 a0 a1 s) 0) fun oo33 => (match oo33 with
| .inl e40 =>
Option.bind (loopF (τ := (Int ⊕ Bool)) (fun s : Int => l_ref9_Same_b1 a0 a1 s) 0) fun oo79 => (match oo79 with
| .inl e86 =>
some true
| .inr r84 => some r84)
| .inr r38 => some r38))
theorem c_ref9_Same {a0 : SBook} {a1 : SBook} {r : Bool} (hF : l_ref9_Same a0 a1 = some r) : APure Try.prog 33 [.agg (rBook a0), .agg (rBook a1)] (bA r) := fun bs => by
  unfold l_ref9_Same at hF
  refine ACalls.wk ?_
  refine ACalls.in_ Try.func33 Try.ntmps33 (h := ?_)
  (repeat refine gc (h := ?_))
  refine AW.region ?_
  (repeat refine gl (h := ?_))
  intro g1
  (repeat refine gl (h := ?_))
  intro g2
  (repeat refine gl (h := ?_))
  obtain ⟨x3, hc4, hF⟩ := grd_b hF
  (repeat refine gc (h := ?_))
  refine AW.region ?_
  show AL _ _ _ _ (_ :: _) _ _
  ((repeat (show AL _ _ _ _ (_ :: _) _ _; refine gl (h := ?_))); try show AL _ _ _ _ (_ :: _) _ _)
  refine AL.gd (hq := fun hgb => OpQ.c (c_ref4_SameTexts (hc4 hgb))) (h := ?_)
  ((repeat (show AL _ _ _ _ (_ :: _) _ _; refine gl (h := ?_))); try show AL _ _ _ _ (_ :: _) _ _)
  (repeat refine gl (h := ?_))
  (repeat refine gc (h := ?_))
  refine AW.cond (b := (((((a0.Number != a1.Number) || (a0.Time != a1.Time)) || (!x3)) || ((a0.Funds.length : Int) != (a1.Funds.length : Int))) || ((a0.Escrows.length : Int) != (a1.Escrows.length : Int)))) rfl (fun hc6 => ?_) (fun hc6 => ?_)
  · replace hF := cnd_t hc6 hF
    (repeat refine gc (h := ?_))
    (repeat refine gc (h := ?_))
    refine AW.region ?_
    (repeat refine gl (h := ?_))
    obtain rfl := some_inj hF
    (repeat refine gc (h := ?_))
    exact EndQ.fin (bs' := bs) (h := ⟨(by first | exact Wk.refl _ | exact (by first | exact Wk.refl _ | exact Wk.nil | exact Wk.clip _ | exact Wk.tip _ _ _ | exact Wk.opt _ _ (by first | assumption | rfl) | exact Wk.gr _ _ | exact Wk.nil_gr | exact Wk.trans (Wk.opt _ _ (by first | assumption | rfl)) (by first | exact Wk.gr _ _ | exact Wk.nil | exact Wk.clip _ | exact Wk.tip _ _ _) | exact Wk.aggs (by repeat (first | exact Wks.nil | refine Wks.cons (by first | exact Wk.refl _ | exact Wk.nil | exact Wk.clip _ | exact Wk.tip _ _ _ | exact Wk.gr _ _ | exact Wk.nil_gr) ?_)) rfl) | exact Wk.tups (by repeat (first | exact Wks.nil | refine Wks.cons (by first | exact Wk.refl _ | exact Wk.nil | exact Wk.clip _ | exact Wk.tip _ _ _ | exact Wk.opt _ _ (by first | assumption | rfl) | exact Wk.gr _ _ | exact Wk.nil_gr | exact Wk.trans (Wk.opt _ _ (by first | assumption | rfl)) (by first | exact Wk.gr _ _ | exact Wk.nil | exact Wk.clip _ | exact Wk.tip _ _ _) | exact Wk.aggs (by repeat (first | exact Wks.nil | refine Wks.cons (by first | exact Wk.refl _ | exact Wk.nil | exact Wk.clip _ | exact Wk.tip _ _ _ | exact Wk.gr _ _ | exact Wk.nil_gr) ?_)) rfl) ?_))), rfl⟩) (hs := (by repeat (first | exact List.Sublist.refl _ | apply List.Sublist.cons | apply Sl.gB)))
  · replace hF := cnd_f hc6 hF
    (repeat refine gc (h := ?_))
    (repeat refine gc (h := ?_))
    refine AW.region ?_
    (repeat refine gl (h := ?_))
    obtain ⟨oo33, hL34, hO35⟩ := bnd hF
    (repeat refine gc (h := ?_))
    refine AW.join1_0 (fun (e40 : Int) => [(0, .agg (rBook a0)), (1, .agg (rBook a1)), (2, .ptr g1 0), (3, .ptr g2 0), (4, bA false), (5, iA e40)]) (fun (e40 : Int) => (g2, .cells [iA a1.Number, iA a1.Time, .sl (a1.Accounts.map strR), .sl (a1.Funds.map rFund), .sl (a1.Escrows.map rEscrow)]) :: (g1, .cells [iA a0.Number, iA a0.Time, .sl (a0.Accounts.map strR), .sl (a0.Funds.map rFund), .sl (a0.Escrows.map rEscrow)]) :: bs) (fun (e40 : Int) => oo33 = .inl e40) ?_ (fun e40 hs100 => ?_)
    · (repeat refine gc (h := ?_))
      refine AW.block ?_
      refine AW.loopF1_0 hL34 (fun (s32 : Int) => [(0, .agg (rBook a0)), (1, .agg (rBook a1)), (2, .ptr g1 0), (3, .ptr g2 0), (4, bA false), (5, iA s32)]) (fun (s32 : Int) => (g2, .cells [iA a1.Number, iA a1.Time, .sl (a1.Accounts.map strR), .sl (a1.Funds.map rFund), .sl (a1.Escrows.map rEscrow)]) :: (g1, .cells [iA a0.Number, iA a0.Time, .sl (a0.Accounts.map strR), .sl (a0.Funds.map rFund), .sl (a0.Escrows.map rEscrow)]) :: bs) (fun (s32 : Int) => True)  trivial (by repeat (first | exact Sub.nil | refine Sub.cons (k := ?_))) rfl (fun s32 v36 hp37 hF => ?_)
      replace hF : l_ref9_Same_b0 a0 a1 s32 = some v36 := hF
      unfold l_ref9_Same_b0 at hF
      (repeat refine gc (h := ?_))
      (repeat refine gc (h := ?_))
      refine AW.region ?_
      (repeat refine gl (h := ?_))
      (repeat refine gc (h := ?_))
      refine AW.cond (b := (decide (s32 < (a0.Funds.length : Int)))) rfl (fun hc42 => ?_) (fun hc42 => ?_)
      · replace hF := cnd_t hc42 hF
        have hc42p := of_decide_eq_true hc42
        (repeat refine gc (h := ?_))
        (repeat refine gc (h := ?_))
        refine AW.block ?_
        obtain ⟨x43, h44, h45, hF⟩ := idx_b hF
        obtain ⟨x46, h47, h48, hF⟩ := idx_b hF
        (repeat refine gc (h := ?_))
        refine AW.joinG2 (fun (g49 : Nat) (g50 : Nat) => [(0, .agg (rBook a0)), (1, .agg (rBook a1)), (2, .ptr g1 0), (3, .ptr g2 0), (4, bA false), (5, iA s32), (6, .ptr g49 0), (7, .ptr g50 0)]) (fun (g49 : Nat) (g50 : Nat) => (g50, .cells [sA x46.Account, sA x46.Asset, iA x46.Amount]) :: (g49, .cells [sA x43.Account, sA x43.Asset, iA x43.Amount]) :: (g2, .cells [iA a1.Number, iA a1.Time, .sl (a1.Accounts.map strR), .sl (a1.Funds.map rFund), .sl (a1.Escrows.map rEscrow)]) :: (g1, .cells [iA a0.Number, iA a0.Time, .sl (a0.Accounts.map strR), .sl (a0.Funds.map rFund), .sl (a0.Escrows.map rEscrow)]) :: bs) ?_ (fun g49 g50 => ?_)
        · (repeat refine gc (h := ?_))
          (repeat refine goD (h := ?_))
          refine ADl.alloc2 (h1 := fun g49 g50 => ?_) (h2 := fun g49 g50 => ?_)
          all_goals ((repeat refine goD (h := ?_)))
          all_goals (first | (refine jnG2.nn g49 g50 (by repeat (first | exact Sub.nil | refine Sub.cons (k := ?_))) ⟨_, .refl _, ?_⟩; (repeat (first | exact List.Sublist.refl _ | apply List.Sublist.cons | apply Sl.gB)); done) | (refine jnG2.nn g49 g50 (by repeat (first | exact Sub.nil | refine Sub.cons (k := ?_))) ⟨_, .swap _ _ _, ?_⟩; (repeat (first | exact List.Sublist.refl _ | apply List.Sublist.cons | apply Sl.gB)); done))
        · (repeat refine gc (h := ?_))
          refine AW.region ?_
          (repeat refine gl (h := ?_))
          (repeat refine gc (h := ?_))
          refine AW.cond (b := (((!decide (x43.Account = x46.Account)) || (!decide (x43.Asset = x46.Asset))) || (x43.Amount != x46.Amount))) rfl (fun hc51 => ?_) (fun hc51 => ?_)
          · replace hF := cnd_t hc51 hF
            (repeat refine gc (h := ?_))
            (repeat refine gc (h := ?_))
            refine AW.region ?_
            (repeat refine gl (h := ?_))
            obtain rfl := some_inj hF
            (repeat refine gc (h := ?_))
            refine lpQ1_0.r _ rfl (fun ho39 => ?_)
            subst ho39
            replace hF := hO35
            (repeat refine gc (h := ?_))
            obtain rfl := some_inj hF
            (repeat refine gc (h := ?_))
            exact EndQ.fin (bs' := bs) (h := ⟨(by first | exact Wk.refl _ | exact (by first | exact Wk.refl _ | exact Wk.nil | exact Wk.clip _ | exact Wk.tip _ _ _ | exact Wk.opt _ _ (by first | assumption | rfl) | exact Wk.gr _ _ | exact Wk.nil_gr | exact Wk.trans (Wk.opt _ _ (by first | assumption | rfl)) (by first | exact Wk.gr _ _ | exact Wk.nil | exact Wk.clip _ | exact Wk.tip _ _ _) | exact Wk.aggs (by repeat (first | exact Wks.nil | refine Wks.cons (by first | exact Wk.refl _ | exact Wk.nil | exact Wk.clip _ | exact Wk.tip _ _ _ | exact Wk.gr _ _ | exact Wk.nil_gr) ?_)) rfl) | exact Wk.tups (by repeat (first | exact Wks.nil | refine Wks.cons (by first | exact Wk.refl _ | exact Wk.nil | exact Wk.clip _ | exact Wk.tip _ _ _ | exact Wk.opt _ _ (by first | assumption | rfl) | exact Wk.gr _ _ | exact Wk.nil_gr | exact Wk.trans (Wk.opt _ _ (by first | assumption | rfl)) (by first | exact Wk.gr _ _ | exact Wk.nil | exact Wk.clip _ | exact Wk.tip _ _ _) | exact Wk.aggs (by repeat (first | exact Wks.nil | refine Wks.cons (by first | exact Wk.refl _ | exact Wk.nil | exact Wk.clip _ | exact Wk.tip _ _ _ | exact Wk.gr _ _ | exact Wk.nil_gr) ?_)) rfl) ?_))), rfl⟩) (hs := (by repeat (first | exact List.Sublist.refl _ | apply List.Sublist.cons | apply Sl.gB)))
          · replace hF := cnd_f hc51 hF
            (repeat refine gc (h := ?_))
            obtain ⟨he52, hF⟩ := ens hF
            (repeat refine gc (h := ?_))
            refine AW.region ?_
            (repeat refine gl (h := ?_))
            (repeat refine gc (h := ?_))
            exact lpQ1_0.n (s32 + 1) (some_inj hF) trivial (by repeat (first | exact Sub.nil | refine Sub.cons (k := ?_))) (by repeat (first | exact List.Sublist.refl _ | apply List.Sublist.cons | apply Sl.gB))
      · replace hF := cnd_f hc42 hF
        have hc42p := of_decide_eq_false hc42
        (repeat refine gc (h := ?_))
        obtain rfl := some_inj hF
        (repeat refine gc (h := ?_))
        refine lpQ1_0.e _ rfl (fun ho39 => ?_)
        (repeat refine gc (h := ?_))
        exact jnQ1_0.n s32 ho39 (by repeat (first | exact Sub.nil | refine Sub.cons (k := ?_))) (by repeat (first | exact List.Sublist.refl _ | apply List.Sublist.cons | apply Sl.gB))
    · obtain rfl := hs100.symm
      replace hF := hO35
      try dsimp only at hF
      (repeat refine gc (h := ?_))
      (repeat refine gc (h := ?_))
      refine AW.region ?_
      (repeat refine gl (h := ?_))
      obtain ⟨oo79, hL80, hO81⟩ := bnd hF
      (repeat refine gc (h := ?_))
      refine AW.join1_0 (fun (e86 : Int) => [(0, .agg (rBook a0)), (1, .agg (rBook a1)), (2, .ptr g1 0), (3, .ptr g2 0), (4, bA false), (5, iA e40), (8, iA e86)]) (fun (e86 : Int) => (g2, .cells [iA a1.Number, iA a1.Time, .sl (a1.Accounts.map strR), .sl (a1.Funds.map rFund), .sl (a1.Escrows.map rEscrow)]) :: (g1, .cells [iA a0.Number, iA a0.Time, .sl (a0.Accounts.map strR), .sl (a0.Funds.map rFund), .sl (a0.Escrows.map rEscrow)]) :: bs) (fun (e86 : Int) => oo79 = .inl e86) ?_ (fun e86 hs99 => ?_)
      · (repeat refine gc (h := ?_))
        refine AW.block ?_
        refine AW.loopF1_0 hL80 (fun (s78 : Int) => [(0, .agg (rBook a0)), (1, .agg (rBook a1)), (2, .ptr g1 0), (3, .ptr g2 0), (4, bA false), (5, iA e40), (8, iA s78)]) (fun (s78 : Int) => (g2, .cells [iA a1.Number, iA a1.Time, .sl (a1.Accounts.map strR), .sl (a1.Funds.map rFund), .sl (a1.Escrows.map rEscrow)]) :: (g1, .cells [iA a0.Number, iA a0.Time, .sl (a0.Accounts.map strR), .sl (a0.Funds.map rFund), .sl (a0.Escrows.map rEscrow)]) :: bs) (fun (s78 : Int) => True)  trivial (by repeat (first | exact Sub.nil | refine Sub.cons (k := ?_))) rfl (fun s78 v82 hp83 hF => ?_)
        replace hF : l_ref9_Same_b1 a0 a1 s78 = some v82 := hF
        unfold l_ref9_Same_b1 at hF
        (repeat refine gc (h := ?_))
        (repeat refine gc (h := ?_))
        refine AW.region ?_
        (repeat refine gl (h := ?_))
        (repeat refine gc (h := ?_))
        refine AW.cond (b := (decide (s78 < (a0.Escrows.length : Int)))) rfl (fun hc88 => ?_) (fun hc88 => ?_)
        · replace hF := cnd_t hc88 hF
          have hc88p := of_decide_eq_true hc88
          (repeat refine gc (h := ?_))
          (repeat refine gc (h := ?_))
          refine AW.block ?_
          obtain ⟨x89, h90, h91, hF⟩ := idx_b hF
          obtain ⟨x92, h93, h94, hF⟩ := idx_b hF
          obtain ⟨x95, hc96, hF⟩ := bnd hF
          (repeat refine gc (h := ?_))
          (repeat refine goD (h := ?_))
          refine ADl.call (c_ref9_sameEscrow hc96) (h := ?_)
          (repeat refine goD (h := ?_))
          (repeat refine gc (h := ?_))
          refine AW.cond (b := (!x95)) rfl (fun hc97 => ?_) (fun hc97 => ?_)
          · replace hF := cnd_t hc97 hF
            (repeat refine gc (h := ?_))
            (repeat refine gc (h := ?_))
            refine AW.region ?_
            (repeat refine gl (h := ?_))
            obtain rfl := some_inj hF
            (repeat refine gc (h := ?_))
            refine lpQ1_0.r _ rfl (fun ho85 => ?_)
            subst ho85
            replace hF := hO81
            (repeat refine gc (h := ?_))
            obtain rfl := some_inj hF
            (repeat refine gc (h := ?_))
            exact EndQ.fin (bs' := bs) (h := ⟨(by first | exact Wk.refl _ | exact (by first | exact Wk.refl _ | exact Wk.nil | exact Wk.clip _ | exact Wk.tip _ _ _ | exact Wk.opt _ _ (by first | assumption | rfl) | exact Wk.gr _ _ | exact Wk.nil_gr | exact Wk.trans (Wk.opt _ _ (by first | assumption | rfl)) (by first | exact Wk.gr _ _ | exact Wk.nil | exact Wk.clip _ | exact Wk.tip _ _ _) | exact Wk.aggs (by repeat (first | exact Wks.nil | refine Wks.cons (by first | exact Wk.refl _ | exact Wk.nil | exact Wk.clip _ | exact Wk.tip _ _ _ | exact Wk.gr _ _ | exact Wk.nil_gr) ?_)) rfl) | exact Wk.tups (by repeat (first | exact Wks.nil | refine Wks.cons (by first | exact Wk.refl _ | exact Wk.nil | exact Wk.clip _ | exact Wk.tip _ _ _ | exact Wk.opt _ _ (by first | assumption | rfl) | exact Wk.gr _ _ | exact Wk.nil_gr | exact Wk.trans (Wk.opt _ _ (by first | assumption | rfl)) (by first | exact Wk.gr _ _ | exact Wk.nil | exact Wk.clip _ | exact Wk.tip _ _ _) | exact Wk.aggs (by repeat (first | exact Wks.nil | refine Wks.cons (by first | exact Wk.refl _ | exact Wk.nil | exact Wk.clip _ | exact Wk.tip _ _ _ | exact Wk.gr _ _ | exact Wk.nil_gr) ?_)) rfl) ?_))), rfl⟩) (hs := (by repeat (first | exact List.Sublist.refl _ | apply List.Sublist.cons | apply Sl.gB)))
          · replace hF := cnd_f hc97 hF
            (repeat refine gc (h := ?_))
            obtain ⟨he98, hF⟩ := ens hF
            (repeat refine gc (h := ?_))
            refine AW.region ?_
            (repeat refine gl (h := ?_))
            (repeat refine gc (h := ?_))
            exact lpQ1_0.n (s78 + 1) (some_inj hF) trivial (by repeat (first | exact Sub.nil | refine Sub.cons (k := ?_))) (by repeat (first | exact List.Sublist.refl _ | apply List.Sublist.cons | apply Sl.gB))
        · replace hF := cnd_f hc88 hF
          have hc88p := of_decide_eq_false hc88
          (repeat refine gc (h := ?_))
          obtain rfl := some_inj hF
          (repeat refine gc (h := ?_))
          refine lpQ1_0.e _ rfl (fun ho85 => ?_)
          (repeat refine gc (h := ?_))
          exact jnQ1_0.n s78 ho85 (by repeat (first | exact Sub.nil | refine Sub.cons (k := ?_))) (by repeat (first | exact List.Sublist.refl _ | apply List.Sublist.cons | apply Sl.gB))
      · obtain rfl := hs99.symm
        replace hF := hO81
        try dsimp only at hF
        (repeat refine gc (h := ?_))
        (repeat refine gc (h := ?_))
        refine AW.region ?_
        (repeat refine gl (h := ?_))
        obtain rfl := some_inj hF
        (repeat refine gc (h := ?_))
        exact EndQ.fin (bs' := bs) (h := ⟨(by first | exact Wk.refl _ | exact (by first | exact Wk.refl _ | exact Wk.nil | exact Wk.clip _ | exact Wk.tip _ _ _ | exact Wk.opt _ _ (by first | assumption | rfl) | exact Wk.gr _ _ | exact Wk.nil_gr | exact Wk.trans (Wk.opt _ _ (by first | assumption | rfl)) (by first | exact Wk.gr _ _ | exact Wk.nil | exact Wk.clip _ | exact Wk.tip _ _ _) | exact Wk.aggs (by repeat (first | exact Wks.nil | refine Wks.cons (by first | exact Wk.refl _ | exact Wk.nil | exact Wk.clip _ | exact Wk.tip _ _ _ | exact Wk.gr _ _ | exact Wk.nil_gr) ?_)) rfl) | exact Wk.tups (by repeat (first | exact Wks.nil | refine Wks.cons (by first | exact Wk.refl _ | exact Wk.nil | exact Wk.clip _ | exact Wk.tip _ _ _ | exact Wk.opt _ _ (by first | assumption | rfl) | exact Wk.gr _ _ | exact Wk.nil_gr | exact Wk.trans (Wk.opt _ _ (by first | assumption | rfl)) (by first | exact Wk.gr _ _ | exact Wk.nil | exact Wk.clip _ | exact Wk.tip _ _ _) | exact Wk.aggs (by repeat (first | exact Wks.nil | refine Wks.cons (by first | exact Wk.refl _ | exact Wk.nil | exact Wk.clip _ | exact Wk.tip _ _ _ | exact Wk.gr _ _ | exact Wk.nil_gr) ?_)) rfl) ?_))), rfl⟩) (hs := (by repeat (first | exact List.Sublist.refl _ | apply List.Sublist.cons | apply Sl.gB)))

noncomputable def l_ref9_Has_b0 (a0 : SBook) (a1 : Txt) (s17 : Int) : Option ((Int) ⊕ (Int ⊕ Bool)) :=
cond (decide (s17 < (a0.Accounts.length : Int))) (
(idxO a0.Accounts s17).bind fun x28 =>
cond (decide (x28 = a1)) (
some (.inr (.inr true))) (
(ensure (-9223372036854775808 ≤ s17 + 1 ∧ s17 + 1 ≤ 9223372036854775807)).bind fun _ =>
some (.inl (s17 + 1)))) (
some (.inr (.inl s17)))
noncomputable def l_ref9_Has (a0 : SBook) (a1 : Txt) : Option (Bool) :=
Option.bind (loopF (τ := (Int ⊕ Bool)) (fun s : Int => l_ref9_Has_b0 a0 a1 s) 0) fun oo18 => (match oo18 with
| .inl e25 =>
some false
| .inr r23 => some r23)
theorem c_ref9_Has {a0 : SBook} {a1 : Txt} {r : Bool} (hF : l_ref9_Has a0 a1 = some r) : APure Try.prog 64 [.agg (rBook a0), sA a1] (bA r) := fun bs => by
  unfold l_ref9_Has at hF
  refine ACalls.wk ?_
  refine ACalls.in_ Try.func64 Try.ntmps64 (h := ?_)
  (repeat refine gc (h := ?_))
  refine AW.region ?_
  (repeat refine gl (h := ?_))
  intro g1
  (repeat refine gl (h := ?_))
  (repeat refine gc (h := ?_))
  refine AW.region ?_
  (repeat refine gl (h := ?_))
  obtain ⟨oo18, hL19, hO20⟩ := bnd hF
  (repeat refine gc (h := ?_))
  refine AW.join1_0 (fun (e25 : Int) => [(0, .agg (rBook a0)), (1, sA a1), (2, .ptr g1 0), (4, bA false), (5, iA e25)]) (fun (e25 : Int) => (g1, .cells [iA a0.Number, iA a0.Time, .sl (a0.Accounts.map strR), .sl (a0.Funds.map rFund), .sl (a0.Escrows.map rEscrow)]) :: bs) (fun (e25 : Int) => oo18 = .inl e25) ?_ (fun e25 hs33 => ?_)
  · (repeat refine gc (h := ?_))
    refine AW.block ?_
    refine AW.loopF1_0 hL19 (fun (s17 : Int) => [(0, .agg (rBook a0)), (1, sA a1), (2, .ptr g1 0), (4, bA false), (5, iA s17)]) (fun (s17 : Int) => (g1, .cells [iA a0.Number, iA a0.Time, .sl (a0.Accounts.map strR), .sl (a0.Funds.map rFund), .sl (a0.Escrows.map rEscrow)]) :: bs) (fun (s17 : Int) => True)  trivial (by repeat (first | exact Sub.nil | refine Sub.cons (k := ?_))) rfl (fun s17 v21 hp22 hF => ?_)
    replace hF : l_ref9_Has_b0 a0 a1 s17 = some v21 := hF
    unfold l_ref9_Has_b0 at hF
    (repeat refine gc (h := ?_))
    (repeat refine gc (h := ?_))
    refine AW.region ?_
    (repeat refine gl (h := ?_))
    (repeat refine gc (h := ?_))
    refine AW.cond (b := (decide (s17 < (a0.Accounts.length : Int)))) rfl (fun hc27 => ?_) (fun hc27 => ?_)
    · replace hF := cnd_t hc27 hF
      have hc27p := of_decide_eq_true hc27
      (repeat refine gc (h := ?_))
      (repeat refine gc (h := ?_))
      refine AW.block ?_
      obtain ⟨x28, h29, h30, hF⟩ := idx_b hF
      (repeat refine gc (h := ?_))
      refine AW.region ?_
      (repeat refine gl (h := ?_))
      (repeat refine gc (h := ?_))
      refine AW.cond (b := (decide (x28 = a1))) rfl (fun hc31 => ?_) (fun hc31 => ?_)
      · replace hF := cnd_t hc31 hF
        have hc31p := of_decide_eq_true hc31
        (repeat refine gc (h := ?_))
        (repeat refine gc (h := ?_))
        refine AW.region ?_
        (repeat refine gl (h := ?_))
        obtain rfl := some_inj hF
        (repeat refine gc (h := ?_))
        refine lpQ1_0.r _ rfl (fun ho24 => ?_)
        subst ho24
        replace hF := hO20
        (repeat refine gc (h := ?_))
        obtain rfl := some_inj hF
        (repeat refine gc (h := ?_))
        exact EndQ.fin (bs' := bs) (h := ⟨(by first | exact Wk.refl _ | exact (by first | exact Wk.refl _ | exact Wk.nil | exact Wk.clip _ | exact Wk.tip _ _ _ | exact Wk.opt _ _ (by first | assumption | rfl) | exact Wk.gr _ _ | exact Wk.nil_gr | exact Wk.trans (Wk.opt _ _ (by first | assumption | rfl)) (by first | exact Wk.gr _ _ | exact Wk.nil | exact Wk.clip _ | exact Wk.tip _ _ _) | exact Wk.aggs (by repeat (first | exact Wks.nil | refine Wks.cons (by first | exact Wk.refl _ | exact Wk.nil | exact Wk.clip _ | exact Wk.tip _ _ _ | exact Wk.gr _ _ | exact Wk.nil_gr) ?_)) rfl) | exact Wk.tups (by repeat (first | exact Wks.nil | refine Wks.cons (by first | exact Wk.refl _ | exact Wk.nil | exact Wk.clip _ | exact Wk.tip _ _ _ | exact Wk.opt _ _ (by first | assumption | rfl) | exact Wk.gr _ _ | exact Wk.nil_gr | exact Wk.trans (Wk.opt _ _ (by first | assumption | rfl)) (by first | exact Wk.gr _ _ | exact Wk.nil | exact Wk.clip _ | exact Wk.tip _ _ _) | exact Wk.aggs (by repeat (first | exact Wks.nil | refine Wks.cons (by first | exact Wk.refl _ | exact Wk.nil | exact Wk.clip _ | exact Wk.tip _ _ _ | exact Wk.gr _ _ | exact Wk.nil_gr) ?_)) rfl) ?_))), rfl⟩) (hs := (by repeat (first | exact List.Sublist.refl _ | apply List.Sublist.cons | apply Sl.gB)))
      · replace hF := cnd_f hc31 hF
        have hc31p := of_decide_eq_false hc31
        (repeat refine gc (h := ?_))
        obtain ⟨he32, hF⟩ := ens hF
        (repeat refine gc (h := ?_))
        refine AW.region ?_
        (repeat refine gl (h := ?_))
        (repeat refine gc (h := ?_))
        exact lpQ1_0.n (s17 + 1) (some_inj hF) trivial (by repeat (first | exact Sub.nil | refine Sub.cons (k := ?_))) (by repeat (first | exact List.Sublist.refl _ | apply List.Sublist.cons | apply Sl.gB))
    · replace hF := cnd_f hc27 hF
      have hc27p := of_decide_eq_false hc27
      (repeat refine gc (h := ?_))
      obtain rfl := some_inj hF
      (repeat refine gc (h := ?_))
      refine lpQ1_0.e _ rfl (fun ho24 => ?_)
      (repeat refine gc (h := ?_))
      exact jnQ1_0.n s17 ho24 (by repeat (first | exact Sub.nil | refine Sub.cons (k := ?_))) (by repeat (first | exact List.Sublist.refl _ | apply List.Sublist.cons | apply Sl.gB))
  · obtain rfl := hs33.symm
    replace hF := hO20
    try dsimp only at hF
    (repeat refine gc (h := ?_))
    (repeat refine gc (h := ?_))
    refine AW.region ?_
    (repeat refine gl (h := ?_))
    obtain rfl := some_inj hF
    (repeat refine gc (h := ?_))
    exact EndQ.fin (bs' := bs) (h := ⟨(by first | exact Wk.refl _ | exact (by first | exact Wk.refl _ | exact Wk.nil | exact Wk.clip _ | exact Wk.tip _ _ _ | exact Wk.opt _ _ (by first | assumption | rfl) | exact Wk.gr _ _ | exact Wk.nil_gr | exact Wk.trans (Wk.opt _ _ (by first | assumption | rfl)) (by first | exact Wk.gr _ _ | exact Wk.nil | exact Wk.clip _ | exact Wk.tip _ _ _) | exact Wk.aggs (by repeat (first | exact Wks.nil | refine Wks.cons (by first | exact Wk.refl _ | exact Wk.nil | exact Wk.clip _ | exact Wk.tip _ _ _ | exact Wk.gr _ _ | exact Wk.nil_gr) ?_)) rfl) | exact Wk.tups (by repeat (first | exact Wks.nil | refine Wks.cons (by first | exact Wk.refl _ | exact Wk.nil | exact Wk.clip _ | exact Wk.tip _ _ _ | exact Wk.opt _ _ (by first | assumption | rfl) | exact Wk.gr _ _ | exact Wk.nil_gr | exact Wk.trans (Wk.opt _ _ (by first | assumption | rfl)) (by first | exact Wk.gr _ _ | exact Wk.nil | exact Wk.clip _ | exact Wk.tip _ _ _) | exact Wk.aggs (by repeat (first | exact Wks.nil | refine Wks.cons (by first | exact Wk.refl _ | exact Wk.nil | exact Wk.clip _ | exact Wk.tip _ _ _ | exact Wk.gr _ _ | exact Wk.nil_gr) ?_)) rfl) ?_))), rfl⟩) (hs := (by repeat (first | exact List.Sublist.refl _ | apply List.Sublist.cons | apply Sl.gB)))

noncomputable def l_ref9_Open (a0 : SBook) (a1 : Txt) : Option (SBook × Int) :=
(l_ref4_Name a1).bind fun x10 =>
cond (!x10) (
some (a0, 1)) (
(l_ref9_Has a0 a1).bind fun x18 =>
cond x18 (
some (a0, 5)) (
cond (decide ((a0.Accounts.length : Int) ≥ 12)) (
some (a0, 7)) (
(ensure ((([] : List Txt).length + a0.Accounts.length) * 16 ≤ 140737488355328)).bind fun _ =>
(ensure ((([] ++ a0.Accounts).length + [a1].length) * 16 ≤ 140737488355328)).bind fun _ =>
some (({ a0 with Accounts := (([] ++ a0.Accounts) ++ [a1]) } : SBook), 0))))
theorem c_ref9_Open {a0 : SBook} {a1 : Txt} {r : SBook × Int} (hF : l_ref9_Open a0 a1 = some r) : APure Try.prog 44 [.agg (rBook a0), sA a1] (.tup [.agg (rBook r.1), iA r.2]) := fun bs => by
  unfold l_ref9_Open at hF
  refine ACalls.wk ?_
  refine ACalls.in_ Try.func44 Try.ntmps44 (h := ?_)
  (repeat refine gc (h := ?_))
  refine AW.region ?_
  (repeat refine gl (h := ?_))
  intro g1
  (repeat refine gl (h := ?_))
  intro g2
  (repeat refine gl (h := ?_))
  (repeat refine gc (h := ?_))
  refine AW.block ?_
  obtain ⟨x10, hc11, hF⟩ := bnd hF
  (repeat refine gc (h := ?_))
  refine AW.region ?_
  (repeat refine gl (h := ?_))
  refine AL.call (c_ref4_Name hc11) (h := ?_)
  (repeat refine gl (h := ?_))
  (repeat refine gc (h := ?_))
  refine AW.cond (b := (!x10)) rfl (fun hc17 => ?_) (fun hc17 => ?_)
  · replace hF := cnd_t hc17 hF
    (repeat refine gc (h := ?_))
    (repeat refine gc (h := ?_))
    refine AW.region ?_
    (repeat refine gl (h := ?_))
    obtain rfl := some_inj hF
    (repeat refine gc (h := ?_))
    exact EndQ.fin (bs' := bs) (h := ⟨(by first | exact Wk.refl _ | exact (by first | exact Wk.refl _ | exact Wk.nil | exact Wk.clip _ | exact Wk.tip _ _ _ | exact Wk.opt _ _ (by first | assumption | rfl) | exact Wk.gr _ _ | exact Wk.nil_gr | exact Wk.trans (Wk.opt _ _ (by first | assumption | rfl)) (by first | exact Wk.gr _ _ | exact Wk.nil | exact Wk.clip _ | exact Wk.tip _ _ _) | exact Wk.aggs (by repeat (first | exact Wks.nil | refine Wks.cons (by first | exact Wk.refl _ | exact Wk.nil | exact Wk.clip _ | exact Wk.tip _ _ _ | exact Wk.gr _ _ | exact Wk.nil_gr) ?_)) rfl) | exact Wk.tups (by repeat (first | exact Wks.nil | refine Wks.cons (by first | exact Wk.refl _ | exact Wk.nil | exact Wk.clip _ | exact Wk.tip _ _ _ | exact Wk.opt _ _ (by first | assumption | rfl) | exact Wk.gr _ _ | exact Wk.nil_gr | exact Wk.trans (Wk.opt _ _ (by first | assumption | rfl)) (by first | exact Wk.gr _ _ | exact Wk.nil | exact Wk.clip _ | exact Wk.tip _ _ _) | exact Wk.aggs (by repeat (first | exact Wks.nil | refine Wks.cons (by first | exact Wk.refl _ | exact Wk.nil | exact Wk.clip _ | exact Wk.tip _ _ _ | exact Wk.gr _ _ | exact Wk.nil_gr) ?_)) rfl) ?_))), rfl⟩) (hs := (by repeat (first | exact List.Sublist.refl _ | apply List.Sublist.cons | apply Sl.gB)))
  · replace hF := cnd_f hc17 hF
    (repeat refine gc (h := ?_))
    obtain ⟨x18, hc19, hF⟩ := bnd hF
    (repeat refine gc (h := ?_))
    refine AW.region ?_
    (repeat refine gl (h := ?_))
    refine AL.call (c_ref9_Has hc19) (h := ?_)
    (repeat refine gl (h := ?_))
    (repeat refine gc (h := ?_))
    refine AW.cond (b := x18) rfl (fun hc22 => ?_) (fun hc22 => ?_)
    · replace hF := cnd_t hc22 hF
      (repeat refine gc (h := ?_))
      (repeat refine gc (h := ?_))
      refine AW.region ?_
      (repeat refine gl (h := ?_))
      obtain rfl := some_inj hF
      (repeat refine gc (h := ?_))
      exact EndQ.fin (bs' := bs) (h := ⟨(by first | exact Wk.refl _ | exact (by first | exact Wk.refl _ | exact Wk.nil | exact Wk.clip _ | exact Wk.tip _ _ _ | exact Wk.opt _ _ (by first | assumption | rfl) | exact Wk.gr _ _ | exact Wk.nil_gr | exact Wk.trans (Wk.opt _ _ (by first | assumption | rfl)) (by first | exact Wk.gr _ _ | exact Wk.nil | exact Wk.clip _ | exact Wk.tip _ _ _) | exact Wk.aggs (by repeat (first | exact Wks.nil | refine Wks.cons (by first | exact Wk.refl _ | exact Wk.nil | exact Wk.clip _ | exact Wk.tip _ _ _ | exact Wk.gr _ _ | exact Wk.nil_gr) ?_)) rfl) | exact Wk.tups (by repeat (first | exact Wks.nil | refine Wks.cons (by first | exact Wk.refl _ | exact Wk.nil | exact Wk.clip _ | exact Wk.tip _ _ _ | exact Wk.opt _ _ (by first | assumption | rfl) | exact Wk.gr _ _ | exact Wk.nil_gr | exact Wk.trans (Wk.opt _ _ (by first | assumption | rfl)) (by first | exact Wk.gr _ _ | exact Wk.nil | exact Wk.clip _ | exact Wk.tip _ _ _) | exact Wk.aggs (by repeat (first | exact Wks.nil | refine Wks.cons (by first | exact Wk.refl _ | exact Wk.nil | exact Wk.clip _ | exact Wk.tip _ _ _ | exact Wk.gr _ _ | exact Wk.nil_gr) ?_)) rfl) ?_))), rfl⟩) (hs := (by repeat (first | exact List.Sublist.refl _ | apply List.Sublist.cons | apply Sl.gB)))
    · replace hF := cnd_f hc22 hF
      (repeat refine gc (h := ?_))
      (repeat refine gc (h := ?_))
      refine AW.region ?_
      (repeat refine gl (h := ?_))
      (repeat refine gc (h := ?_))
      refine AW.cond (b := (decide ((a0.Accounts.length : Int) ≥ 12))) rfl (fun hc24 => ?_) (fun hc24 => ?_)
      · replace hF := cnd_t hc24 hF
        have hc24p := of_decide_eq_true hc24
        (repeat refine gc (h := ?_))
        (repeat refine gc (h := ?_))
        refine AW.region ?_
        (repeat refine gl (h := ?_))
        obtain rfl := some_inj hF
        (repeat refine gc (h := ?_))
        exact EndQ.fin (bs' := bs) (h := ⟨(by first | exact Wk.refl _ | exact (by first | exact Wk.refl _ | exact Wk.nil | exact Wk.clip _ | exact Wk.tip _ _ _ | exact Wk.opt _ _ (by first | assumption | rfl) | exact Wk.gr _ _ | exact Wk.nil_gr | exact Wk.trans (Wk.opt _ _ (by first | assumption | rfl)) (by first | exact Wk.gr _ _ | exact Wk.nil | exact Wk.clip _ | exact Wk.tip _ _ _) | exact Wk.aggs (by repeat (first | exact Wks.nil | refine Wks.cons (by first | exact Wk.refl _ | exact Wk.nil | exact Wk.clip _ | exact Wk.tip _ _ _ | exact Wk.gr _ _ | exact Wk.nil_gr) ?_)) rfl) | exact Wk.tups (by repeat (first | exact Wks.nil | refine Wks.cons (by first | exact Wk.refl _ | exact Wk.nil | exact Wk.clip _ | exact Wk.tip _ _ _ | exact Wk.opt _ _ (by first | assumption | rfl) | exact Wk.gr _ _ | exact Wk.nil_gr | exact Wk.trans (Wk.opt _ _ (by first | assumption | rfl)) (by first | exact Wk.gr _ _ | exact Wk.nil | exact Wk.clip _ | exact Wk.tip _ _ _) | exact Wk.aggs (by repeat (first | exact Wks.nil | refine Wks.cons (by first | exact Wk.refl _ | exact Wk.nil | exact Wk.clip _ | exact Wk.tip _ _ _ | exact Wk.gr _ _ | exact Wk.nil_gr) ?_)) rfl) ?_))), rfl⟩) (hs := (by repeat (first | exact List.Sublist.refl _ | apply List.Sublist.cons | apply Sl.gB)))
      · replace hF := cnd_f hc24 hF
        have hc24p := of_decide_eq_false hc24
        (repeat refine gc (h := ?_))
        obtain ⟨he25, hF⟩ := ens hF
        obtain ⟨he28, hF⟩ := ens hF
        (repeat refine gc (h := ?_))
        refine AW.region ?_
        (repeat refine gl (h := ?_))
        refine AL.grow (R := strR) (l := ([] : List Txt)) (l2 := a0.Accounts) (rs := ([] ++ a0.Accounts)) .new rfl he25 (fun _ => rfl) (h := fun o26 => ?_)
        (repeat refine gl (h := ?_))
        refine AL.grow (R := strR) (l := ([] ++ a0.Accounts)) (l2 := [a1]) (rs := (([] ++ a0.Accounts) ++ [a1])) .here rfl he28 (fun _ => rfl) (h := fun o29 => ?_)
        (repeat refine gl (h := ?_))
        (repeat refine gc (h := ?_))
        refine AW.region ?_
        (repeat refine gl (h := ?_))
        obtain rfl := some_inj hF
        (repeat refine gc (h := ?_))
        exact EndQ.fin (bs' := bs) (h := ⟨(by first | exact Wk.refl _ | exact (by first | exact Wk.refl _ | exact Wk.nil | exact Wk.clip _ | exact Wk.tip _ _ _ | exact Wk.opt _ _ (by first | assumption | rfl) | exact Wk.gr _ _ | exact Wk.nil_gr | exact Wk.trans (Wk.opt _ _ (by first | assumption | rfl)) (by first | exact Wk.gr _ _ | exact Wk.nil | exact Wk.clip _ | exact Wk.tip _ _ _) | exact Wk.aggs (by repeat (first | exact Wks.nil | refine Wks.cons (by first | exact Wk.refl _ | exact Wk.nil | exact Wk.clip _ | exact Wk.tip _ _ _ | exact Wk.gr _ _ | exact Wk.nil_gr) ?_)) rfl) | exact Wk.tups (by repeat (first | exact Wks.nil | refine Wks.cons (by first | exact Wk.refl _ | exact Wk.nil | exact Wk.clip _ | exact Wk.tip _ _ _ | exact Wk.opt _ _ (by first | assumption | rfl) | exact Wk.gr _ _ | exact Wk.nil_gr | exact Wk.trans (Wk.opt _ _ (by first | assumption | rfl)) (by first | exact Wk.gr _ _ | exact Wk.nil | exact Wk.clip _ | exact Wk.tip _ _ _) | exact Wk.aggs (by repeat (first | exact Wks.nil | refine Wks.cons (by first | exact Wk.refl _ | exact Wk.nil | exact Wk.clip _ | exact Wk.tip _ _ _ | exact Wk.gr _ _ | exact Wk.nil_gr) ?_)) rfl) ?_))), rfl⟩) (hs := (by repeat (first | exact List.Sublist.refl _ | apply List.Sublist.cons | apply Sl.gB)))

noncomputable def l_ref9_arc (a0 : SEscrow) : Option (SArc × Bool) :=
cond ((decide (a0.Arc < 0)) || (decide (a0.Arc ≥ (a0.Spec.Arcs.length : Int)))) (
some ((SArc.mk 0 0 0 (⟨#[]⟩ : Txt) 0), false)) (
(idxO a0.Spec.Arcs a0.Arc).bind fun x5 =>
some (x5, true))
theorem c_ref9_arc {a0 : SEscrow} {r : SArc × Bool} (hF : l_ref9_arc a0 = some r) : APure Try.prog 68 [.agg (rEscrow a0)] (.tup [.agg (rArc r.1), bA r.2]) := fun bs => by
  unfold l_ref9_arc at hF
  refine ACalls.wk ?_
  refine ACalls.in_ Try.func68 Try.ntmps68 (h := ?_)
  (repeat refine gc (h := ?_))
  refine AW.region ?_
  (repeat refine gl (h := ?_))
  intro g1
  (repeat refine gl (h := ?_))
  intro g2
  (repeat refine gl (h := ?_))
  (repeat refine gc (h := ?_))
  refine AW.region ?_
  (repeat refine gl (h := ?_))
  (repeat refine gc (h := ?_))
  refine AW.cond (b := ((decide (a0.Arc < 0)) || (decide (a0.Arc ≥ (a0.Spec.Arcs.length : Int))))) rfl (fun hc4 => ?_) (fun hc4 => ?_)
  · replace hF := cnd_t hc4 hF
    (repeat refine gc (h := ?_))
    (repeat refine gc (h := ?_))
    refine AW.region ?_
    (repeat refine gl (h := ?_))
    obtain rfl := some_inj hF
    (repeat refine gc (h := ?_))
    exact EndQ.fin (bs' := bs) (h := ⟨(by first | exact Wk.refl _ | exact (by first | exact Wk.refl _ | exact Wk.nil | exact Wk.clip _ | exact Wk.tip _ _ _ | exact Wk.opt _ _ (by first | assumption | rfl) | exact Wk.gr _ _ | exact Wk.nil_gr | exact Wk.trans (Wk.opt _ _ (by first | assumption | rfl)) (by first | exact Wk.gr _ _ | exact Wk.nil | exact Wk.clip _ | exact Wk.tip _ _ _) | exact Wk.aggs (by repeat (first | exact Wks.nil | refine Wks.cons (by first | exact Wk.refl _ | exact Wk.nil | exact Wk.clip _ | exact Wk.tip _ _ _ | exact Wk.gr _ _ | exact Wk.nil_gr) ?_)) rfl) | exact Wk.tups (by repeat (first | exact Wks.nil | refine Wks.cons (by first | exact Wk.refl _ | exact Wk.nil | exact Wk.clip _ | exact Wk.tip _ _ _ | exact Wk.opt _ _ (by first | assumption | rfl) | exact Wk.gr _ _ | exact Wk.nil_gr | exact Wk.trans (Wk.opt _ _ (by first | assumption | rfl)) (by first | exact Wk.gr _ _ | exact Wk.nil | exact Wk.clip _ | exact Wk.tip _ _ _) | exact Wk.aggs (by repeat (first | exact Wks.nil | refine Wks.cons (by first | exact Wk.refl _ | exact Wk.nil | exact Wk.clip _ | exact Wk.tip _ _ _ | exact Wk.gr _ _ | exact Wk.nil_gr) ?_)) rfl) ?_))), rfl⟩) (hs := (by repeat (first | exact List.Sublist.refl _ | apply List.Sublist.cons | apply Sl.gB)))
  · replace hF := cnd_f hc4 hF
    (repeat refine gc (h := ?_))
    obtain ⟨x5, h6, h7, hF⟩ := idx_b hF
    (repeat refine gc (h := ?_))
    refine AW.region ?_
    (repeat refine gl (h := ?_))
    obtain rfl := some_inj hF
    (repeat refine gc (h := ?_))
    exact EndQ.fin (bs' := bs) (h := ⟨(by first | exact Wk.refl _ | exact (by first | exact Wk.refl _ | exact Wk.nil | exact Wk.clip _ | exact Wk.tip _ _ _ | exact Wk.opt _ _ (by first | assumption | rfl) | exact Wk.gr _ _ | exact Wk.nil_gr | exact Wk.trans (Wk.opt _ _ (by first | assumption | rfl)) (by first | exact Wk.gr _ _ | exact Wk.nil | exact Wk.clip _ | exact Wk.tip _ _ _) | exact Wk.aggs (by repeat (first | exact Wks.nil | refine Wks.cons (by first | exact Wk.refl _ | exact Wk.nil | exact Wk.clip _ | exact Wk.tip _ _ _ | exact Wk.gr _ _ | exact Wk.nil_gr) ?_)) rfl) | exact Wk.tups (by repeat (first | exact Wks.nil | refine Wks.cons (by first | exact Wk.refl _ | exact Wk.nil | exact Wk.clip _ | exact Wk.tip _ _ _ | exact Wk.opt _ _ (by first | assumption | rfl) | exact Wk.gr _ _ | exact Wk.nil_gr | exact Wk.trans (Wk.opt _ _ (by first | assumption | rfl)) (by first | exact Wk.gr _ _ | exact Wk.nil | exact Wk.clip _ | exact Wk.tip _ _ _) | exact Wk.aggs (by repeat (first | exact Wks.nil | refine Wks.cons (by first | exact Wk.refl _ | exact Wk.nil | exact Wk.clip _ | exact Wk.tip _ _ _ | exact Wk.gr _ _ | exact Wk.nil_gr) ?_)) rfl) ?_))), rfl⟩) (hs := (by repeat (first | exact List.Sublist.refl _ | apply List.Sublist.cons | apply Sl.gB)))

noncomputable def l_ref9_assets_b1 (s170 : List Txt) (s214 : Txt) (s244 : Bool) (s245 : Int) : Option ((Bool × Int) ⊕ (Bool × Int)) :=
cond (decide (s245 < (s170.length : Int))) (
(grd ((!s244)) (idxO s170 s245)).bind fun x257 =>
(ensure (-9223372036854775808 ≤ s245 + 1 ∧ s245 + 1 ≤ 9223372036854775807)).bind fun _ =>
some (.inl ((s244 || (decide (x257 = s214))), (s245 + 1)))) (
some (.inr (s244, s245)))
noncomputable def l_ref9_assets_b0 (a0 : SBook) (s170 : List Txt) (s173 : Int) : Option (((List Txt) × Int) ⊕ ((List Txt) × Int)) :=
(ensure (-9223372036854775808 ≤ (a0.Funds.length : Int) + (a0.Escrows.length : Int) ∧ (a0.Funds.length : Int) + (a0.Escrows.length : Int) ≤ 9223372036854775807)).bind fun _ =>
cond (decide (s173 < ((a0.Funds.length : Int) + (a0.Escrows.length : Int)))) (
Option.bind (α := Txt) (
cond (decide (s173 < (a0.Funds.length : Int))) (
(idxO a0.Funds s173).bind fun x220 =>
some x220.Asset) (
(ensure (-9223372036854775808 ≤ s173 - (a0.Funds.length : Int) ∧ s173 - (a0.Funds.length : Int) ≤ 9223372036854775807)).bind fun _ =>
(idxO a0.Escrows (s173 - (a0.Funds.length : Int))).bind fun x224 =>
(l_ref9_arc x224).bind fun x227 =>
(grd (x227.2) (ensure (-9223372036854775808 ≤ s173 - (a0.Funds.length : Int) ∧ s173 - (a0.Funds.length : Int) ≤ 9223372036854775807))).bind fun _ =>
cond (x227.2 && (x224.State == 1)) (
some x227.1.Asset) (
some (⟨#[]⟩ : Txt)))) fun j215 => (match j215 with
| s214 =>
Option.bind (loopF (τ := Bool × Int) (fun s : Bool × Int => l_ref9_assets_b1 s170 s214 s.1 s.2) ((decide (s214 = (⟨#[]⟩ : Txt))), 0)) fun oo246 => (match oo246 with
| (e253, e254) =>
cond (!e253) (
(ensure ((s170.length + [s214].length) * 16 ≤ 140737488355328)).bind fun _ =>
(ensure (-9223372036854775808 ≤ s173 + 1 ∧ s173 + 1 ≤ 9223372036854775807)).bind fun _ =>
some (.inl ((s170 ++ [s214]), (s173 + 1)))) (
(ensure (-9223372036854775808 ≤ s173 + 1 ∧ s173 + 1 ≤ 9223372036854775807)).bind fun _ =>
some (.inl (s170, (s173 + 1))))))) (
some (.inr (s170, s173)))
noncomputable def l_ref9_assets (a0 : SBook) : Option ((List Txt)) :=
Option.bind (loopF (τ := (List Txt) × Int) (fun s : (List Txt) × Int => l_ref9_assets_b0 a0 s.1 s.2) (([] : List Txt), 0)) fun oo174 => (match oo174 with
| (e181, e184) =>
some e181)
theorem c_ref9_assets {a0 : SBook} {r : (List Txt)} (hF : l_ref9_assets a0 = some r) : APure Try.prog 65 [.agg (rBook a0)] (.sl (r.map strR)) := fun bs => by
  unfold l_ref9_assets at hF
  refine ACalls.wk ?_
  refine ACalls.in_ Try.func65 Try.ntmps65 (h := ?_)
  (repeat refine gc (h := ?_))
  refine AW.region ?_
  (repeat refine gl (h := ?_))
  intro g1
  (repeat refine gl (h := ?_))
  (repeat refine gc (h := ?_))
  refine AW.region ?_
  (repeat refine gl (h := ?_))
  (repeat refine gc (h := ?_))
  refine AW.region ?_
  (repeat refine gl (h := ?_))
  obtain ⟨oo174, hL175, hO176⟩ := bnd hF
  (repeat refine gc (h := ?_))
  refine AW.join2_1 (fun (e181 : List Txt) (e184 : Int) (o182 : OG) => [(0, .agg (rBook a0)), (1, .ptr g1 0), (2, .nil), (3, .gr o182 (e181.map strR)), (4, iA e184)]) (fun (e181 : List Txt) (e184 : Int) (o182 : OG) => gB o182 e181.length 1 9 ((g1, .cells [iA a0.Number, iA a0.Time, .sl (a0.Accounts.map strR), .sl (a0.Funds.map rFund), .sl (a0.Escrows.map rEscrow)]) :: bs)) (fun (e181 : List Txt) (e184 : Int) (o182 : OG) => oo174 = (e181, e184)) ?_ (fun e181 e184 o182 hs267 => ?_)
  · (repeat refine gc (h := ?_))
    refine AW.block ?_
    refine AW.loopF2_1 hL175 (fun (s170 : List Txt) (s173 : Int) (o171 : OG) => [(0, .agg (rBook a0)), (1, .ptr g1 0), (2, .nil), (3, .gr o171 (s170.map strR)), (4, iA s173)]) (fun (s170 : List Txt) (s173 : Int) (o171 : OG) => gB o171 s170.length 1 9 ((g1, .cells [iA a0.Number, iA a0.Time, .sl (a0.Accounts.map strR), .sl (a0.Funds.map rFund), .sl (a0.Escrows.map rEscrow)]) :: bs)) (fun (s170 : List Txt) (s173 : Int) (o171 : OG) => True) none trivial (by repeat (first | exact Sub.nil | refine Sub.cons (k := ?_))) rfl (fun s170 s173 o171 v177 hp178 hF => ?_)
    replace hF : l_ref9_assets_b0 a0 s170 s173 = some v177 := hF
    unfold l_ref9_assets_b0 at hF
    (repeat refine gc (h := ?_))
    obtain ⟨he185, hF⟩ := ens hF
    (repeat refine gc (h := ?_))
    refine AW.region ?_
    (repeat refine gl (h := ?_))
    (repeat refine gc (h := ?_))
    refine AW.cond (b := (decide (s173 < ((a0.Funds.length : Int) + (a0.Escrows.length : Int))))) rfl (fun hc187 => ?_) (fun hc187 => ?_)
    · replace hF := cnd_t hc187 hF
      have hc187p := of_decide_eq_true hc187
      (repeat refine gc (h := ?_))
      (repeat refine gc (h := ?_))
      refine AW.block ?_
      (repeat refine gc (h := ?_))
      refine AW.region ?_
      (repeat refine gl (h := ?_))
      (repeat refine gc (h := ?_))
      refine AW.region ?_
      (repeat refine gl (h := ?_))
      obtain ⟨j215, hF, hO216⟩ := bnd hF
      (repeat refine gc (h := ?_))
      refine AW.join1_0 (fun (s214 : Txt) => [(0, .agg (rBook a0)), (1, .ptr g1 0), (2, .nil), (3, .gr o171 (s170.map strR)), (4, iA s173), (5, sA s214)]) (fun (s214 : Txt) => gB o171 s170.length 1 9 ((g1, .cells [iA a0.Number, iA a0.Time, .sl (a0.Accounts.map strR), .sl (a0.Funds.map rFund), .sl (a0.Escrows.map rEscrow)]) :: bs)) (fun (s214 : Txt) => j215 = s214) ?_ (fun s214 hs217 => ?_)
      · (repeat refine gc (h := ?_))
        refine AW.cond (b := (decide (s173 < (a0.Funds.length : Int)))) rfl (fun hc219 => ?_) (fun hc219 => ?_)
        · replace hF := cnd_t hc219 hF
          have hc219p := of_decide_eq_true hc219
          (repeat refine gc (h := ?_))
          obtain ⟨x220, h221, h222, hF⟩ := idx_b hF
          (repeat refine gc (h := ?_))
          refine AW.region ?_
          (repeat refine gl (h := ?_))
          (repeat refine gc (h := ?_))
          exact jnQ1_0.n x220.Asset (some_inj hF) (by repeat (first | exact Sub.nil | refine Sub.cons (k := ?_))) (by repeat (first | exact List.Sublist.refl _ | apply List.Sublist.cons | apply Sl.gB))
        · replace hF := cnd_f hc219 hF
          have hc219p := of_decide_eq_false hc219
          (repeat refine gc (h := ?_))
          obtain ⟨he223, hF⟩ := ens hF
          obtain ⟨x224, h225, h226, hF⟩ := idx_b hF
          obtain ⟨x227, hc228, hF⟩ := bnd hF
          (repeat refine gc (h := ?_))
          refine AW.region ?_
          (repeat refine gl (h := ?_))
          refine AL.call (c_ref9_arc hc228) (h := ?_)
          (repeat refine gl (h := ?_))
          intro g229
          (repeat refine gl (h := ?_))
          obtain ⟨_, he230, hF⟩ := grd_b hF
          replace he230 : x227.2 = true → -9223372036854775808 ≤ s173 - (a0.Funds.length : Int) ∧ s173 - (a0.Funds.length : Int) ≤ 9223372036854775807 := fun hb => ens1 (he230 hb)
          (repeat refine gc (h := ?_))
          refine AW.region ?_
          (repeat refine gl (h := ?_))
          try refine AL.gd (hq := fun hgb => OpQ.sub rfl (by first | exact Wk.refl _ | exact Wk.nil | exact Wk.clip _ | exact Wk.tip _ _ _ | exact Wk.opt _ _ (by first | assumption | rfl) | exact Wk.gr _ _ | exact Wk.nil_gr | exact Wk.trans (Wk.opt _ _ (by first | assumption | rfl)) (by first | exact Wk.gr _ _ | exact Wk.nil | exact Wk.clip _ | exact Wk.tip _ _ _) | exact Wk.aggs (by repeat (first | exact Wks.nil | refine Wks.cons (by first | exact Wk.refl _ | exact Wk.nil | exact Wk.clip _ | exact Wk.tip _ _ _ | exact Wk.gr _ _ | exact Wk.nil_gr) ?_)) rfl) (by first | exact Wk.refl _ | exact Wk.nil | exact Wk.clip _ | exact Wk.tip _ _ _ | exact Wk.opt _ _ (by first | assumption | rfl) | exact Wk.gr _ _ | exact Wk.nil_gr | exact Wk.trans (Wk.opt _ _ (by first | assumption | rfl)) (by first | exact Wk.gr _ _ | exact Wk.nil | exact Wk.clip _ | exact Wk.tip _ _ _) | exact Wk.aggs (by repeat (first | exact Wks.nil | refine Wks.cons (by first | exact Wk.refl _ | exact Wk.nil | exact Wk.clip _ | exact Wk.tip _ _ _ | exact Wk.gr _ _ | exact Wk.nil_gr) ?_)) rfl) (he230 hgb)) (h := ?_)
          (repeat refine gl (h := ?_))
          (repeat refine gc (h := ?_))
          refine AW.cond (b := (x227.2 && (x224.State == 1))) rfl (fun hc231 => ?_) (fun hc231 => ?_)
          · replace hF := cnd_t hc231 hF
            (repeat refine gc (h := ?_))
            (repeat refine gc (h := ?_))
            refine AW.region ?_
            (repeat refine gl (h := ?_))
            (repeat refine gc (h := ?_))
            exact jnQ1_0.n x227.1.Asset (some_inj hF) (by repeat (first | exact Sub.nil | refine Sub.cons (k := ?_))) (by repeat (first | exact List.Sublist.refl _ | apply List.Sublist.cons | apply Sl.gB))
          · replace hF := cnd_f hc231 hF
            (repeat refine gc (h := ?_))
            (repeat refine gc (h := ?_))
            exact jnQ1_0.n (⟨#[]⟩ : Txt) (some_inj hF) (by repeat (first | exact Sub.nil | refine Sub.cons (k := ?_))) (by repeat (first | exact List.Sublist.refl _ | apply List.Sublist.cons | apply Sl.gB))
      · obtain rfl := hs217.symm
        replace hF := hO216
        try dsimp only at hF
        (repeat refine gc (h := ?_))
        (repeat refine gc (h := ?_))
        refine AW.region ?_
        (repeat refine gl (h := ?_))
        (repeat refine gc (h := ?_))
        refine AW.region ?_
        (repeat refine gl (h := ?_))
        obtain ⟨oo246, hL247, hO248⟩ := bnd hF
        (repeat refine gc (h := ?_))
        refine AW.join2_0 (fun (e253 : Bool) (e254 : Int) => [(0, .agg (rBook a0)), (1, .ptr g1 0), (2, .nil), (3, .gr o171 (s170.map strR)), (4, iA s173), (5, sA s214), (8, bA e253), (9, iA e254)]) (fun (e253 : Bool) (e254 : Int) => gB o171 s170.length 1 9 ((g1, .cells [iA a0.Number, iA a0.Time, .sl (a0.Accounts.map strR), .sl (a0.Funds.map rFund), .sl (a0.Escrows.map rEscrow)]) :: bs)) (fun (e253 : Bool) (e254 : Int) => oo246 = (e253, e254)) ?_ (fun e253 e254 hs266 => ?_)
        · (repeat refine gc (h := ?_))
          refine AW.block ?_
          refine AW.loopF2_0 hL247 (fun (s244 : Bool) (s245 : Int) => [(0, .agg (rBook a0)), (1, .ptr g1 0), (2, .nil), (3, .gr o171 (s170.map strR)), (4, iA s173), (5, sA s214), (8, bA s244), (9, iA s245)]) (fun (s244 : Bool) (s245 : Int) => gB o171 s170.length 1 9 ((g1, .cells [iA a0.Number, iA a0.Time, .sl (a0.Accounts.map strR), .sl (a0.Funds.map rFund), .sl (a0.Escrows.map rEscrow)]) :: bs)) (fun (s244 : Bool) (s245 : Int) => True)  trivial (by repeat (first | exact Sub.nil | refine Sub.cons (k := ?_))) rfl (fun s244 s245 v249 hp250 hF => ?_)
          replace hF : l_ref9_assets_b1 s170 s214 s244 s245 = some v249 := hF
          unfold l_ref9_assets_b1 at hF
          (repeat refine gc (h := ?_))
          (repeat refine gc (h := ?_))
          refine AW.region ?_
          (repeat refine gl (h := ?_))
          (repeat refine gc (h := ?_))
          refine AW.cond (b := (decide (s245 < (s170.length : Int)))) rfl (fun hc256 => ?_) (fun hc256 => ?_)
          · replace hF := cnd_t hc256 hF
            have hc256p := of_decide_eq_true hc256
            (repeat refine gc (h := ?_))
            (repeat refine gc (h := ?_))
            refine AW.block ?_
            obtain ⟨x257, h258, hF⟩ := grd_b hF
            (repeat refine gc (h := ?_))
            refine AW.region ?_
            (repeat refine gl (h := ?_))
            try refine AL.gd (hq := fun hgb => OpQ.idx_map rfl (by first | exact Wk.refl _ | exact Wk.nil | exact Wk.clip _ | exact Wk.tip _ _ _ | exact Wk.opt _ _ (by first | assumption | rfl) | exact Wk.gr _ _ | exact Wk.nil_gr | exact Wk.trans (Wk.opt _ _ (by first | assumption | rfl)) (by first | exact Wk.gr _ _ | exact Wk.nil | exact Wk.clip _ | exact Wk.tip _ _ _) | exact Wk.aggs (by repeat (first | exact Wks.nil | refine Wks.cons (by first | exact Wk.refl _ | exact Wk.nil | exact Wk.clip _ | exact Wk.tip _ _ _ | exact Wk.gr _ _ | exact Wk.nil_gr) ?_)) rfl) (by first | exact Wk.refl _ | exact Wk.nil | exact Wk.clip _ | exact Wk.tip _ _ _ | exact Wk.opt _ _ (by first | assumption | rfl) | exact Wk.gr _ _ | exact Wk.nil_gr | exact Wk.trans (Wk.opt _ _ (by first | assumption | rfl)) (by first | exact Wk.gr _ _ | exact Wk.nil | exact Wk.clip _ | exact Wk.tip _ _ _) | exact Wk.aggs (by repeat (first | exact Wks.nil | refine Wks.cons (by first | exact Wk.refl _ | exact Wk.nil | exact Wk.clip _ | exact Wk.tip _ _ _ | exact Wk.gr _ _ | exact Wk.nil_gr) ?_)) rfl) (idxO_some (h258 hgb)).1 (idxO_some (h258 hgb)).2 (by rfl)) (h := ?_)
            (repeat refine gl (h := ?_))
            obtain ⟨he259, hF⟩ := ens hF
            (repeat refine gc (h := ?_))
            refine AW.region ?_
            (repeat refine gl (h := ?_))
            (repeat refine gc (h := ?_))
            exact lpQ2_0.n (s244 || (decide (x257 = s214))) (s245 + 1) (some_inj hF) trivial (by repeat (first | exact Sub.nil | refine Sub.cons (k := ?_))) (by repeat (first | exact List.Sublist.refl _ | apply List.Sublist.cons | apply Sl.gB))
          · replace hF := cnd_f hc256 hF
            have hc256p := of_decide_eq_false hc256
            (repeat refine gc (h := ?_))
            obtain rfl := some_inj hF
            (repeat refine gc (h := ?_))
            refine lpQ2_0.e _ rfl (fun ho252 => ?_)
            (repeat refine gc (h := ?_))
            exact jnQ2_0.n s244 s245 ho252 (by repeat (first | exact Sub.nil | refine Sub.cons (k := ?_))) (by repeat (first | exact List.Sublist.refl _ | apply List.Sublist.cons | apply Sl.gB))
        · obtain rfl := hs266.symm
          replace hF := hO248
          try dsimp only at hF
          (repeat refine gc (h := ?_))
          (repeat refine gc (h := ?_))
          refine AW.region ?_
          (repeat refine gl (h := ?_))
          (repeat refine gc (h := ?_))
          refine AW.cond (b := (!e253)) rfl (fun hc260 => ?_) (fun hc260 => ?_)
          · replace hF := cnd_t hc260 hF
            (repeat refine gc (h := ?_))
            obtain ⟨he261, hF⟩ := ens hF
            (repeat refine gc (h := ?_))
            refine AW.region ?_
            (repeat refine gl (h := ?_))
            refine AL.grow (R := strR) (l := s170) (l2 := [s214]) (rs := (s170 ++ [s214])) .here rfl he261 (fun _ => rfl) (h := fun o262 => ?_)
            (repeat refine gl (h := ?_))
            obtain ⟨he264, hF⟩ := ens hF
            (repeat refine gc (h := ?_))
            refine AW.region ?_
            (repeat refine gl (h := ?_))
            (repeat refine gc (h := ?_))
            exact lpQ2_1.n (s170 ++ [s214]) (s173 + 1) o262 (some_inj hF) trivial (by repeat (first | exact Sub.nil | refine Sub.cons (k := ?_))) (by repeat (first | exact List.Sublist.refl _ | apply List.Sublist.cons | apply Sl.gB))
          · replace hF := cnd_f hc260 hF
            (repeat refine gc (h := ?_))
            obtain ⟨he265, hF⟩ := ens hF
            (repeat refine gc (h := ?_))
            refine AW.region ?_
            (repeat refine gl (h := ?_))
            (repeat refine gc (h := ?_))
            exact lpQ2_1.n s170 (s173 + 1) o171 (some_inj hF) trivial (by repeat (first | exact Sub.nil | refine Sub.cons (k := ?_))) (by repeat (first | exact List.Sublist.refl _ | apply List.Sublist.cons | apply Sl.gB))
    · replace hF := cnd_f hc187 hF
      have hc187p := of_decide_eq_false hc187
      (repeat refine gc (h := ?_))
      obtain rfl := some_inj hF
      (repeat refine gc (h := ?_))
      refine lpQ2_1.e _ rfl (fun ho180 => ?_)
      (repeat refine gc (h := ?_))
      exact jnQ2_1.n s170 s173 o171 ho180 (by repeat (first | exact Sub.nil | refine Sub.cons (k := ?_))) (by repeat (first | exact List.Sublist.refl _ | apply List.Sublist.cons | apply Sl.gB))
  · obtain rfl := hs267.symm
    replace hF := hO176
    try dsimp only at hF
    (repeat refine gc (h := ?_))
    (repeat refine gc (h := ?_))
    refine AW.region ?_
    (repeat refine gl (h := ?_))
    obtain rfl := some_inj hF
    (repeat refine gc (h := ?_))
    exact EndQ.fin (bs' := bs) (h := ⟨(by first | exact Wk.refl _ | exact (by first | exact Wk.refl _ | exact Wk.nil | exact Wk.clip _ | exact Wk.tip _ _ _ | exact Wk.opt _ _ (by first | assumption | rfl) | exact Wk.gr _ _ | exact Wk.nil_gr | exact Wk.trans (Wk.opt _ _ (by first | assumption | rfl)) (by first | exact Wk.gr _ _ | exact Wk.nil | exact Wk.clip _ | exact Wk.tip _ _ _) | exact Wk.aggs (by repeat (first | exact Wks.nil | refine Wks.cons (by first | exact Wk.refl _ | exact Wk.nil | exact Wk.clip _ | exact Wk.tip _ _ _ | exact Wk.gr _ _ | exact Wk.nil_gr) ?_)) rfl) | exact Wk.tups (by repeat (first | exact Wks.nil | refine Wks.cons (by first | exact Wk.refl _ | exact Wk.nil | exact Wk.clip _ | exact Wk.tip _ _ _ | exact Wk.opt _ _ (by first | assumption | rfl) | exact Wk.gr _ _ | exact Wk.nil_gr | exact Wk.trans (Wk.opt _ _ (by first | assumption | rfl)) (by first | exact Wk.gr _ _ | exact Wk.nil | exact Wk.clip _ | exact Wk.tip _ _ _) | exact Wk.aggs (by repeat (first | exact Wks.nil | refine Wks.cons (by first | exact Wk.refl _ | exact Wk.nil | exact Wk.clip _ | exact Wk.tip _ _ _ | exact Wk.gr _ _ | exact Wk.nil_gr) ?_)) rfl) ?_))), rfl⟩) (hs := (by repeat (first | exact List.Sublist.refl _ | apply List.Sublist.cons | apply Sl.gB)))

noncomputable def l_ref9_Total_b0 (a0 : SBook) (a1 : Txt) (s22 : Int) (s23 : Int) : Option ((Int × Int) ⊕ (Int × Int)) :=
cond (decide (s23 < (a0.Funds.length : Int))) (
(idxO a0.Funds s23).bind fun x35 =>
cond (decide (x35.Asset = a1)) (
(ensure (-9223372036854775808 ≤ s22 + x35.Amount ∧ s22 + x35.Amount ≤ 9223372036854775807)).bind fun _ =>
(ensure (-9223372036854775808 ≤ s23 + 1 ∧ s23 + 1 ≤ 9223372036854775807)).bind fun _ =>
some (.inl ((s22 + x35.Amount), (s23 + 1)))) (
(ensure (-9223372036854775808 ≤ s23 + 1 ∧ s23 + 1 ≤ 9223372036854775807)).bind fun _ =>
some (.inl (s22, (s23 + 1))))) (
some (.inr (s22, s23)))
noncomputable def l_ref9_Total_b1 (a0 : SBook) (a1 : Txt) (s68 : Int) (s69 : Int) : Option ((Int × Int) ⊕ (Int × Int)) :=
cond (decide (s69 < (a0.Escrows.length : Int))) (
(idxO a0.Escrows s69).bind fun x81 =>
(l_ref9_arc x81).bind fun x84 =>
cond ((x84.2 && (x81.State == 1)) && (decide (x84.1.Asset = a1))) (
(ensure (-9223372036854775808 ≤ s68 + x84.1.Amount ∧ s68 + x84.1.Amount ≤ 9223372036854775807)).bind fun _ =>
(ensure (-9223372036854775808 ≤ s69 + 1 ∧ s69 + 1 ≤ 9223372036854775807)).bind fun _ =>
some (.inl ((s68 + x84.1.Amount), (s69 + 1)))) (
(ensure (-9223372036854775808 ≤ s69 + 1 ∧ s69 + 1 ≤ 9223372036854775807)).bind fun _ =>
some (.inl (s68, (s69 + 1))))) (
some (.inr (s68, s69)))
noncomputable def l_ref9_Total (a0 : SBook) (a1 : Txt) : Option (Int) :=
Option.bind (loopF (τ := Int × Int) (fun s : Int × Int => l_ref9_Total_b0 a0 a1 s.1 s.2) (0, 0)) fun oo24 => (match oo24 with
| (e31, e32) =>
Option.bind (loopF (τ := Int × Int) (fun s : Int × Int => l_ref9_Total_b1 a0 a1 s.1 s.2) (e31, 0)) fun oo70 => (match oo70 with
| (e77, e78) =>
some e77))
theorem c_ref9_Total {a0 : SBook} {a1 : Txt} {r : Int} (hF : l_ref9_Total a0 a1 = some r) : APure Try.prog 50 [.agg (rBook a0), sA a1] (iA r) := fun bs => by
  unfold l_ref9_Total at hF
  refine ACalls.wk ?_
  refine ACalls.in_ Try.func50 Try.ntmps50 (h := ?_)
  (repeat refine gc (h := ?_))
  refine AW.region ?_
  (repeat refine gl (h := ?_))
  intro g1
  (repeat refine gl (h := ?_))
  (repeat refine gc (h := ?_))
  refine AW.region ?_
  (repeat refine gl (h := ?_))
  (repeat refine gc (h := ?_))
  refine AW.region ?_
  (repeat refine gl (h := ?_))
  obtain ⟨oo24, hL25, hO26⟩ := bnd hF
  (repeat refine gc (h := ?_))
  refine AW.join2_0 (fun (e31 : Int) (e32 : Int) => [(0, .agg (rBook a0)), (1, sA a1), (2, .ptr g1 0), (4, iA 0), (5, iA e31), (6, iA e32)]) (fun (e31 : Int) (e32 : Int) => (g1, .cells [iA a0.Number, iA a0.Time, .sl (a0.Accounts.map strR), .sl (a0.Funds.map rFund), .sl (a0.Escrows.map rEscrow)]) :: bs) (fun (e31 : Int) (e32 : Int) => oo24 = (e31, e32)) ?_ (fun e31 e32 hs92 => ?_)
  · (repeat refine gc (h := ?_))
    refine AW.block ?_
    refine AW.loopF2_0 hL25 (fun (s22 : Int) (s23 : Int) => [(0, .agg (rBook a0)), (1, sA a1), (2, .ptr g1 0), (4, iA 0), (5, iA s22), (6, iA s23)]) (fun (s22 : Int) (s23 : Int) => (g1, .cells [iA a0.Number, iA a0.Time, .sl (a0.Accounts.map strR), .sl (a0.Funds.map rFund), .sl (a0.Escrows.map rEscrow)]) :: bs) (fun (s22 : Int) (s23 : Int) => True)  trivial (by repeat (first | exact Sub.nil | refine Sub.cons (k := ?_))) rfl (fun s22 s23 v27 hp28 hF => ?_)
    replace hF : l_ref9_Total_b0 a0 a1 s22 s23 = some v27 := hF
    unfold l_ref9_Total_b0 at hF
    (repeat refine gc (h := ?_))
    (repeat refine gc (h := ?_))
    refine AW.region ?_
    (repeat refine gl (h := ?_))
    (repeat refine gc (h := ?_))
    refine AW.cond (b := (decide (s23 < (a0.Funds.length : Int)))) rfl (fun hc34 => ?_) (fun hc34 => ?_)
    · replace hF := cnd_t hc34 hF
      have hc34p := of_decide_eq_true hc34
      (repeat refine gc (h := ?_))
      (repeat refine gc (h := ?_))
      refine AW.block ?_
      obtain ⟨x35, h36, h37, hF⟩ := idx_b hF
      (repeat refine gc (h := ?_))
      refine AW.region ?_
      (repeat refine gl (h := ?_))
      (repeat refine gc (h := ?_))
      refine AW.cond (b := (decide (x35.Asset = a1))) rfl (fun hc38 => ?_) (fun hc38 => ?_)
      · replace hF := cnd_t hc38 hF
        have hc38p := of_decide_eq_true hc38
        (repeat refine gc (h := ?_))
        obtain ⟨he39, hF⟩ := ens hF
        (repeat refine gc (h := ?_))
        refine AW.region ?_
        (repeat refine gl (h := ?_))
        obtain ⟨he40, hF⟩ := ens hF
        (repeat refine gc (h := ?_))
        refine AW.region ?_
        (repeat refine gl (h := ?_))
        (repeat refine gc (h := ?_))
        exact lpQ2_0.n (s22 + x35.Amount) (s23 + 1) (some_inj hF) trivial (by repeat (first | exact Sub.nil | refine Sub.cons (k := ?_))) (by repeat (first | exact List.Sublist.refl _ | apply List.Sublist.cons | apply Sl.gB))
      · replace hF := cnd_f hc38 hF
        have hc38p := of_decide_eq_false hc38
        (repeat refine gc (h := ?_))
        obtain ⟨he41, hF⟩ := ens hF
        (repeat refine gc (h := ?_))
        refine AW.region ?_
        (repeat refine gl (h := ?_))
        (repeat refine gc (h := ?_))
        exact lpQ2_0.n s22 (s23 + 1) (some_inj hF) trivial (by repeat (first | exact Sub.nil | refine Sub.cons (k := ?_))) (by repeat (first | exact List.Sublist.refl _ | apply List.Sublist.cons | apply Sl.gB))
    · replace hF := cnd_f hc34 hF
      have hc34p := of_decide_eq_false hc34
      (repeat refine gc (h := ?_))
      obtain rfl := some_inj hF
      (repeat refine gc (h := ?_))
      refine lpQ2_0.e _ rfl (fun ho30 => ?_)
      (repeat refine gc (h := ?_))
      exact jnQ2_0.n s22 s23 ho30 (by repeat (first | exact Sub.nil | refine Sub.cons (k := ?_))) (by repeat (first | exact List.Sublist.refl _ | apply List.Sublist.cons | apply Sl.gB))
  · obtain rfl := hs92.symm
    replace hF := hO26
    try dsimp only at hF
    (repeat refine gc (h := ?_))
    (repeat refine gc (h := ?_))
    refine AW.region ?_
    (repeat refine gl (h := ?_))
    obtain ⟨oo70, hL71, hO72⟩ := bnd hF
    (repeat refine gc (h := ?_))
    refine AW.join2_0 (fun (e77 : Int) (e78 : Int) => [(0, .agg (rBook a0)), (1, sA a1), (2, .ptr g1 0), (4, iA 0), (5, iA e77), (6, iA e32), (7, iA e78)]) (fun (e77 : Int) (e78 : Int) => (g1, .cells [iA a0.Number, iA a0.Time, .sl (a0.Accounts.map strR), .sl (a0.Funds.map rFund), .sl (a0.Escrows.map rEscrow)]) :: bs) (fun (e77 : Int) (e78 : Int) => oo70 = (e77, e78)) ?_ (fun e77 e78 hs91 => ?_)
    · (repeat refine gc (h := ?_))
      refine AW.block ?_
      refine AW.loopF2_0 hL71 (fun (s68 : Int) (s69 : Int) => [(0, .agg (rBook a0)), (1, sA a1), (2, .ptr g1 0), (4, iA 0), (5, iA s68), (6, iA e32), (7, iA s69)]) (fun (s68 : Int) (s69 : Int) => (g1, .cells [iA a0.Number, iA a0.Time, .sl (a0.Accounts.map strR), .sl (a0.Funds.map rFund), .sl (a0.Escrows.map rEscrow)]) :: bs) (fun (s68 : Int) (s69 : Int) => True)  trivial (by repeat (first | exact Sub.nil | refine Sub.cons (k := ?_))) rfl (fun s68 s69 v73 hp74 hF => ?_)
      replace hF : l_ref9_Total_b1 a0 a1 s68 s69 = some v73 := hF
      unfold l_ref9_Total_b1 at hF
      (repeat refine gc (h := ?_))
      (repeat refine gc (h := ?_))
      refine AW.region ?_
      (repeat refine gl (h := ?_))
      (repeat refine gc (h := ?_))
      refine AW.cond (b := (decide (s69 < (a0.Escrows.length : Int)))) rfl (fun hc80 => ?_) (fun hc80 => ?_)
      · replace hF := cnd_t hc80 hF
        have hc80p := of_decide_eq_true hc80
        (repeat refine gc (h := ?_))
        (repeat refine gc (h := ?_))
        refine AW.block ?_
        obtain ⟨x81, h82, h83, hF⟩ := idx_b hF
        obtain ⟨x84, hc85, hF⟩ := bnd hF
        (repeat refine gc (h := ?_))
        refine AW.region ?_
        (repeat refine gl (h := ?_))
        refine AL.call (c_ref9_arc hc85) (h := ?_)
        (repeat refine gl (h := ?_))
        intro g86
        (repeat refine gl (h := ?_))
        (repeat refine gc (h := ?_))
        refine AW.region ?_
        (repeat refine gl (h := ?_))
        (repeat refine gc (h := ?_))
        refine AW.cond (b := ((x84.2 && (x81.State == 1)) && (decide (x84.1.Asset = a1)))) rfl (fun hc87 => ?_) (fun hc87 => ?_)
        · replace hF := cnd_t hc87 hF
          (repeat refine gc (h := ?_))
          obtain ⟨he88, hF⟩ := ens hF
          (repeat refine gc (h := ?_))
          refine AW.region ?_
          (repeat refine gl (h := ?_))
          obtain ⟨he89, hF⟩ := ens hF
          (repeat refine gc (h := ?_))
          refine AW.region ?_
          (repeat refine gl (h := ?_))
          (repeat refine gc (h := ?_))
          exact lpQ2_0.n (s68 + x84.1.Amount) (s69 + 1) (some_inj hF) trivial (by repeat (first | exact Sub.nil | refine Sub.cons (k := ?_))) (by repeat (first | exact List.Sublist.refl _ | apply List.Sublist.cons | apply Sl.gB))
        · replace hF := cnd_f hc87 hF
          (repeat refine gc (h := ?_))
          obtain ⟨he90, hF⟩ := ens hF
          (repeat refine gc (h := ?_))
          refine AW.region ?_
          (repeat refine gl (h := ?_))
          (repeat refine gc (h := ?_))
          exact lpQ2_0.n s68 (s69 + 1) (some_inj hF) trivial (by repeat (first | exact Sub.nil | refine Sub.cons (k := ?_))) (by repeat (first | exact List.Sublist.refl _ | apply List.Sublist.cons | apply Sl.gB))
      · replace hF := cnd_f hc80 hF
        have hc80p := of_decide_eq_false hc80
        (repeat refine gc (h := ?_))
        obtain rfl := some_inj hF
        (repeat refine gc (h := ?_))
        refine lpQ2_0.e _ rfl (fun ho76 => ?_)
        (repeat refine gc (h := ?_))
        exact jnQ2_0.n s68 s69 ho76 (by repeat (first | exact Sub.nil | refine Sub.cons (k := ?_))) (by repeat (first | exact List.Sublist.refl _ | apply List.Sublist.cons | apply Sl.gB))
    · obtain rfl := hs91.symm
      replace hF := hO72
      try dsimp only at hF
      (repeat refine gc (h := ?_))
      (repeat refine gc (h := ?_))
      refine AW.region ?_
      (repeat refine gl (h := ?_))
      obtain rfl := some_inj hF
      (repeat refine gc (h := ?_))
      exact EndQ.fin (bs' := bs) (h := ⟨(by first | exact Wk.refl _ | exact (by first | exact Wk.refl _ | exact Wk.nil | exact Wk.clip _ | exact Wk.tip _ _ _ | exact Wk.opt _ _ (by first | assumption | rfl) | exact Wk.gr _ _ | exact Wk.nil_gr | exact Wk.trans (Wk.opt _ _ (by first | assumption | rfl)) (by first | exact Wk.gr _ _ | exact Wk.nil | exact Wk.clip _ | exact Wk.tip _ _ _) | exact Wk.aggs (by repeat (first | exact Wks.nil | refine Wks.cons (by first | exact Wk.refl _ | exact Wk.nil | exact Wk.clip _ | exact Wk.tip _ _ _ | exact Wk.gr _ _ | exact Wk.nil_gr) ?_)) rfl) | exact Wk.tups (by repeat (first | exact Wks.nil | refine Wks.cons (by first | exact Wk.refl _ | exact Wk.nil | exact Wk.clip _ | exact Wk.tip _ _ _ | exact Wk.opt _ _ (by first | assumption | rfl) | exact Wk.gr _ _ | exact Wk.nil_gr | exact Wk.trans (Wk.opt _ _ (by first | assumption | rfl)) (by first | exact Wk.gr _ _ | exact Wk.nil | exact Wk.clip _ | exact Wk.tip _ _ _) | exact Wk.aggs (by repeat (first | exact Wks.nil | refine Wks.cons (by first | exact Wk.refl _ | exact Wk.nil | exact Wk.clip _ | exact Wk.tip _ _ _ | exact Wk.gr _ _ | exact Wk.nil_gr) ?_)) rfl) ?_))), rfl⟩) (hs := (by repeat (first | exact List.Sublist.refl _ | apply List.Sublist.cons | apply Sl.gB)))

noncomputable def l_ref9_fund_b0 (a0 : SBook) (a1 : Txt) (a2 : Txt) (s17 : Int) : Option ((Int) ⊕ (Int ⊕ Int)) :=
cond (decide (s17 < (a0.Funds.length : Int))) (
(idxO a0.Funds s17).bind fun x28 =>
cond ((decide (x28.Account = a1)) && (decide (x28.Asset = a2))) (
some (.inr (.inr x28.Amount))) (
(ensure (-9223372036854775808 ≤ s17 + 1 ∧ s17 + 1 ≤ 9223372036854775807)).bind fun _ =>
some (.inl (s17 + 1)))) (
some (.inr (.inl s17)))
noncomputable def l_ref9_fund (a0 : SBook) (a1 : Txt) (a2 : Txt) : Option (Int) :=
Option.bind (loopF (τ := (Int ⊕ Int)) (fun s : Int => l_ref9_fund_b0 a0 a1 a2 s) 0) fun oo18 => (match oo18 with
| .inl e25 =>
some 0
| .inr r23 => some r23)
theorem c_ref9_fund {a0 : SBook} {a1 : Txt} {a2 : Txt} {r : Int} (hF : l_ref9_fund a0 a1 a2 = some r) : APure Try.prog 67 [.agg (rBook a0), sA a1, sA a2] (iA r) := fun bs => by
  unfold l_ref9_fund at hF
  refine ACalls.wk ?_
  refine ACalls.in_ Try.func67 Try.ntmps67 (h := ?_)
  (repeat refine gc (h := ?_))
  refine AW.region ?_
  (repeat refine gl (h := ?_))
  intro g1
  (repeat refine gl (h := ?_))
  (repeat refine gc (h := ?_))
  refine AW.region ?_
  (repeat refine gl (h := ?_))
  obtain ⟨oo18, hL19, hO20⟩ := bnd hF
  (repeat refine gc (h := ?_))
  refine AW.join1_0 (fun (e25 : Int) => [(0, .agg (rBook a0)), (1, sA a1), (2, sA a2), (3, .ptr g1 0), (6, iA 0), (7, iA e25)]) (fun (e25 : Int) => (g1, .cells [iA a0.Number, iA a0.Time, .sl (a0.Accounts.map strR), .sl (a0.Funds.map rFund), .sl (a0.Escrows.map rEscrow)]) :: bs) (fun (e25 : Int) => oo18 = .inl e25) ?_ (fun e25 hs33 => ?_)
  · (repeat refine gc (h := ?_))
    refine AW.block ?_
    refine AW.loopF1_0 hL19 (fun (s17 : Int) => [(0, .agg (rBook a0)), (1, sA a1), (2, sA a2), (3, .ptr g1 0), (6, iA 0), (7, iA s17)]) (fun (s17 : Int) => (g1, .cells [iA a0.Number, iA a0.Time, .sl (a0.Accounts.map strR), .sl (a0.Funds.map rFund), .sl (a0.Escrows.map rEscrow)]) :: bs) (fun (s17 : Int) => True)  trivial (by repeat (first | exact Sub.nil | refine Sub.cons (k := ?_))) rfl (fun s17 v21 hp22 hF => ?_)
    replace hF : l_ref9_fund_b0 a0 a1 a2 s17 = some v21 := hF
    unfold l_ref9_fund_b0 at hF
    (repeat refine gc (h := ?_))
    (repeat refine gc (h := ?_))
    refine AW.region ?_
    (repeat refine gl (h := ?_))
    (repeat refine gc (h := ?_))
    refine AW.cond (b := (decide (s17 < (a0.Funds.length : Int)))) rfl (fun hc27 => ?_) (fun hc27 => ?_)
    · replace hF := cnd_t hc27 hF
      have hc27p := of_decide_eq_true hc27
      (repeat refine gc (h := ?_))
      (repeat refine gc (h := ?_))
      refine AW.block ?_
      obtain ⟨x28, h29, h30, hF⟩ := idx_b hF
      (repeat refine gc (h := ?_))
      refine AW.region ?_
      (repeat refine gl (h := ?_))
      (repeat refine gc (h := ?_))
      refine AW.cond (b := ((decide (x28.Account = a1)) && (decide (x28.Asset = a2)))) rfl (fun hc31 => ?_) (fun hc31 => ?_)
      · replace hF := cnd_t hc31 hF
        (repeat refine gc (h := ?_))
        (repeat refine gc (h := ?_))
        refine AW.region ?_
        (repeat refine gl (h := ?_))
        obtain rfl := some_inj hF
        (repeat refine gc (h := ?_))
        refine lpQ1_0.r _ rfl (fun ho24 => ?_)
        subst ho24
        replace hF := hO20
        (repeat refine gc (h := ?_))
        obtain rfl := some_inj hF
        (repeat refine gc (h := ?_))
        exact EndQ.fin (bs' := bs) (h := ⟨(by first | exact Wk.refl _ | exact (by first | exact Wk.refl _ | exact Wk.nil | exact Wk.clip _ | exact Wk.tip _ _ _ | exact Wk.opt _ _ (by first | assumption | rfl) | exact Wk.gr _ _ | exact Wk.nil_gr | exact Wk.trans (Wk.opt _ _ (by first | assumption | rfl)) (by first | exact Wk.gr _ _ | exact Wk.nil | exact Wk.clip _ | exact Wk.tip _ _ _) | exact Wk.aggs (by repeat (first | exact Wks.nil | refine Wks.cons (by first | exact Wk.refl _ | exact Wk.nil | exact Wk.clip _ | exact Wk.tip _ _ _ | exact Wk.gr _ _ | exact Wk.nil_gr) ?_)) rfl) | exact Wk.tups (by repeat (first | exact Wks.nil | refine Wks.cons (by first | exact Wk.refl _ | exact Wk.nil | exact Wk.clip _ | exact Wk.tip _ _ _ | exact Wk.opt _ _ (by first | assumption | rfl) | exact Wk.gr _ _ | exact Wk.nil_gr | exact Wk.trans (Wk.opt _ _ (by first | assumption | rfl)) (by first | exact Wk.gr _ _ | exact Wk.nil | exact Wk.clip _ | exact Wk.tip _ _ _) | exact Wk.aggs (by repeat (first | exact Wks.nil | refine Wks.cons (by first | exact Wk.refl _ | exact Wk.nil | exact Wk.clip _ | exact Wk.tip _ _ _ | exact Wk.gr _ _ | exact Wk.nil_gr) ?_)) rfl) ?_))), rfl⟩) (hs := (by repeat (first | exact List.Sublist.refl _ | apply List.Sublist.cons | apply Sl.gB)))
      · replace hF := cnd_f hc31 hF
        (repeat refine gc (h := ?_))
        obtain ⟨he32, hF⟩ := ens hF
        (repeat refine gc (h := ?_))
        refine AW.region ?_
        (repeat refine gl (h := ?_))
        (repeat refine gc (h := ?_))
        exact lpQ1_0.n (s17 + 1) (some_inj hF) trivial (by repeat (first | exact Sub.nil | refine Sub.cons (k := ?_))) (by repeat (first | exact List.Sublist.refl _ | apply List.Sublist.cons | apply Sl.gB))
    · replace hF := cnd_f hc27 hF
      have hc27p := of_decide_eq_false hc27
      (repeat refine gc (h := ?_))
      obtain rfl := some_inj hF
      (repeat refine gc (h := ?_))
      refine lpQ1_0.e _ rfl (fun ho24 => ?_)
      (repeat refine gc (h := ?_))
      exact jnQ1_0.n s17 ho24 (by repeat (first | exact Sub.nil | refine Sub.cons (k := ?_))) (by repeat (first | exact List.Sublist.refl _ | apply List.Sublist.cons | apply Sl.gB))
  · obtain rfl := hs33.symm
    replace hF := hO20
    try dsimp only at hF
    (repeat refine gc (h := ?_))
    (repeat refine gc (h := ?_))
    refine AW.region ?_
    (repeat refine gl (h := ?_))
    obtain rfl := some_inj hF
    (repeat refine gc (h := ?_))
    exact EndQ.fin (bs' := bs) (h := ⟨(by first | exact Wk.refl _ | exact (by first | exact Wk.refl _ | exact Wk.nil | exact Wk.clip _ | exact Wk.tip _ _ _ | exact Wk.opt _ _ (by first | assumption | rfl) | exact Wk.gr _ _ | exact Wk.nil_gr | exact Wk.trans (Wk.opt _ _ (by first | assumption | rfl)) (by first | exact Wk.gr _ _ | exact Wk.nil | exact Wk.clip _ | exact Wk.tip _ _ _) | exact Wk.aggs (by repeat (first | exact Wks.nil | refine Wks.cons (by first | exact Wk.refl _ | exact Wk.nil | exact Wk.clip _ | exact Wk.tip _ _ _ | exact Wk.gr _ _ | exact Wk.nil_gr) ?_)) rfl) | exact Wk.tups (by repeat (first | exact Wks.nil | refine Wks.cons (by first | exact Wk.refl _ | exact Wk.nil | exact Wk.clip _ | exact Wk.tip _ _ _ | exact Wk.opt _ _ (by first | assumption | rfl) | exact Wk.gr _ _ | exact Wk.nil_gr | exact Wk.trans (Wk.opt _ _ (by first | assumption | rfl)) (by first | exact Wk.gr _ _ | exact Wk.nil | exact Wk.clip _ | exact Wk.tip _ _ _) | exact Wk.aggs (by repeat (first | exact Wks.nil | refine Wks.cons (by first | exact Wk.refl _ | exact Wk.nil | exact Wk.clip _ | exact Wk.tip _ _ _ | exact Wk.gr _ _ | exact Wk.nil_gr) ?_)) rfl) ?_))), rfl⟩) (hs := (by repeat (first | exact List.Sublist.refl _ | apply List.Sublist.cons | apply Sl.gB)))

noncomputable def l_ref9_Put_b0 (a0 : SBook) (a1 : Txt) (a2 : Txt) (a3 : Int) (s74 : List SFund) (s77 : Bool) (s78 : Int) : Option (((List SFund) × Bool × Int) ⊕ ((List SFund) × Bool × Int)) :=
cond (decide (s78 < (a0.Funds.length : Int))) (
(idxO a0.Funds s78).bind fun x93 =>
cond ((decide (x93.Account = a1)) && (decide (x93.Asset = a2))) (
(ensure (-9223372036854775808 ≤ s78 + 1 ∧ s78 + 1 ≤ 9223372036854775807)).bind fun _ =>
some (.inl (s74, s77, (s78 + 1)))) (
Option.bind (α := (List SFund) × Bool) (
cond ((!s77) && ((Op.bytesLess a1.toList x93.Account.toList) || ((decide (a1 = x93.Account)) && (Op.bytesLess a2.toList x93.Asset.toList)))) (
(ensure ((s74.length + [(SFund.mk a1 a2 a3)].length) * 40 ≤ 140737488355328)).bind fun _ =>
some ((s74 ++ [(SFund.mk a1 a2 a3)]), true)) (
some (s74, s77))) fun j112 => (match j112 with
| (s108, s111) =>
(ensure ((s108.length + [x93].length) * 40 ≤ 140737488355328)).bind fun _ =>
(ensure (-9223372036854775808 ≤ s78 + 1 ∧ s78 + 1 ≤ 9223372036854775807)).bind fun _ =>
some (.inl ((s108 ++ [x93]), s111, (s78 + 1)))))) (
some (.inr (s74, s77, s78)))
noncomputable def l_ref9_Put (a0 : SBook) (a1 : Txt) (a2 : Txt) (a3 : Int) : Option (SBook) :=
Option.bind (loopF (τ := (List SFund) × Bool × Int) (fun s : (List SFund) × Bool × Int => l_ref9_Put_b0 a0 a1 a2 a3 s.1 s.2.1 s.2.2) (([] : List SFund), (a3 == 0), 0)) fun oo79 => (match oo79 with
| (e86, e89, e90) =>
cond (!e89) (
(ensure ((e86.length + [(SFund.mk a1 a2 a3)].length) * 40 ≤ 140737488355328)).bind fun _ =>
some ({ a0 with Funds := (e86 ++ [(SFund.mk a1 a2 a3)]) } : SBook)) (
some ({ a0 with Funds := e86 } : SBook)))
theorem c_ref9_Put {a0 : SBook} {a1 : Txt} {a2 : Txt} {a3 : Int} {r : SBook} (hF : l_ref9_Put a0 a1 a2 a3 = some r) : APure Try.prog 66 [.agg (rBook a0), sA a1, sA a2, iA a3] (.agg (rBook r)) := fun bs => by
  unfold l_ref9_Put at hF
  refine ACalls.wk ?_
  refine ACalls.in_ Try.func66 Try.ntmps66 (h := ?_)
  (repeat refine gc (h := ?_))
  refine AW.region ?_
  (repeat refine gl (h := ?_))
  intro g1
  (repeat refine gl (h := ?_))
  intro g2
  (repeat refine gl (h := ?_))
  (repeat refine gc (h := ?_))
  refine AW.region ?_
  (repeat refine gl (h := ?_))
  (repeat refine gc (h := ?_))
  refine AW.region ?_
  (repeat refine gl (h := ?_))
  (repeat refine gc (h := ?_))
  refine AW.region ?_
  (repeat refine gl (h := ?_))
  obtain ⟨oo79, hL80, hO81⟩ := bnd hF
  (repeat refine gc (h := ?_))
  refine AW.join3_1 (fun (e86 : List SFund) (e89 : Bool) (e90 : Int) (o87 : OG) => [(0, .agg (rBook a0)), (1, sA a1), (2, sA a2), (3, iA a3), (4, .ptr g1 0), (8, .ptr g2 0), (9, .gr o87 (e86.map rFund)), (10, bA e89), (11, iA e90)]) (fun (e86 : List SFund) (e89 : Bool) (e90 : Int) (o87 : OG) => gB o87 e86.length 3 60 ((g2, .cells [iA 0, iA 0, .nil, .nil, .nil]) :: (g1, .cells [iA a0.Number, iA a0.Time, .sl (a0.Accounts.map strR), .sl (a0.Funds.map rFund), .sl (a0.Escrows.map rEscrow)]) :: bs)) (fun (e86 : List SFund) (e89 : Bool) (e90 : Int) (o87 : OG) => oo79 = (e86, e89, e90)) ?_ (fun e86 e89 e90 o87 hs132 => ?_)
  · (repeat refine gc (h := ?_))
    refine AW.block ?_
    refine AW.loopF3_1 hL80 (fun (s74 : List SFund) (s77 : Bool) (s78 : Int) (o75 : OG) => [(0, .agg (rBook a0)), (1, sA a1), (2, sA a2), (3, iA a3), (4, .ptr g1 0), (8, .ptr g2 0), (9, .gr o75 (s74.map rFund)), (10, bA s77), (11, iA s78)]) (fun (s74 : List SFund) (s77 : Bool) (s78 : Int) (o75 : OG) => gB o75 s74.length 3 60 ((g2, .cells [iA 0, iA 0, .nil, .nil, .nil]) :: (g1, .cells [iA a0.Number, iA a0.Time, .sl (a0.Accounts.map strR), .sl (a0.Funds.map rFund), .sl (a0.Escrows.map rEscrow)]) :: bs)) (fun (s74 : List SFund) (s77 : Bool) (s78 : Int) (o75 : OG) => True) none trivial (by repeat (first | exact Sub.nil | refine Sub.cons (k := ?_))) rfl (fun s74 s77 s78 o75 v82 hp83 hF => ?_)
    replace hF : l_ref9_Put_b0 a0 a1 a2 a3 s74 s77 s78 = some v82 := hF
    unfold l_ref9_Put_b0 at hF
    (repeat refine gc (h := ?_))
    (repeat refine gc (h := ?_))
    refine AW.region ?_
    (repeat refine gl (h := ?_))
    (repeat refine gc (h := ?_))
    refine AW.cond (b := (decide (s78 < (a0.Funds.length : Int)))) rfl (fun hc92 => ?_) (fun hc92 => ?_)
    · replace hF := cnd_t hc92 hF
      have hc92p := of_decide_eq_true hc92
      (repeat refine gc (h := ?_))
      (repeat refine gc (h := ?_))
      refine AW.block ?_
      obtain ⟨x93, h94, h95, hF⟩ := idx_b hF
      (repeat refine gc (h := ?_))
      refine AW.region ?_
      (repeat refine gl (h := ?_))
      intro g96
      (repeat refine gl (h := ?_))
      (repeat refine gc (h := ?_))
      refine AW.region ?_
      (repeat refine gl (h := ?_))
      (repeat refine gc (h := ?_))
      refine AW.cond (b := ((decide (x93.Account = a1)) && (decide (x93.Asset = a2)))) rfl (fun hc98 => ?_) (fun hc98 => ?_)
      · replace hF := cnd_t hc98 hF
        (repeat refine gc (h := ?_))
        obtain ⟨he99, hF⟩ := ens hF
        (repeat refine gc (h := ?_))
        refine AW.region ?_
        (repeat refine gl (h := ?_))
        (repeat refine gc (h := ?_))
        exact lpQ3_1.n s74 s77 (s78 + 1) o75 (some_inj hF) trivial (by repeat (first | exact Sub.nil | refine Sub.cons (k := ?_))) (by repeat (first | exact List.Sublist.refl _ | apply List.Sublist.cons | apply Sl.gB))
      · replace hF := cnd_f hc98 hF
        (repeat refine gc (h := ?_))
        (repeat refine gc (h := ?_))
        refine AW.region ?_
        (repeat refine gl (h := ?_))
        try refine AL.gd (hq := fun hgb => OpQ.pick_and rfl (by first | exact Wk.refl _ | exact Wk.nil | exact Wk.clip _ | exact Wk.tip _ _ _ | exact Wk.opt _ _ (by first | assumption | rfl) | exact Wk.gr _ _ | exact Wk.nil_gr | exact Wk.trans (Wk.opt _ _ (by first | assumption | rfl)) (by first | exact Wk.gr _ _ | exact Wk.nil | exact Wk.clip _ | exact Wk.tip _ _ _) | exact Wk.aggs (by repeat (first | exact Wks.nil | refine Wks.cons (by first | exact Wk.refl _ | exact Wk.nil | exact Wk.clip _ | exact Wk.tip _ _ _ | exact Wk.gr _ _ | exact Wk.nil_gr) ?_)) rfl) rfl (fun hb => gba hgb hb)) (h := ?_)
        (repeat refine gl (h := ?_))
        try refine AL.gd (hq := fun hgb => OpQ.pick_or rfl (by first | exact Wk.refl _ | exact Wk.nil | exact Wk.clip _ | exact Wk.tip _ _ _ | exact Wk.opt _ _ (by first | assumption | rfl) | exact Wk.gr _ _ | exact Wk.nil_gr | exact Wk.trans (Wk.opt _ _ (by first | assumption | rfl)) (by first | exact Wk.gr _ _ | exact Wk.nil | exact Wk.clip _ | exact Wk.tip _ _ _) | exact Wk.aggs (by repeat (first | exact Wks.nil | refine Wks.cons (by first | exact Wk.refl _ | exact Wk.nil | exact Wk.clip _ | exact Wk.tip _ _ _ | exact Wk.gr _ _ | exact Wk.nil_gr) ?_)) rfl) rfl (fun hb => gbo hgb hb)) (h := ?_)
        (repeat refine gl (h := ?_))
        obtain ⟨j112, hF, hO113⟩ := bnd hF
        (repeat refine gc (h := ?_))
        refine AW.join2_1 (fun (s108 : List SFund) (s111 : Bool) (o109 : OG) => [(0, .agg (rBook a0)), (1, sA a1), (2, sA a2), (3, iA a3), (4, .ptr g1 0), (8, .ptr g2 0), (9, .gr o109 (s108.map rFund)), (10, bA s111), (11, iA s78), (12, .ptr g96 0)]) (fun (s108 : List SFund) (s111 : Bool) (o109 : OG) => (g96, .cells [sA x93.Account, sA x93.Asset, iA x93.Amount]) :: gB o109 s108.length 3 60 ((g2, .cells [iA 0, iA 0, .nil, .nil, .nil]) :: (g1, .cells [iA a0.Number, iA a0.Time, .sl (a0.Accounts.map strR), .sl (a0.Funds.map rFund), .sl (a0.Escrows.map rEscrow)]) :: bs)) (fun (s108 : List SFund) (s111 : Bool) (o109 : OG) => j112 = (s108, s111)) ?_ (fun s108 s111 o109 hs114 => ?_)
        · (repeat refine gc (h := ?_))
          refine AW.cond (b := ((!s77) && ((Op.bytesLess a1.toList x93.Account.toList) || ((decide (a1 = x93.Account)) && (Op.bytesLess a2.toList x93.Asset.toList))))) rfl (fun hc116 => ?_) (fun hc116 => ?_)
          · replace hF := cnd_t hc116 hF
            (repeat refine gc (h := ?_))
            obtain ⟨he117, hF⟩ := ens hF
            (repeat refine gc (h := ?_))
            refine AW.region ?_
            (repeat refine gl (h := ?_))
            refine AL.grow (R := rFund) (l := s74) (l2 := [(SFund.mk a1 a2 a3)]) (rs := (s74 ++ [(SFund.mk a1 a2 a3)])) (.cons .here) rfl he117 (fun _ => rfl) (h := fun o118 => ?_)
            (repeat refine gl (h := ?_))
            (repeat refine gc (h := ?_))
            exact jnQ2_1.n (s74 ++ [(SFund.mk a1 a2 a3)]) true o118 (some_inj hF) (by repeat (first | exact Sub.nil | refine Sub.cons (k := ?_))) (by repeat (first | exact List.Sublist.refl _ | apply List.Sublist.cons | apply Sl.gB))
          · replace hF := cnd_f hc116 hF
            (repeat refine gc (h := ?_))
            (repeat refine gc (h := ?_))
            exact jnQ2_1.n s74 s77 o75 (some_inj hF) (by repeat (first | exact Sub.nil | refine Sub.cons (k := ?_))) (by repeat (first | exact List.Sublist.refl _ | apply List.Sublist.cons | apply Sl.gB))
        · obtain rfl := hs114.symm
          replace hF := hO113
          try dsimp only at hF
          (repeat refine gc (h := ?_))
          obtain ⟨he120, hF⟩ := ens hF
          (repeat refine gc (h := ?_))
          refine AW.region ?_
          (repeat refine gl (h := ?_))
          refine AL.grow (R := rFund) (l := s108) (l2 := [x93]) (rs := (s108 ++ [x93])) (.cons .here) rfl he120 (fun _ => rfl) (h := fun o121 => ?_)
          (repeat refine gl (h := ?_))
          obtain ⟨he123, hF⟩ := ens hF
          (repeat refine gc (h := ?_))
          refine AW.region ?_
          (repeat refine gl (h := ?_))
          (repeat refine gc (h := ?_))
          exact lpQ3_1.n (s108 ++ [x93]) s111 (s78 + 1) o121 (some_inj hF) trivial (by repeat (first | exact Sub.nil | refine Sub.cons (k := ?_))) (by repeat (first | exact List.Sublist.refl _ | apply List.Sublist.cons | apply Sl.gB))
    · replace hF := cnd_f hc92 hF
      have hc92p := of_decide_eq_false hc92
      (repeat refine gc (h := ?_))
      obtain rfl := some_inj hF
      (repeat refine gc (h := ?_))
      refine lpQ3_1.e _ rfl (fun ho85 => ?_)
      (repeat refine gc (h := ?_))
      exact jnQ3_1.n s74 s77 s78 o75 ho85 (by repeat (first | exact Sub.nil | refine Sub.cons (k := ?_))) (by repeat (first | exact List.Sublist.refl _ | apply List.Sublist.cons | apply Sl.gB))
  · obtain rfl := hs132.symm
    replace hF := hO81
    try dsimp only at hF
    (repeat refine gc (h := ?_))
    (repeat refine gc (h := ?_))
    refine AW.region ?_
    (repeat refine gl (h := ?_))
    (repeat refine gc (h := ?_))
    refine AW.cond (b := (!e89)) rfl (fun hc128 => ?_) (fun hc128 => ?_)
    · replace hF := cnd_t hc128 hF
      (repeat refine gc (h := ?_))
      obtain ⟨he129, hF⟩ := ens hF
      (repeat refine gc (h := ?_))
      refine AW.region ?_
      (repeat refine gl (h := ?_))
      refine AL.grow (R := rFund) (l := e86) (l2 := [(SFund.mk a1 a2 a3)]) (rs := (e86 ++ [(SFund.mk a1 a2 a3)])) .here rfl he129 (fun _ => rfl) (h := fun o130 => ?_)
      (repeat refine gl (h := ?_))
      (repeat refine gc (h := ?_))
      refine AW.region ?_
      (repeat refine gl (h := ?_))
      (repeat refine gc (h := ?_))
      refine AW.region ?_
      (repeat refine gl (h := ?_))
      obtain rfl := some_inj hF
      (repeat refine gc (h := ?_))
      exact EndQ.fin (bs' := bs) (h := ⟨(by first | exact Wk.refl _ | exact (by first | exact Wk.refl _ | exact Wk.nil | exact Wk.clip _ | exact Wk.tip _ _ _ | exact Wk.opt _ _ (by first | assumption | rfl) | exact Wk.gr _ _ | exact Wk.nil_gr | exact Wk.trans (Wk.opt _ _ (by first | assumption | rfl)) (by first | exact Wk.gr _ _ | exact Wk.nil | exact Wk.clip _ | exact Wk.tip _ _ _) | exact Wk.aggs (by repeat (first | exact Wks.nil | refine Wks.cons (by first | exact Wk.refl _ | exact Wk.nil | exact Wk.clip _ | exact Wk.tip _ _ _ | exact Wk.gr _ _ | exact Wk.nil_gr) ?_)) rfl) | exact Wk.tups (by repeat (first | exact Wks.nil | refine Wks.cons (by first | exact Wk.refl _ | exact Wk.nil | exact Wk.clip _ | exact Wk.tip _ _ _ | exact Wk.opt _ _ (by first | assumption | rfl) | exact Wk.gr _ _ | exact Wk.nil_gr | exact Wk.trans (Wk.opt _ _ (by first | assumption | rfl)) (by first | exact Wk.gr _ _ | exact Wk.nil | exact Wk.clip _ | exact Wk.tip _ _ _) | exact Wk.aggs (by repeat (first | exact Wks.nil | refine Wks.cons (by first | exact Wk.refl _ | exact Wk.nil | exact Wk.clip _ | exact Wk.tip _ _ _ | exact Wk.gr _ _ | exact Wk.nil_gr) ?_)) rfl) ?_))), rfl⟩) (hs := (by repeat (first | exact List.Sublist.refl _ | apply List.Sublist.cons | apply Sl.gB)))
    · replace hF := cnd_f hc128 hF
      (repeat refine gc (h := ?_))
      (repeat refine gc (h := ?_))
      refine AW.region ?_
      (repeat refine gl (h := ?_))
      (repeat refine gc (h := ?_))
      refine AW.region ?_
      (repeat refine gl (h := ?_))
      obtain rfl := some_inj hF
      (repeat refine gc (h := ?_))
      exact EndQ.fin (bs' := bs) (h := ⟨(by first | exact Wk.refl _ | exact (by first | exact Wk.refl _ | exact Wk.nil | exact Wk.clip _ | exact Wk.tip _ _ _ | exact Wk.opt _ _ (by first | assumption | rfl) | exact Wk.gr _ _ | exact Wk.nil_gr | exact Wk.trans (Wk.opt _ _ (by first | assumption | rfl)) (by first | exact Wk.gr _ _ | exact Wk.nil | exact Wk.clip _ | exact Wk.tip _ _ _) | exact Wk.aggs (by repeat (first | exact Wks.nil | refine Wks.cons (by first | exact Wk.refl _ | exact Wk.nil | exact Wk.clip _ | exact Wk.tip _ _ _ | exact Wk.gr _ _ | exact Wk.nil_gr) ?_)) rfl) | exact Wk.tups (by repeat (first | exact Wks.nil | refine Wks.cons (by first | exact Wk.refl _ | exact Wk.nil | exact Wk.clip _ | exact Wk.tip _ _ _ | exact Wk.opt _ _ (by first | assumption | rfl) | exact Wk.gr _ _ | exact Wk.nil_gr | exact Wk.trans (Wk.opt _ _ (by first | assumption | rfl)) (by first | exact Wk.gr _ _ | exact Wk.nil | exact Wk.clip _ | exact Wk.tip _ _ _) | exact Wk.aggs (by repeat (first | exact Wks.nil | refine Wks.cons (by first | exact Wk.refl _ | exact Wk.nil | exact Wk.clip _ | exact Wk.tip _ _ _ | exact Wk.gr _ _ | exact Wk.nil_gr) ?_)) rfl) ?_))), rfl⟩) (hs := (by repeat (first | exact List.Sublist.refl _ | apply List.Sublist.cons | apply Sl.gB)))

noncomputable def l_ref9_Give_b0 (a2 : Txt) (x11 : (List Txt)) (s25 : Bool) (s26 : Int) : Option ((Bool × Int) ⊕ (Bool × Int)) :=
cond (decide (s26 < (x11.length : Int))) (
(grd ((!s25)) (idxO x11 s26)).bind fun x38 =>
(ensure (-9223372036854775808 ≤ s26 + 1 ∧ s26 + 1 ≤ 9223372036854775807)).bind fun _ =>
some (.inl ((s25 || (decide (x38 = a2))), (s26 + 1)))) (
some (.inr (s25, s26)))
noncomputable def l_ref9_Give (a0 : SBook) (a1 : Txt) (a2 : Txt) (a3 : Int) : Option (SBook × Int) :=
(l_ref4_Name a2).bind fun x3 =>
cond (((!x3) || (decide (a3 < 1))) || (decide (a3 > 1125899906842624))) (
some (a0, 1)) (
(l_ref9_Has a0 a1).bind fun x7 =>
cond (!x7) (
some (a0, 4)) (
(l_ref9_assets a0).bind fun x11 =>
Option.bind (loopF (τ := Bool × Int) (fun s : Bool × Int => l_ref9_Give_b0 a2 x11 s.1 s.2) (false, 0)) fun oo27 => (match oo27 with
| (e34, e35) =>
cond ((!e34) && (decide ((x11.length : Int) ≥ 4))) (
some (a0, 7)) (
(l_ref9_Total a0 a2).bind fun x43 =>
(ensure (-9223372036854775808 ≤ x43 + a3 ∧ x43 + a3 ≤ 9223372036854775807)).bind fun _ =>
cond (decide ((x43 + a3) > 1125899906842624)) (
some (a0, 3)) (
(l_ref9_fund a0 a1 a2).bind fun x48 =>
(ensure (-9223372036854775808 ≤ x48 + a3 ∧ x48 + a3 ≤ 9223372036854775807)).bind fun _ =>
(l_ref9_Put a0 a1 a2 (x48 + a3)).bind fun x51 =>
some (x51, 0))))))
theorem c_ref9_Give {a0 : SBook} {a1 : Txt} {a2 : Txt} {a3 : Int} {r : SBook × Int} (hF : l_ref9_Give a0 a1 a2 a3 = some r) : APure Try.prog 45 [.agg (rBook a0), sA a1, sA a2, iA a3] (.tup [.agg (rBook r.1), iA r.2]) := fun bs => by
  unfold l_ref9_Give at hF
  refine ACalls.wk ?_
  refine ACalls.in_ Try.func45 Try.ntmps45 (h := ?_)
  (repeat refine gc (h := ?_))
  refine AW.region ?_
  (repeat refine gl (h := ?_))
  intro g1
  (repeat refine gl (h := ?_))
  intro g2
  (repeat refine gl (h := ?_))
  obtain ⟨x3, hc4, hF⟩ := bnd hF
  (repeat refine gc (h := ?_))
  refine AW.region ?_
  (repeat refine gl (h := ?_))
  refine AL.call (c_ref4_Name hc4) (h := ?_)
  (repeat refine gl (h := ?_))
  (repeat refine gc (h := ?_))
  refine AW.cond (b := (((!x3) || (decide (a3 < 1))) || (decide (a3 > 1125899906842624)))) rfl (fun hc6 => ?_) (fun hc6 => ?_)
  · replace hF := cnd_t hc6 hF
    (repeat refine gc (h := ?_))
    (repeat refine gc (h := ?_))
    refine AW.region ?_
    (repeat refine gl (h := ?_))
    obtain rfl := some_inj hF
    (repeat refine gc (h := ?_))
    exact EndQ.fin (bs' := bs) (h := ⟨(by first | exact Wk.refl _ | exact (by first | exact Wk.refl _ | exact Wk.nil | exact Wk.clip _ | exact Wk.tip _ _ _ | exact Wk.opt _ _ (by first | assumption | rfl) | exact Wk.gr _ _ | exact Wk.nil_gr | exact Wk.trans (Wk.opt _ _ (by first | assumption | rfl)) (by first | exact Wk.gr _ _ | exact Wk.nil | exact Wk.clip _ | exact Wk.tip _ _ _) | exact Wk.aggs (by repeat (first | exact Wks.nil | refine Wks.cons (by first | exact Wk.refl _ | exact Wk.nil | exact Wk.clip _ | exact Wk.tip _ _ _ | exact Wk.gr _ _ | exact Wk.nil_gr) ?_)) rfl) | exact Wk.tups (by repeat (first | exact Wks.nil | refine Wks.cons (by first | exact Wk.refl _ | exact Wk.nil | exact Wk.clip _ | exact Wk.tip _ _ _ | exact Wk.opt _ _ (by first | assumption | rfl) | exact Wk.gr _ _ | exact Wk.nil_gr | exact Wk.trans (Wk.opt _ _ (by first | assumption | rfl)) (by first | exact Wk.gr _ _ | exact Wk.nil | exact Wk.clip _ | exact Wk.tip _ _ _) | exact Wk.aggs (by repeat (first | exact Wks.nil | refine Wks.cons (by first | exact Wk.refl _ | exact Wk.nil | exact Wk.clip _ | exact Wk.tip _ _ _ | exact Wk.gr _ _ | exact Wk.nil_gr) ?_)) rfl) ?_))), rfl⟩) (hs := (by repeat (first | exact List.Sublist.refl _ | apply List.Sublist.cons | apply Sl.gB)))
  · replace hF := cnd_f hc6 hF
    (repeat refine gc (h := ?_))
    obtain ⟨x7, hc8, hF⟩ := bnd hF
    (repeat refine gc (h := ?_))
    refine AW.region ?_
    (repeat refine gl (h := ?_))
    refine AL.call (c_ref9_Has hc8) (h := ?_)
    (repeat refine gl (h := ?_))
    (repeat refine gc (h := ?_))
    refine AW.cond (b := (!x7)) rfl (fun hc10 => ?_) (fun hc10 => ?_)
    · replace hF := cnd_t hc10 hF
      (repeat refine gc (h := ?_))
      (repeat refine gc (h := ?_))
      refine AW.region ?_
      (repeat refine gl (h := ?_))
      obtain rfl := some_inj hF
      (repeat refine gc (h := ?_))
      exact EndQ.fin (bs' := bs) (h := ⟨(by first | exact Wk.refl _ | exact (by first | exact Wk.refl _ | exact Wk.nil | exact Wk.clip _ | exact Wk.tip _ _ _ | exact Wk.opt _ _ (by first | assumption | rfl) | exact Wk.gr _ _ | exact Wk.nil_gr | exact Wk.trans (Wk.opt _ _ (by first | assumption | rfl)) (by first | exact Wk.gr _ _ | exact Wk.nil | exact Wk.clip _ | exact Wk.tip _ _ _) | exact Wk.aggs (by repeat (first | exact Wks.nil | refine Wks.cons (by first | exact Wk.refl _ | exact Wk.nil | exact Wk.clip _ | exact Wk.tip _ _ _ | exact Wk.gr _ _ | exact Wk.nil_gr) ?_)) rfl) | exact Wk.tups (by repeat (first | exact Wks.nil | refine Wks.cons (by first | exact Wk.refl _ | exact Wk.nil | exact Wk.clip _ | exact Wk.tip _ _ _ | exact Wk.opt _ _ (by first | assumption | rfl) | exact Wk.gr _ _ | exact Wk.nil_gr | exact Wk.trans (Wk.opt _ _ (by first | assumption | rfl)) (by first | exact Wk.gr _ _ | exact Wk.nil | exact Wk.clip _ | exact Wk.tip _ _ _) | exact Wk.aggs (by repeat (first | exact Wks.nil | refine Wks.cons (by first | exact Wk.refl _ | exact Wk.nil | exact Wk.clip _ | exact Wk.tip _ _ _ | exact Wk.gr _ _ | exact Wk.nil_gr) ?_)) rfl) ?_))), rfl⟩) (hs := (by repeat (first | exact List.Sublist.refl _ | apply List.Sublist.cons | apply Sl.gB)))
    · replace hF := cnd_f hc10 hF
      (repeat refine gc (h := ?_))
      obtain ⟨x11, hc12, hF⟩ := bnd hF
      (repeat refine gc (h := ?_))
      refine AW.region ?_
      (repeat refine gl (h := ?_))
      refine AL.call (c_ref9_assets hc12) (h := ?_)
      (repeat refine gl (h := ?_))
      (repeat refine gc (h := ?_))
      refine AW.region ?_
      (repeat refine gl (h := ?_))
      (repeat refine gc (h := ?_))
      refine AW.region ?_
      (repeat refine gl (h := ?_))
      obtain ⟨oo27, hL28, hO29⟩ := bnd hF
      (repeat refine gc (h := ?_))
      refine AW.join2_0 (fun (e34 : Bool) (e35 : Int) => [(0, .agg (rBook a0)), (1, sA a1), (2, sA a2), (3, iA a3), (4, .ptr g1 0), (8, .ptr g2 0), (9, iA 0), (10, .sl (x11.map strR)), (11, bA e34), (12, iA e35)]) (fun (e34 : Bool) (e35 : Int) => (g2, .cells [iA 0, iA 0, .nil, .nil, .nil]) :: (g1, .cells [iA a0.Number, iA a0.Time, .sl (a0.Accounts.map strR), .sl (a0.Funds.map rFund), .sl (a0.Escrows.map rEscrow)]) :: bs) (fun (e34 : Bool) (e35 : Int) => oo27 = (e34, e35)) ?_ (fun e34 e35 hs53 => ?_)
      · (repeat refine gc (h := ?_))
        refine AW.block ?_
        refine AW.loopF2_0 hL28 (fun (s25 : Bool) (s26 : Int) => [(0, .agg (rBook a0)), (1, sA a1), (2, sA a2), (3, iA a3), (4, .ptr g1 0), (8, .ptr g2 0), (9, iA 0), (10, .sl (x11.map strR)), (11, bA s25), (12, iA s26)]) (fun (s25 : Bool) (s26 : Int) => (g2, .cells [iA 0, iA 0, .nil, .nil, .nil]) :: (g1, .cells [iA a0.Number, iA a0.Time, .sl (a0.Accounts.map strR), .sl (a0.Funds.map rFund), .sl (a0.Escrows.map rEscrow)]) :: bs) (fun (s25 : Bool) (s26 : Int) => True)  trivial (by repeat (first | exact Sub.nil | refine Sub.cons (k := ?_))) rfl (fun s25 s26 v30 hp31 hF => ?_)
        replace hF : l_ref9_Give_b0 a2 x11 s25 s26 = some v30 := hF
        unfold l_ref9_Give_b0 at hF
        (repeat refine gc (h := ?_))
        (repeat refine gc (h := ?_))
        refine AW.region ?_
        (repeat refine gl (h := ?_))
        (repeat refine gc (h := ?_))
        refine AW.cond (b := (decide (s26 < (x11.length : Int)))) rfl (fun hc37 => ?_) (fun hc37 => ?_)
        · replace hF := cnd_t hc37 hF
          have hc37p := of_decide_eq_true hc37
          (repeat refine gc (h := ?_))
          (repeat refine gc (h := ?_))
          refine AW.block ?_
          obtain ⟨x38, h39, hF⟩ := grd_b hF
          (repeat refine gc (h := ?_))
          refine AW.region ?_
          (repeat refine gl (h := ?_))
          try refine AL.gd (hq := fun hgb => OpQ.idx_map rfl (by first | exact Wk.refl _ | exact Wk.nil | exact Wk.clip _ | exact Wk.tip _ _ _ | exact Wk.opt _ _ (by first | assumption | rfl) | exact Wk.gr _ _ | exact Wk.nil_gr | exact Wk.trans (Wk.opt _ _ (by first | assumption | rfl)) (by first | exact Wk.gr _ _ | exact Wk.nil | exact Wk.clip _ | exact Wk.tip _ _ _) | exact Wk.aggs (by repeat (first | exact Wks.nil | refine Wks.cons (by first | exact Wk.refl _ | exact Wk.nil | exact Wk.clip _ | exact Wk.tip _ _ _ | exact Wk.gr _ _ | exact Wk.nil_gr) ?_)) rfl) (by first | exact Wk.refl _ | exact Wk.nil | exact Wk.clip _ | exact Wk.tip _ _ _ | exact Wk.opt _ _ (by first | assumption | rfl) | exact Wk.gr _ _ | exact Wk.nil_gr | exact Wk.trans (Wk.opt _ _ (by first | assumption | rfl)) (by first | exact Wk.gr _ _ | exact Wk.nil | exact Wk.clip _ | exact Wk.tip _ _ _) | exact Wk.aggs (by repeat (first | exact Wks.nil | refine Wks.cons (by first | exact Wk.refl _ | exact Wk.nil | exact Wk.clip _ | exact Wk.tip _ _ _ | exact Wk.gr _ _ | exact Wk.nil_gr) ?_)) rfl) (idxO_some (h39 hgb)).1 (idxO_some (h39 hgb)).2 (by rfl)) (h := ?_)
          (repeat refine gl (h := ?_))
          obtain ⟨he40, hF⟩ := ens hF
          (repeat refine gc (h := ?_))
          refine AW.region ?_
          (repeat refine gl (h := ?_))
          (repeat refine gc (h := ?_))
          exact lpQ2_0.n (s25 || (decide (x38 = a2))) (s26 + 1) (some_inj hF) trivial (by repeat (first | exact Sub.nil | refine Sub.cons (k := ?_))) (by repeat (first | exact List.Sublist.refl _ | apply List.Sublist.cons | apply Sl.gB))
        · replace hF := cnd_f hc37 hF
          have hc37p := of_decide_eq_false hc37
          (repeat refine gc (h := ?_))
          obtain rfl := some_inj hF
          (repeat refine gc (h := ?_))
          refine lpQ2_0.e _ rfl (fun ho33 => ?_)
          (repeat refine gc (h := ?_))
          exact jnQ2_0.n s25 s26 ho33 (by repeat (first | exact Sub.nil | refine Sub.cons (k := ?_))) (by repeat (first | exact List.Sublist.refl _ | apply List.Sublist.cons | apply Sl.gB))
      · obtain rfl := hs53.symm
        replace hF := hO29
        try dsimp only at hF
        (repeat refine gc (h := ?_))
        (repeat refine gc (h := ?_))
        refine AW.region ?_
        (repeat refine gl (h := ?_))
        (repeat refine gc (h := ?_))
        refine AW.cond (b := ((!e34) && (decide ((x11.length : Int) ≥ 4)))) rfl (fun hc42 => ?_) (fun hc42 => ?_)
        · replace hF := cnd_t hc42 hF
          (repeat refine gc (h := ?_))
          (repeat refine gc (h := ?_))
          refine AW.region ?_
          (repeat refine gl (h := ?_))
          obtain rfl := some_inj hF
          (repeat refine gc (h := ?_))
          exact EndQ.fin (bs' := bs) (h := ⟨(by first | exact Wk.refl _ | exact (by first | exact Wk.refl _ | exact Wk.nil | exact Wk.clip _ | exact Wk.tip _ _ _ | exact Wk.opt _ _ (by first | assumption | rfl) | exact Wk.gr _ _ | exact Wk.nil_gr | exact Wk.trans (Wk.opt _ _ (by first | assumption | rfl)) (by first | exact Wk.gr _ _ | exact Wk.nil | exact Wk.clip _ | exact Wk.tip _ _ _) | exact Wk.aggs (by repeat (first | exact Wks.nil | refine Wks.cons (by first | exact Wk.refl _ | exact Wk.nil | exact Wk.clip _ | exact Wk.tip _ _ _ | exact Wk.gr _ _ | exact Wk.nil_gr) ?_)) rfl) | exact Wk.tups (by repeat (first | exact Wks.nil | refine Wks.cons (by first | exact Wk.refl _ | exact Wk.nil | exact Wk.clip _ | exact Wk.tip _ _ _ | exact Wk.opt _ _ (by first | assumption | rfl) | exact Wk.gr _ _ | exact Wk.nil_gr | exact Wk.trans (Wk.opt _ _ (by first | assumption | rfl)) (by first | exact Wk.gr _ _ | exact Wk.nil | exact Wk.clip _ | exact Wk.tip _ _ _) | exact Wk.aggs (by repeat (first | exact Wks.nil | refine Wks.cons (by first | exact Wk.refl _ | exact Wk.nil | exact Wk.clip _ | exact Wk.tip _ _ _ | exact Wk.gr _ _ | exact Wk.nil_gr) ?_)) rfl) ?_))), rfl⟩) (hs := (by repeat (first | exact List.Sublist.refl _ | apply List.Sublist.cons | apply Sl.gB)))
        · replace hF := cnd_f hc42 hF
          (repeat refine gc (h := ?_))
          obtain ⟨x43, hc44, hF⟩ := bnd hF
          obtain ⟨he45, hF⟩ := ens hF
          (repeat refine gc (h := ?_))
          refine AW.region ?_
          (repeat refine gl (h := ?_))
          refine AL.call (c_ref9_Total hc44) (h := ?_)
          (repeat refine gl (h := ?_))
          (repeat refine gc (h := ?_))
          refine AW.cond (b := (decide ((x43 + a3) > 1125899906842624))) rfl (fun hc47 => ?_) (fun hc47 => ?_)
          · replace hF := cnd_t hc47 hF
            have hc47p := of_decide_eq_true hc47
            (repeat refine gc (h := ?_))
            (repeat refine gc (h := ?_))
            refine AW.region ?_
            (repeat refine gl (h := ?_))
            obtain rfl := some_inj hF
            (repeat refine gc (h := ?_))
            exact EndQ.fin (bs' := bs) (h := ⟨(by first | exact Wk.refl _ | exact (by first | exact Wk.refl _ | exact Wk.nil | exact Wk.clip _ | exact Wk.tip _ _ _ | exact Wk.opt _ _ (by first | assumption | rfl) | exact Wk.gr _ _ | exact Wk.nil_gr | exact Wk.trans (Wk.opt _ _ (by first | assumption | rfl)) (by first | exact Wk.gr _ _ | exact Wk.nil | exact Wk.clip _ | exact Wk.tip _ _ _) | exact Wk.aggs (by repeat (first | exact Wks.nil | refine Wks.cons (by first | exact Wk.refl _ | exact Wk.nil | exact Wk.clip _ | exact Wk.tip _ _ _ | exact Wk.gr _ _ | exact Wk.nil_gr) ?_)) rfl) | exact Wk.tups (by repeat (first | exact Wks.nil | refine Wks.cons (by first | exact Wk.refl _ | exact Wk.nil | exact Wk.clip _ | exact Wk.tip _ _ _ | exact Wk.opt _ _ (by first | assumption | rfl) | exact Wk.gr _ _ | exact Wk.nil_gr | exact Wk.trans (Wk.opt _ _ (by first | assumption | rfl)) (by first | exact Wk.gr _ _ | exact Wk.nil | exact Wk.clip _ | exact Wk.tip _ _ _) | exact Wk.aggs (by repeat (first | exact Wks.nil | refine Wks.cons (by first | exact Wk.refl _ | exact Wk.nil | exact Wk.clip _ | exact Wk.tip _ _ _ | exact Wk.gr _ _ | exact Wk.nil_gr) ?_)) rfl) ?_))), rfl⟩) (hs := (by repeat (first | exact List.Sublist.refl _ | apply List.Sublist.cons | apply Sl.gB)))
          · replace hF := cnd_f hc47 hF
            have hc47p := of_decide_eq_false hc47
            (repeat refine gc (h := ?_))
            obtain ⟨x48, hc49, hF⟩ := bnd hF
            obtain ⟨he50, hF⟩ := ens hF
            obtain ⟨x51, hc52, hF⟩ := bnd hF
            (repeat refine gc (h := ?_))
            (repeat refine goD (h := ?_))
            refine ADl.call (c_ref9_fund hc49) (h := ?_)
            (repeat refine goD (h := ?_))
            refine ADl.call (c_ref9_Put hc52) (h := ?_)
            (repeat refine goD (h := ?_))
            obtain rfl := some_inj hF
            (repeat refine gc (h := ?_))
            exact EndQ.fin (bs' := bs) (h := ⟨(by first | exact Wk.refl _ | exact (by first | exact Wk.refl _ | exact Wk.nil | exact Wk.clip _ | exact Wk.tip _ _ _ | exact Wk.opt _ _ (by first | assumption | rfl) | exact Wk.gr _ _ | exact Wk.nil_gr | exact Wk.trans (Wk.opt _ _ (by first | assumption | rfl)) (by first | exact Wk.gr _ _ | exact Wk.nil | exact Wk.clip _ | exact Wk.tip _ _ _) | exact Wk.aggs (by repeat (first | exact Wks.nil | refine Wks.cons (by first | exact Wk.refl _ | exact Wk.nil | exact Wk.clip _ | exact Wk.tip _ _ _ | exact Wk.gr _ _ | exact Wk.nil_gr) ?_)) rfl) | exact Wk.tups (by repeat (first | exact Wks.nil | refine Wks.cons (by first | exact Wk.refl _ | exact Wk.nil | exact Wk.clip _ | exact Wk.tip _ _ _ | exact Wk.opt _ _ (by first | assumption | rfl) | exact Wk.gr _ _ | exact Wk.nil_gr | exact Wk.trans (Wk.opt _ _ (by first | assumption | rfl)) (by first | exact Wk.gr _ _ | exact Wk.nil | exact Wk.clip _ | exact Wk.tip _ _ _) | exact Wk.aggs (by repeat (first | exact Wks.nil | refine Wks.cons (by first | exact Wk.refl _ | exact Wk.nil | exact Wk.clip _ | exact Wk.tip _ _ _ | exact Wk.gr _ _ | exact Wk.nil_gr) ?_)) rfl) ?_))), rfl⟩) (hs := (by repeat (first | exact List.Sublist.refl _ | apply List.Sublist.cons | apply Sl.gB)))

noncomputable def l_ref9_Take (a0 : SBook) (a1 : Txt) (a2 : Txt) (a3 : Int) : Option (SBook × Int) :=
(l_ref4_Name a2).bind fun x3 =>
cond (((!x3) || (decide (a3 < 1))) || (decide (a3 > 1125899906842624))) (
some (a0, 1)) (
(l_ref9_Has a0 a1).bind fun x7 =>
cond (!x7) (
some (a0, 4)) (
(l_ref9_fund a0 a1 a2).bind fun x11 =>
cond (decide (x11 < a3)) (
some (a0, 6)) (
(l_ref9_fund a0 a1 a2).bind fun x15 =>
(ensure (-9223372036854775808 ≤ x15 - a3 ∧ x15 - a3 ≤ 9223372036854775807)).bind fun _ =>
(l_ref9_Put a0 a1 a2 (x15 - a3)).bind fun x18 =>
some (x18, 0))))
theorem c_ref9_Take {a0 : SBook} {a1 : Txt} {a2 : Txt} {a3 : Int} {r : SBook × Int} (hF : l_ref9_Take a0 a1 a2 a3 = some r) : APure Try.prog 46 [.agg (rBook a0), sA a1, sA a2, iA a3] (.tup [.agg (rBook r.1), iA r.2]) := fun bs => by
  unfold l_ref9_Take at hF
  refine ACalls.wk ?_
  refine ACalls.in_ Try.func46 Try.ntmps46 (h := ?_)
  (repeat refine gc (h := ?_))
  refine AW.region ?_
  (repeat refine gl (h := ?_))
  intro g1
  (repeat refine gl (h := ?_))
  intro g2
  (repeat refine gl (h := ?_))
  obtain ⟨x3, hc4, hF⟩ := bnd hF
  (repeat refine gc (h := ?_))
  refine AW.region ?_
  (repeat refine gl (h := ?_))
  refine AL.call (c_ref4_Name hc4) (h := ?_)
  (repeat refine gl (h := ?_))
  (repeat refine gc (h := ?_))
  refine AW.cond (b := (((!x3) || (decide (a3 < 1))) || (decide (a3 > 1125899906842624)))) rfl (fun hc6 => ?_) (fun hc6 => ?_)
  · replace hF := cnd_t hc6 hF
    (repeat refine gc (h := ?_))
    (repeat refine gc (h := ?_))
    refine AW.region ?_
    (repeat refine gl (h := ?_))
    obtain rfl := some_inj hF
    (repeat refine gc (h := ?_))
    exact EndQ.fin (bs' := bs) (h := ⟨(by first | exact Wk.refl _ | exact (by first | exact Wk.refl _ | exact Wk.nil | exact Wk.clip _ | exact Wk.tip _ _ _ | exact Wk.opt _ _ (by first | assumption | rfl) | exact Wk.gr _ _ | exact Wk.nil_gr | exact Wk.trans (Wk.opt _ _ (by first | assumption | rfl)) (by first | exact Wk.gr _ _ | exact Wk.nil | exact Wk.clip _ | exact Wk.tip _ _ _) | exact Wk.aggs (by repeat (first | exact Wks.nil | refine Wks.cons (by first | exact Wk.refl _ | exact Wk.nil | exact Wk.clip _ | exact Wk.tip _ _ _ | exact Wk.gr _ _ | exact Wk.nil_gr) ?_)) rfl) | exact Wk.tups (by repeat (first | exact Wks.nil | refine Wks.cons (by first | exact Wk.refl _ | exact Wk.nil | exact Wk.clip _ | exact Wk.tip _ _ _ | exact Wk.opt _ _ (by first | assumption | rfl) | exact Wk.gr _ _ | exact Wk.nil_gr | exact Wk.trans (Wk.opt _ _ (by first | assumption | rfl)) (by first | exact Wk.gr _ _ | exact Wk.nil | exact Wk.clip _ | exact Wk.tip _ _ _) | exact Wk.aggs (by repeat (first | exact Wks.nil | refine Wks.cons (by first | exact Wk.refl _ | exact Wk.nil | exact Wk.clip _ | exact Wk.tip _ _ _ | exact Wk.gr _ _ | exact Wk.nil_gr) ?_)) rfl) ?_))), rfl⟩) (hs := (by repeat (first | exact List.Sublist.refl _ | apply List.Sublist.cons | apply Sl.gB)))
  · replace hF := cnd_f hc6 hF
    (repeat refine gc (h := ?_))
    obtain ⟨x7, hc8, hF⟩ := bnd hF
    (repeat refine gc (h := ?_))
    refine AW.region ?_
    (repeat refine gl (h := ?_))
    refine AL.call (c_ref9_Has hc8) (h := ?_)
    (repeat refine gl (h := ?_))
    (repeat refine gc (h := ?_))
    refine AW.cond (b := (!x7)) rfl (fun hc10 => ?_) (fun hc10 => ?_)
    · replace hF := cnd_t hc10 hF
      (repeat refine gc (h := ?_))
      (repeat refine gc (h := ?_))
      refine AW.region ?_
      (repeat refine gl (h := ?_))
      obtain rfl := some_inj hF
      (repeat refine gc (h := ?_))
      exact EndQ.fin (bs' := bs) (h := ⟨(by first | exact Wk.refl _ | exact (by first | exact Wk.refl _ | exact Wk.nil | exact Wk.clip _ | exact Wk.tip _ _ _ | exact Wk.opt _ _ (by first | assumption | rfl) | exact Wk.gr _ _ | exact Wk.nil_gr | exact Wk.trans (Wk.opt _ _ (by first | assumption | rfl)) (by first | exact Wk.gr _ _ | exact Wk.nil | exact Wk.clip _ | exact Wk.tip _ _ _) | exact Wk.aggs (by repeat (first | exact Wks.nil | refine Wks.cons (by first | exact Wk.refl _ | exact Wk.nil | exact Wk.clip _ | exact Wk.tip _ _ _ | exact Wk.gr _ _ | exact Wk.nil_gr) ?_)) rfl) | exact Wk.tups (by repeat (first | exact Wks.nil | refine Wks.cons (by first | exact Wk.refl _ | exact Wk.nil | exact Wk.clip _ | exact Wk.tip _ _ _ | exact Wk.opt _ _ (by first | assumption | rfl) | exact Wk.gr _ _ | exact Wk.nil_gr | exact Wk.trans (Wk.opt _ _ (by first | assumption | rfl)) (by first | exact Wk.gr _ _ | exact Wk.nil | exact Wk.clip _ | exact Wk.tip _ _ _) | exact Wk.aggs (by repeat (first | exact Wks.nil | refine Wks.cons (by first | exact Wk.refl _ | exact Wk.nil | exact Wk.clip _ | exact Wk.tip _ _ _ | exact Wk.gr _ _ | exact Wk.nil_gr) ?_)) rfl) ?_))), rfl⟩) (hs := (by repeat (first | exact List.Sublist.refl _ | apply List.Sublist.cons | apply Sl.gB)))
    · replace hF := cnd_f hc10 hF
      (repeat refine gc (h := ?_))
      obtain ⟨x11, hc12, hF⟩ := bnd hF
      (repeat refine gc (h := ?_))
      refine AW.region ?_
      (repeat refine gl (h := ?_))
      refine AL.call (c_ref9_fund hc12) (h := ?_)
      (repeat refine gl (h := ?_))
      (repeat refine gc (h := ?_))
      refine AW.cond (b := (decide (x11 < a3))) rfl (fun hc14 => ?_) (fun hc14 => ?_)
      · replace hF := cnd_t hc14 hF
        have hc14p := of_decide_eq_true hc14
        (repeat refine gc (h := ?_))
        (repeat refine gc (h := ?_))
        refine AW.region ?_
        (repeat refine gl (h := ?_))
        obtain rfl := some_inj hF
        (repeat refine gc (h := ?_))
        exact EndQ.fin (bs' := bs) (h := ⟨(by first | exact Wk.refl _ | exact (by first | exact Wk.refl _ | exact Wk.nil | exact Wk.clip _ | exact Wk.tip _ _ _ | exact Wk.opt _ _ (by first | assumption | rfl) | exact Wk.gr _ _ | exact Wk.nil_gr | exact Wk.trans (Wk.opt _ _ (by first | assumption | rfl)) (by first | exact Wk.gr _ _ | exact Wk.nil | exact Wk.clip _ | exact Wk.tip _ _ _) | exact Wk.aggs (by repeat (first | exact Wks.nil | refine Wks.cons (by first | exact Wk.refl _ | exact Wk.nil | exact Wk.clip _ | exact Wk.tip _ _ _ | exact Wk.gr _ _ | exact Wk.nil_gr) ?_)) rfl) | exact Wk.tups (by repeat (first | exact Wks.nil | refine Wks.cons (by first | exact Wk.refl _ | exact Wk.nil | exact Wk.clip _ | exact Wk.tip _ _ _ | exact Wk.opt _ _ (by first | assumption | rfl) | exact Wk.gr _ _ | exact Wk.nil_gr | exact Wk.trans (Wk.opt _ _ (by first | assumption | rfl)) (by first | exact Wk.gr _ _ | exact Wk.nil | exact Wk.clip _ | exact Wk.tip _ _ _) | exact Wk.aggs (by repeat (first | exact Wks.nil | refine Wks.cons (by first | exact Wk.refl _ | exact Wk.nil | exact Wk.clip _ | exact Wk.tip _ _ _ | exact Wk.gr _ _ | exact Wk.nil_gr) ?_)) rfl) ?_))), rfl⟩) (hs := (by repeat (first | exact List.Sublist.refl _ | apply List.Sublist.cons | apply Sl.gB)))
      · replace hF := cnd_f hc14 hF
        have hc14p := of_decide_eq_false hc14
        (repeat refine gc (h := ?_))
        obtain ⟨x15, hc16, hF⟩ := bnd hF
        obtain ⟨he17, hF⟩ := ens hF
        obtain ⟨x18, hc19, hF⟩ := bnd hF
        (repeat refine gc (h := ?_))
        (repeat refine goD (h := ?_))
        refine ADl.call (c_ref9_fund hc16) (h := ?_)
        (repeat refine goD (h := ?_))
        refine ADl.call (c_ref9_Put hc19) (h := ?_)
        (repeat refine goD (h := ?_))
        obtain rfl := some_inj hF
        (repeat refine gc (h := ?_))
        exact EndQ.fin (bs' := bs) (h := ⟨(by first | exact Wk.refl _ | exact (by first | exact Wk.refl _ | exact Wk.nil | exact Wk.clip _ | exact Wk.tip _ _ _ | exact Wk.opt _ _ (by first | assumption | rfl) | exact Wk.gr _ _ | exact Wk.nil_gr | exact Wk.trans (Wk.opt _ _ (by first | assumption | rfl)) (by first | exact Wk.gr _ _ | exact Wk.nil | exact Wk.clip _ | exact Wk.tip _ _ _) | exact Wk.aggs (by repeat (first | exact Wks.nil | refine Wks.cons (by first | exact Wk.refl _ | exact Wk.nil | exact Wk.clip _ | exact Wk.tip _ _ _ | exact Wk.gr _ _ | exact Wk.nil_gr) ?_)) rfl) | exact Wk.tups (by repeat (first | exact Wks.nil | refine Wks.cons (by first | exact Wk.refl _ | exact Wk.nil | exact Wk.clip _ | exact Wk.tip _ _ _ | exact Wk.opt _ _ (by first | assumption | rfl) | exact Wk.gr _ _ | exact Wk.nil_gr | exact Wk.trans (Wk.opt _ _ (by first | assumption | rfl)) (by first | exact Wk.gr _ _ | exact Wk.nil | exact Wk.clip _ | exact Wk.tip _ _ _) | exact Wk.aggs (by repeat (first | exact Wks.nil | refine Wks.cons (by first | exact Wk.refl _ | exact Wk.nil | exact Wk.clip _ | exact Wk.tip _ _ _ | exact Wk.gr _ _ | exact Wk.nil_gr) ?_)) rfl) ?_))), rfl⟩) (hs := (by repeat (first | exact List.Sublist.refl _ | apply List.Sublist.cons | apply Sl.gB)))

noncomputable def l_ref9_Move (a0 : SBook) (a1 : Txt) (a2 : Txt) (a3 : Txt) (a4 : Int) : Option (SBook × Int) :=
(l_ref9_Take a0 a1 a3 a4).bind fun x3 =>
cond (x3.2 != 0) (
some (a0, x3.2)) (
(l_ref9_Has a0 a2).bind fun x8 =>
cond (!x8) (
some (a0, 4)) (
(l_ref9_fund x3.1 a2 a3).bind fun x12 =>
(ensure (-9223372036854775808 ≤ x12 + a4 ∧ x12 + a4 ≤ 9223372036854775807)).bind fun _ =>
(l_ref9_Put x3.1 a2 a3 (x12 + a4)).bind fun x15 =>
some (x15, 0)))
theorem c_ref9_Move {a0 : SBook} {a1 : Txt} {a2 : Txt} {a3 : Txt} {a4 : Int} {r : SBook × Int} (hF : l_ref9_Move a0 a1 a2 a3 a4 = some r) : APure Try.prog 48 [.agg (rBook a0), sA a1, sA a2, sA a3, iA a4] (.tup [.agg (rBook r.1), iA r.2]) := fun bs => by
  unfold l_ref9_Move at hF
  refine ACalls.wk ?_
  refine ACalls.in_ Try.func48 Try.ntmps48 (h := ?_)
  (repeat refine gc (h := ?_))
  refine AW.region ?_
  (repeat refine gl (h := ?_))
  intro g1
  (repeat refine gl (h := ?_))
  intro g2
  (repeat refine gl (h := ?_))
  obtain ⟨x3, hc4, hF⟩ := bnd hF
  (repeat refine gc (h := ?_))
  refine AW.region ?_
  (repeat refine gl (h := ?_))
  refine AL.call (c_ref9_Take hc4) (h := ?_)
  (repeat refine gl (h := ?_))
  intro g5
  (repeat refine gl (h := ?_))
  (repeat refine gc (h := ?_))
  refine AW.region ?_
  (repeat refine gl (h := ?_))
  (repeat refine gc (h := ?_))
  refine AW.cond (b := (x3.2 != 0)) rfl (fun hc7 => ?_) (fun hc7 => ?_)
  · replace hF := cnd_t hc7 hF
    (repeat refine gc (h := ?_))
    (repeat refine gc (h := ?_))
    refine AW.region ?_
    (repeat refine gl (h := ?_))
    obtain rfl := some_inj hF
    (repeat refine gc (h := ?_))
    exact EndQ.fin (bs' := bs) (h := ⟨(by first | exact Wk.refl _ | exact (by first | exact Wk.refl _ | exact Wk.nil | exact Wk.clip _ | exact Wk.tip _ _ _ | exact Wk.opt _ _ (by first | assumption | rfl) | exact Wk.gr _ _ | exact Wk.nil_gr | exact Wk.trans (Wk.opt _ _ (by first | assumption | rfl)) (by first | exact Wk.gr _ _ | exact Wk.nil | exact Wk.clip _ | exact Wk.tip _ _ _) | exact Wk.aggs (by repeat (first | exact Wks.nil | refine Wks.cons (by first | exact Wk.refl _ | exact Wk.nil | exact Wk.clip _ | exact Wk.tip _ _ _ | exact Wk.gr _ _ | exact Wk.nil_gr) ?_)) rfl) | exact Wk.tups (by repeat (first | exact Wks.nil | refine Wks.cons (by first | exact Wk.refl _ | exact Wk.nil | exact Wk.clip _ | exact Wk.tip _ _ _ | exact Wk.opt _ _ (by first | assumption | rfl) | exact Wk.gr _ _ | exact Wk.nil_gr | exact Wk.trans (Wk.opt _ _ (by first | assumption | rfl)) (by first | exact Wk.gr _ _ | exact Wk.nil | exact Wk.clip _ | exact Wk.tip _ _ _) | exact Wk.aggs (by repeat (first | exact Wks.nil | refine Wks.cons (by first | exact Wk.refl _ | exact Wk.nil | exact Wk.clip _ | exact Wk.tip _ _ _ | exact Wk.gr _ _ | exact Wk.nil_gr) ?_)) rfl) ?_))), rfl⟩) (hs := (by repeat (first | exact List.Sublist.refl _ | apply List.Sublist.cons | apply Sl.gB)))
  · replace hF := cnd_f hc7 hF
    (repeat refine gc (h := ?_))
    obtain ⟨x8, hc9, hF⟩ := bnd hF
    (repeat refine gc (h := ?_))
    refine AW.region ?_
    (repeat refine gl (h := ?_))
    refine AL.call (c_ref9_Has hc9) (h := ?_)
    (repeat refine gl (h := ?_))
    (repeat refine gc (h := ?_))
    refine AW.cond (b := (!x8)) rfl (fun hc11 => ?_) (fun hc11 => ?_)
    · replace hF := cnd_t hc11 hF
      (repeat refine gc (h := ?_))
      (repeat refine gc (h := ?_))
      refine AW.region ?_
      (repeat refine gl (h := ?_))
      obtain rfl := some_inj hF
      (repeat refine gc (h := ?_))
      exact EndQ.fin (bs' := bs) (h := ⟨(by first | exact Wk.refl _ | exact (by first | exact Wk.refl _ | exact Wk.nil | exact Wk.clip _ | exact Wk.tip _ _ _ | exact Wk.opt _ _ (by first | assumption | rfl) | exact Wk.gr _ _ | exact Wk.nil_gr | exact Wk.trans (Wk.opt _ _ (by first | assumption | rfl)) (by first | exact Wk.gr _ _ | exact Wk.nil | exact Wk.clip _ | exact Wk.tip _ _ _) | exact Wk.aggs (by repeat (first | exact Wks.nil | refine Wks.cons (by first | exact Wk.refl _ | exact Wk.nil | exact Wk.clip _ | exact Wk.tip _ _ _ | exact Wk.gr _ _ | exact Wk.nil_gr) ?_)) rfl) | exact Wk.tups (by repeat (first | exact Wks.nil | refine Wks.cons (by first | exact Wk.refl _ | exact Wk.nil | exact Wk.clip _ | exact Wk.tip _ _ _ | exact Wk.opt _ _ (by first | assumption | rfl) | exact Wk.gr _ _ | exact Wk.nil_gr | exact Wk.trans (Wk.opt _ _ (by first | assumption | rfl)) (by first | exact Wk.gr _ _ | exact Wk.nil | exact Wk.clip _ | exact Wk.tip _ _ _) | exact Wk.aggs (by repeat (first | exact Wks.nil | refine Wks.cons (by first | exact Wk.refl _ | exact Wk.nil | exact Wk.clip _ | exact Wk.tip _ _ _ | exact Wk.gr _ _ | exact Wk.nil_gr) ?_)) rfl) ?_))), rfl⟩) (hs := (by repeat (first | exact List.Sublist.refl _ | apply List.Sublist.cons | apply Sl.gB)))
    · replace hF := cnd_f hc11 hF
      (repeat refine gc (h := ?_))
      obtain ⟨x12, hc13, hF⟩ := bnd hF
      obtain ⟨he14, hF⟩ := ens hF
      obtain ⟨x15, hc16, hF⟩ := bnd hF
      (repeat refine gc (h := ?_))
      (repeat refine goD (h := ?_))
      refine ADl.call (c_ref9_fund hc13) (h := ?_)
      (repeat refine goD (h := ?_))
      refine ADl.call (c_ref9_Put hc16) (h := ?_)
      (repeat refine goD (h := ?_))
      obtain rfl := some_inj hF
      (repeat refine gc (h := ?_))
      exact EndQ.fin (bs' := bs) (h := ⟨(by first | exact Wk.refl _ | exact (by first | exact Wk.refl _ | exact Wk.nil | exact Wk.clip _ | exact Wk.tip _ _ _ | exact Wk.opt _ _ (by first | assumption | rfl) | exact Wk.gr _ _ | exact Wk.nil_gr | exact Wk.trans (Wk.opt _ _ (by first | assumption | rfl)) (by first | exact Wk.gr _ _ | exact Wk.nil | exact Wk.clip _ | exact Wk.tip _ _ _) | exact Wk.aggs (by repeat (first | exact Wks.nil | refine Wks.cons (by first | exact Wk.refl _ | exact Wk.nil | exact Wk.clip _ | exact Wk.tip _ _ _ | exact Wk.gr _ _ | exact Wk.nil_gr) ?_)) rfl) | exact Wk.tups (by repeat (first | exact Wks.nil | refine Wks.cons (by first | exact Wk.refl _ | exact Wk.nil | exact Wk.clip _ | exact Wk.tip _ _ _ | exact Wk.opt _ _ (by first | assumption | rfl) | exact Wk.gr _ _ | exact Wk.nil_gr | exact Wk.trans (Wk.opt _ _ (by first | assumption | rfl)) (by first | exact Wk.gr _ _ | exact Wk.nil | exact Wk.clip _ | exact Wk.tip _ _ _) | exact Wk.aggs (by repeat (first | exact Wks.nil | refine Wks.cons (by first | exact Wk.refl _ | exact Wk.nil | exact Wk.clip _ | exact Wk.tip _ _ _ | exact Wk.gr _ _ | exact Wk.nil_gr) ?_)) rfl) ?_))), rfl⟩) (hs := (by repeat (first | exact List.Sublist.refl _ | apply List.Sublist.cons | apply Sl.gB)))

noncomputable def l_ref9_Balance (a0 : SBook) (a1 : Txt) (a2 : Txt) : Option (Int × Int) :=
(l_ref4_Name a2).bind fun x2 =>
cond (!x2) (
some (0, 1)) (
(l_ref9_Has a0 a1).bind fun x6 =>
cond (!x6) (
some (0, 4)) (
(l_ref9_fund a0 a1 a2).bind fun x10 =>
some (x10, 0)))
theorem c_ref9_Balance {a0 : SBook} {a1 : Txt} {a2 : Txt} {r : Int × Int} (hF : l_ref9_Balance a0 a1 a2 = some r) : APure Try.prog 49 [.agg (rBook a0), sA a1, sA a2] (.tup [iA r.1, iA r.2]) := fun bs => by
  unfold l_ref9_Balance at hF
  refine ACalls.wk ?_
  refine ACalls.in_ Try.func49 Try.ntmps49 (h := ?_)
  (repeat refine gc (h := ?_))
  refine AW.region ?_
  (repeat refine gl (h := ?_))
  intro g1
  (repeat refine gl (h := ?_))
  obtain ⟨x2, hc3, hF⟩ := bnd hF
  (repeat refine gc (h := ?_))
  refine AW.region ?_
  (repeat refine gl (h := ?_))
  refine AL.call (c_ref4_Name hc3) (h := ?_)
  (repeat refine gl (h := ?_))
  (repeat refine gc (h := ?_))
  refine AW.cond (b := (!x2)) rfl (fun hc5 => ?_) (fun hc5 => ?_)
  · replace hF := cnd_t hc5 hF
    (repeat refine gc (h := ?_))
    (repeat refine gc (h := ?_))
    refine AW.region ?_
    (repeat refine gl (h := ?_))
    obtain rfl := some_inj hF
    (repeat refine gc (h := ?_))
    exact EndQ.fin (bs' := bs) (h := ⟨(by first | exact Wk.refl _ | exact (by first | exact Wk.refl _ | exact Wk.nil | exact Wk.clip _ | exact Wk.tip _ _ _ | exact Wk.opt _ _ (by first | assumption | rfl) | exact Wk.gr _ _ | exact Wk.nil_gr | exact Wk.trans (Wk.opt _ _ (by first | assumption | rfl)) (by first | exact Wk.gr _ _ | exact Wk.nil | exact Wk.clip _ | exact Wk.tip _ _ _) | exact Wk.aggs (by repeat (first | exact Wks.nil | refine Wks.cons (by first | exact Wk.refl _ | exact Wk.nil | exact Wk.clip _ | exact Wk.tip _ _ _ | exact Wk.gr _ _ | exact Wk.nil_gr) ?_)) rfl) | exact Wk.tups (by repeat (first | exact Wks.nil | refine Wks.cons (by first | exact Wk.refl _ | exact Wk.nil | exact Wk.clip _ | exact Wk.tip _ _ _ | exact Wk.opt _ _ (by first | assumption | rfl) | exact Wk.gr _ _ | exact Wk.nil_gr | exact Wk.trans (Wk.opt _ _ (by first | assumption | rfl)) (by first | exact Wk.gr _ _ | exact Wk.nil | exact Wk.clip _ | exact Wk.tip _ _ _) | exact Wk.aggs (by repeat (first | exact Wks.nil | refine Wks.cons (by first | exact Wk.refl _ | exact Wk.nil | exact Wk.clip _ | exact Wk.tip _ _ _ | exact Wk.gr _ _ | exact Wk.nil_gr) ?_)) rfl) ?_))), rfl⟩) (hs := (by repeat (first | exact List.Sublist.refl _ | apply List.Sublist.cons | apply Sl.gB)))
  · replace hF := cnd_f hc5 hF
    (repeat refine gc (h := ?_))
    obtain ⟨x6, hc7, hF⟩ := bnd hF
    (repeat refine gc (h := ?_))
    refine AW.region ?_
    (repeat refine gl (h := ?_))
    refine AL.call (c_ref9_Has hc7) (h := ?_)
    (repeat refine gl (h := ?_))
    (repeat refine gc (h := ?_))
    refine AW.cond (b := (!x6)) rfl (fun hc9 => ?_) (fun hc9 => ?_)
    · replace hF := cnd_t hc9 hF
      (repeat refine gc (h := ?_))
      (repeat refine gc (h := ?_))
      refine AW.region ?_
      (repeat refine gl (h := ?_))
      obtain rfl := some_inj hF
      (repeat refine gc (h := ?_))
      exact EndQ.fin (bs' := bs) (h := ⟨(by first | exact Wk.refl _ | exact (by first | exact Wk.refl _ | exact Wk.nil | exact Wk.clip _ | exact Wk.tip _ _ _ | exact Wk.opt _ _ (by first | assumption | rfl) | exact Wk.gr _ _ | exact Wk.nil_gr | exact Wk.trans (Wk.opt _ _ (by first | assumption | rfl)) (by first | exact Wk.gr _ _ | exact Wk.nil | exact Wk.clip _ | exact Wk.tip _ _ _) | exact Wk.aggs (by repeat (first | exact Wks.nil | refine Wks.cons (by first | exact Wk.refl _ | exact Wk.nil | exact Wk.clip _ | exact Wk.tip _ _ _ | exact Wk.gr _ _ | exact Wk.nil_gr) ?_)) rfl) | exact Wk.tups (by repeat (first | exact Wks.nil | refine Wks.cons (by first | exact Wk.refl _ | exact Wk.nil | exact Wk.clip _ | exact Wk.tip _ _ _ | exact Wk.opt _ _ (by first | assumption | rfl) | exact Wk.gr _ _ | exact Wk.nil_gr | exact Wk.trans (Wk.opt _ _ (by first | assumption | rfl)) (by first | exact Wk.gr _ _ | exact Wk.nil | exact Wk.clip _ | exact Wk.tip _ _ _) | exact Wk.aggs (by repeat (first | exact Wks.nil | refine Wks.cons (by first | exact Wk.refl _ | exact Wk.nil | exact Wk.clip _ | exact Wk.tip _ _ _ | exact Wk.gr _ _ | exact Wk.nil_gr) ?_)) rfl) ?_))), rfl⟩) (hs := (by repeat (first | exact List.Sublist.refl _ | apply List.Sublist.cons | apply Sl.gB)))
    · replace hF := cnd_f hc9 hF
      (repeat refine gc (h := ?_))
      obtain ⟨x10, hc11, hF⟩ := bnd hF
      (repeat refine gc (h := ?_))
      refine AW.region ?_
      (repeat refine gl (h := ?_))
      refine AL.call (c_ref9_fund hc11) (h := ?_)
      (repeat refine gl (h := ?_))
      obtain rfl := some_inj hF
      (repeat refine gc (h := ?_))
      exact EndQ.fin (bs' := bs) (h := ⟨(by first | exact Wk.refl _ | exact (by first | exact Wk.refl _ | exact Wk.nil | exact Wk.clip _ | exact Wk.tip _ _ _ | exact Wk.opt _ _ (by first | assumption | rfl) | exact Wk.gr _ _ | exact Wk.nil_gr | exact Wk.trans (Wk.opt _ _ (by first | assumption | rfl)) (by first | exact Wk.gr _ _ | exact Wk.nil | exact Wk.clip _ | exact Wk.tip _ _ _) | exact Wk.aggs (by repeat (first | exact Wks.nil | refine Wks.cons (by first | exact Wk.refl _ | exact Wk.nil | exact Wk.clip _ | exact Wk.tip _ _ _ | exact Wk.gr _ _ | exact Wk.nil_gr) ?_)) rfl) | exact Wk.tups (by repeat (first | exact Wks.nil | refine Wks.cons (by first | exact Wk.refl _ | exact Wk.nil | exact Wk.clip _ | exact Wk.tip _ _ _ | exact Wk.opt _ _ (by first | assumption | rfl) | exact Wk.gr _ _ | exact Wk.nil_gr | exact Wk.trans (Wk.opt _ _ (by first | assumption | rfl)) (by first | exact Wk.gr _ _ | exact Wk.nil | exact Wk.clip _ | exact Wk.tip _ _ _) | exact Wk.aggs (by repeat (first | exact Wks.nil | refine Wks.cons (by first | exact Wk.refl _ | exact Wk.nil | exact Wk.clip _ | exact Wk.tip _ _ _ | exact Wk.gr _ _ | exact Wk.nil_gr) ?_)) rfl) ?_))), rfl⟩) (hs := (by repeat (first | exact List.Sublist.refl _ | apply List.Sublist.cons | apply Sl.gB)))

end Go.Proofs.Ytnkkfmnpkgjabaa.X
