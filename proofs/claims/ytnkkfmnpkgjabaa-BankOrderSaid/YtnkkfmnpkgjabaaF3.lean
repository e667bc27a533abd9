/- Lifted code. Printed by a program of this repo (lift.py). -/
import Derived.Test.YtnkkfmnpkgjabaaF2
namespace Go.Proofs.Ytnkkfmnpkgjabaa.X
open Go.RowKit
set_option linter.unusedVariables false
set_option linter.unusedSimpArgs false
set_option maxRecDepth 10000
set_option maxHeartbeats 4000000
noncomputable def l_ref19_SameMsg (a0 : SMsg) (a1 : SMsg) : Option (Bool) :=
(grd ((((((((((a0.Kind == a1.Kind) && (a0.From == a1.From)) && (a0.To == a1.To)) && (a0.Term == a1.Term)) && (a0.Index == a1.Index)) && (a0.At == a1.At)) && (a0.Yes == a1.Yes)) && (a0.Commit == a1.Commit)) && (decide (a0.Snap = a1.Snap)))) (l_ref17_SameLog a0.Entries a1.Entries)).bind fun x3 =>
some ((((((((((a0.Kind == a1.Kind) && (a0.From == a1.From)) && (a0.To == a1.To)) && (a0.Term == a1.Term)) && (a0.Index == a1.Index)) && (a0.At == a1.At)) && (a0.Yes == a1.Yes)) && (a0.Commit == a1.Commit)) && (decide (a0.Snap = a1.Snap))) && x3)
theorem c_ref19_SameMsg {a0 : SMsg} {a1 : SMsg} {r : Bool} (hF : l_ref19_SameMsg a0 a1 = some r) : APure Try.prog 15 [.agg (rMsg a0), .agg (rMsg a1)] (bA r) := fun bs => by
  unfold l_ref19_SameMsg at hF
  refine ACalls.wk ?_
  refine ACalls.in_ Try.func15 Try.ntmps15 (h := ?_)
  (repeat refine gc (h := ?_))
  refine AW.region ?_
  (repeat refine gl (h := ?_))
  intro g1
  (repeat refine gl (h := ?_))
  intro g2
  (repeat refine gl (h := ?_))
  obtain ⟨x3, hc4, hF⟩ := grd_b hF
  (repeat refine gc (h := ?_))
  refine AW.region ?_
  show AL _ _ _ _ (_ :: _) _ _
  ((repeat (show AL _ _ _ _ (_ :: _) _ _; refine gl (h := ?_))); try show AL _ _ _ _ (_ :: _) _ _)
  refine AL.gd (hq := fun hgb => OpQ.c (c_ref17_SameLog (hc4 hgb))) (h := ?_)
  ((repeat (show AL _ _ _ _ (_ :: _) _ _; refine gl (h := ?_))); try show AL _ _ _ _ (_ :: _) _ _)
  (repeat refine gl (h := ?_))
  obtain rfl := some_inj hF
  (repeat refine gc (h := ?_))
  exact EndQ.fin (bs' := bs) (h := ⟨(by first | exact Wk.refl _ | exact (by first | exact Wk.refl _ | exact Wk.nil | exact Wk.clip _ | exact Wk.tip _ _ _ | exact Wk.opt _ _ (by first | assumption | rfl) | exact Wk.gr _ _ | exact Wk.nil_gr | exact Wk.trans (Wk.opt _ _ (by first | assumption | rfl)) (by first | exact Wk.gr _ _ | exact Wk.nil | exact Wk.clip _ | exact Wk.tip _ _ _) | exact Wk.aggs (by repeat (first | exact Wks.nil | refine Wks.cons (by first | exact Wk.refl _ | exact Wk.nil | exact Wk.clip _ | exact Wk.tip _ _ _ | exact Wk.gr _ _ | exact Wk.nil_gr) ?_)) rfl) | exact Wk.tups (by repeat (first | exact Wks.nil | refine Wks.cons (by first | exact Wk.refl _ | exact Wk.nil | exact Wk.clip _ | exact Wk.tip _ _ _ | exact Wk.opt _ _ (by first | assumption | rfl) | exact Wk.gr _ _ | exact Wk.nil_gr | exact Wk.trans (Wk.opt _ _ (by first | assumption | rfl)) (by first | exact Wk.gr _ _ | exact Wk.nil | exact Wk.clip _ | exact Wk.tip _ _ _) | exact Wk.aggs (by repeat (first | exact Wks.nil | refine Wks.cons (by first | exact Wk.refl _ | exact Wk.nil | exact Wk.clip _ | exact Wk.tip _ _ _ | exact Wk.gr _ _ | exact Wk.nil_gr) ?_)) rfl) ?_))), rfl⟩) (hs := (by repeat (first | exact List.Sublist.refl _ | apply List.Sublist.cons | apply Sl.gB)))

noncomputable def l_bank_New (a0 : Int) : Option (SBook) :=
some (SBook.mk (max 0 (min a0 3)) 0 [] [] [])
theorem c_bank_New {a0 : Int} {r : SBook} (hF : l_bank_New a0 = some r) : APure Try.prog 22 [iA a0] (.agg (rBook r)) := fun bs => by
  unfold l_bank_New at hF
  refine ACalls.wk ?_
  refine ACalls.in_ Try.func22 Try.ntmps22 (h := ?_)
  (repeat refine gc (h := ?_))
  refine AW.region ?_
  (repeat refine gl (h := ?_))
  intro g1
  (repeat refine gl (h := ?_))
  (repeat refine gc (h := ?_))
  refine AW.region ?_
  (repeat refine gl (h := ?_))
  obtain rfl := some_inj hF
  (repeat refine gc (h := ?_))
  exact EndQ.fin (bs' := bs) (h := ⟨(by first | exact Wk.refl _ | exact (by first | exact Wk.refl _ | exact Wk.nil | exact Wk.clip _ | exact Wk.tip _ _ _ | exact Wk.opt _ _ (by first | assumption | rfl) | exact Wk.gr _ _ | exact Wk.nil_gr | exact Wk.trans (Wk.opt _ _ (by first | assumption | rfl)) (by first | exact Wk.gr _ _ | exact Wk.nil | exact Wk.clip _ | exact Wk.tip _ _ _) | exact Wk.aggs (by repeat (first | exact Wks.nil | refine Wks.cons (by first | exact Wk.refl _ | exact Wk.nil | exact Wk.clip _ | exact Wk.tip _ _ _ | exact Wk.gr _ _ | exact Wk.nil_gr) ?_)) rfl) | exact Wk.tups (by repeat (first | exact Wks.nil | refine Wks.cons (by first | exact Wk.refl _ | exact Wk.nil | exact Wk.clip _ | exact Wk.tip _ _ _ | exact Wk.opt _ _ (by first | assumption | rfl) | exact Wk.gr _ _ | exact Wk.nil_gr | exact Wk.trans (Wk.opt _ _ (by first | assumption | rfl)) (by first | exact Wk.gr _ _ | exact Wk.nil | exact Wk.clip _ | exact Wk.tip _ _ _) | exact Wk.aggs (by repeat (first | exact Wks.nil | refine Wks.cons (by first | exact Wk.refl _ | exact Wk.nil | exact Wk.clip _ | exact Wk.tip _ _ _ | exact Wk.gr _ _ | exact Wk.nil_gr) ?_)) rfl) ?_))), rfl⟩) (hs := (by repeat (first | exact List.Sublist.refl _ | apply List.Sublist.cons | apply Sl.gB)))

noncomputable def l_bank_held_b0 (a0 : SBook) (s36 : List SArc) (s39 : Int) : Option (((List SArc) × Int) ⊕ ((List SArc) × Int)) :=
cond (decide (s39 < (a0.Escrows.length : Int))) (
(idxO a0.Escrows s39).bind fun x53 =>
cond (((x53.State == 1) && (decide (x53.Arc ≥ 0))) && (decide (x53.Arc < (x53.Spec.Arcs.length : Int)))) (
(idxO x53.Spec.Arcs x53.Arc).bind fun x58 =>
(ensure ((s36.length + [x58].length) * 48 ≤ 140737488355328)).bind fun _ =>
(ensure (-9223372036854775808 ≤ s39 + 1 ∧ s39 + 1 ≤ 9223372036854775807)).bind fun _ =>
some (.inl ((s36 ++ [x58]), (s39 + 1)))) (
(ensure (-9223372036854775808 ≤ s39 + 1 ∧ s39 + 1 ≤ 9223372036854775807)).bind fun _ =>
some (.inl (s36, (s39 + 1))))) (
some (.inr (s36, s39)))
noncomputable def l_bank_held (a0 : SBook) : Option ((List SArc)) :=
Option.bind (loopF (τ := (List SArc) × Int) (fun s : (List SArc) × Int => l_bank_held_b0 a0 s.1 s.2) (([] : List SArc), 0)) fun oo40 => (match oo40 with
| (e47, e50) =>
some e47)
theorem c_bank_held {a0 : SBook} {r : (List SArc)} (hF : l_bank_held a0 = some r) : APure Try.prog 42 [.agg (rBook a0)] (.sl (r.map rArc)) := fun bs => by
  unfold l_bank_held at hF
  refine ACalls.wk ?_
  refine ACalls.in_ Try.func42 Try.ntmps42 (h := ?_)
  (repeat refine gc (h := ?_))
  refine AW.region ?_
  (repeat refine gl (h := ?_))
  intro g1
  (repeat refine gl (h := ?_))
  (repeat refine gc (h := ?_))
  refine AW.region ?_
  (repeat refine gl (h := ?_))
  (repeat refine gc (h := ?_))
  refine AW.region ?_
  (repeat refine gl (h := ?_))
  obtain ⟨oo40, hL41, hO42⟩ := bnd hF
  (repeat refine gc (h := ?_))
  refine AW.join2_1 (fun (e47 : List SArc) (e50 : Int) (o48 : OG) => [(0, .agg (rBook a0)), (1, .ptr g1 0), (2, .nil), (3, .gr o48 (e47.map rArc)), (7, .sl (a0.Escrows.map rEscrow)), (8, iA (a0.Escrows.length : Int)), (9, iA e50)]) (fun (e47 : List SArc) (e50 : Int) (o48 : OG) => gB o48 e47.length 5 84 ((g1, .cells [iA a0.Number, iA a0.Time, .sl (a0.Accounts.map strR), .sl (a0.Funds.map rFund), .sl (a0.Escrows.map rEscrow)]) :: bs)) (fun (e47 : List SArc) (e50 : Int) (o48 : OG) => oo40 = (e47, e50)) ?_ (fun e47 e50 o48 hs66 => ?_)
  · (repeat refine gc (h := ?_))
    refine AW.block ?_
    refine AW.loopF2_1 hL41 (fun (s36 : List SArc) (s39 : Int) (o37 : OG) => [(0, .agg (rBook a0)), (1, .ptr g1 0), (2, .nil), (3, .gr o37 (s36.map rArc)), (7, .sl (a0.Escrows.map rEscrow)), (8, iA (a0.Escrows.length : Int)), (9, iA s39)]) (fun (s36 : List SArc) (s39 : Int) (o37 : OG) => gB o37 s36.length 5 84 ((g1, .cells [iA a0.Number, iA a0.Time, .sl (a0.Accounts.map strR), .sl (a0.Funds.map rFund), .sl (a0.Escrows.map rEscrow)]) :: bs)) (fun (s36 : List SArc) (s39 : Int) (o37 : OG) => True) none trivial (by repeat (first | exact Sub.nil | refine Sub.cons (k := ?_))) rfl (fun s36 s39 o37 v43 hp44 hF => ?_)
    replace hF : l_bank_held_b0 a0 s36 s39 = some v43 := hF
    unfold l_bank_held_b0 at hF
    (repeat refine gc (h := ?_))
    (repeat refine gc (h := ?_))
    refine AW.region ?_
    (repeat refine gl (h := ?_))
    (repeat refine gc (h := ?_))
    refine AW.cond (b := (decide (s39 < (a0.Escrows.length : Int)))) rfl (fun hc52 => ?_) (fun hc52 => ?_)
    · replace hF := cnd_t hc52 hF
      have hc52p := of_decide_eq_true hc52
      (repeat refine gc (h := ?_))
      (repeat refine gc (h := ?_))
      refine AW.block ?_
      obtain ⟨x53, h54, h55, hF⟩ := idx_b hF
      (repeat refine gc (h := ?_))
      refine AW.region ?_
      (repeat refine gl (h := ?_))
      intro g56
      (repeat refine gl (h := ?_))
      (repeat refine gc (h := ?_))
      refine AW.region ?_
      (repeat refine gl (h := ?_))
      (repeat refine gc (h := ?_))
      refine AW.cond (b := (((x53.State == 1) && (decide (x53.Arc ≥ 0))) && (decide (x53.Arc < (x53.Spec.Arcs.length : Int))))) rfl (fun hc57 => ?_) (fun hc57 => ?_)
      · replace hF := cnd_t hc57 hF
        (repeat refine gc (h := ?_))
        obtain ⟨x58, h59, h60, hF⟩ := idx_b hF
        obtain ⟨he61, hF⟩ := ens hF
        (repeat refine gc (h := ?_))
        refine AW.region ?_
        (repeat refine gl (h := ?_))
        refine AL.grow (R := rArc) (l := s36) (l2 := [x58]) (rs := (s36 ++ [x58])) (.cons .here) rfl he61 (fun _ => rfl) (h := fun o62 => ?_)
        (repeat refine gl (h := ?_))
        obtain ⟨he64, hF⟩ := ens hF
        (repeat refine gc (h := ?_))
        refine AW.region ?_
        (repeat refine gl (h := ?_))
        (repeat refine gc (h := ?_))
        exact lpQ2_1.n (s36 ++ [x58]) (s39 + 1) o62 (some_inj hF) trivial (by repeat (first | exact Sub.nil | refine Sub.cons (k := ?_))) (by repeat (first | exact List.Sublist.refl _ | apply List.Sublist.cons | apply Sl.gB))
      · replace hF := cnd_f hc57 hF
        (repeat refine gc (h := ?_))
        obtain ⟨he65, hF⟩ := ens hF
        (repeat refine gc (h := ?_))
        refine AW.region ?_
        (repeat refine gl (h := ?_))
        (repeat refine gc (h := ?_))
        exact lpQ2_1.n s36 (s39 + 1) o37 (some_inj hF) trivial (by repeat (first | exact Sub.nil | refine Sub.cons (k := ?_))) (by repeat (first | exact List.Sublist.refl _ | apply List.Sublist.cons | apply Sl.gB))
    · replace hF := cnd_f hc52 hF
      have hc52p := of_decide_eq_false hc52
      (repeat refine gc (h := ?_))
      obtain rfl := some_inj hF
      (repeat refine gc (h := ?_))
      refine lpQ2_1.e _ rfl (fun ho46 => ?_)
      (repeat refine gc (h := ?_))
      exact jnQ2_1.n s36 s39 o37 ho46 (by repeat (first | exact Sub.nil | refine Sub.cons (k := ?_))) (by repeat (first | exact List.Sublist.refl _ | apply List.Sublist.cons | apply Sl.gB))
  · obtain rfl := hs66.symm
    replace hF := hO42
    try dsimp only at hF
    (repeat refine gc (h := ?_))
    (repeat refine gc (h := ?_))
    refine AW.region ?_
    (repeat refine gl (h := ?_))
    obtain rfl := some_inj hF
    (repeat refine gc (h := ?_))
    exact EndQ.fin (bs' := bs) (h := ⟨(by first | exact Wk.refl _ | exact (by first | exact Wk.refl _ | exact Wk.nil | exact Wk.clip _ | exact Wk.tip _ _ _ | exact Wk.opt _ _ (by first | assumption | rfl) | exact Wk.gr _ _ | exact Wk.nil_gr | exact Wk.trans (Wk.opt _ _ (by first | assumption | rfl)) (by first | exact Wk.gr _ _ | exact Wk.nil | exact Wk.clip _ | exact Wk.tip _ _ _) | exact Wk.aggs (by repeat (first | exact Wks.nil | refine Wks.cons (by first | exact Wk.refl _ | exact Wk.nil | exact Wk.clip _ | exact Wk.tip _ _ _ | exact Wk.gr _ _ | exact Wk.nil_gr) ?_)) rfl) | exact Wk.tups (by repeat (first | exact Wks.nil | refine Wks.cons (by first | exact Wk.refl _ | exact Wk.nil | exact Wk.clip _ | exact Wk.tip _ _ _ | exact Wk.opt _ _ (by first | assumption | rfl) | exact Wk.gr _ _ | exact Wk.nil_gr | exact Wk.trans (Wk.opt _ _ (by first | assumption | rfl)) (by first | exact Wk.gr _ _ | exact Wk.nil | exact Wk.clip _ | exact Wk.tip _ _ _) | exact Wk.aggs (by repeat (first | exact Wks.nil | refine Wks.cons (by first | exact Wk.refl _ | exact Wk.nil | exact Wk.clip _ | exact Wk.tip _ _ _ | exact Wk.gr _ _ | exact Wk.nil_gr) ?_)) rfl) ?_))), rfl⟩) (hs := (by repeat (first | exact List.Sublist.refl _ | apply List.Sublist.cons | apply Sl.gB)))

noncomputable def l_bank_Total_b0 (a0 : SBook) (a1 : Txt) (s24 : Int) (s25 : Int) : Option ((Int × Int) ⊕ (Int × Int)) :=
cond (decide (s25 < (a0.Funds.length : Int))) (
(idxO a0.Funds s25).bind fun x37 =>
cond (decide (x37.Asset = a1)) (
(ensure (-9223372036854775808 ≤ s24 + x37.Amount ∧ s24 + x37.Amount ≤ 9223372036854775807)).bind fun _ =>
(ensure (-9223372036854775808 ≤ s25 + 1 ∧ s25 + 1 ≤ 9223372036854775807)).bind fun _ =>
some (.inl ((s24 + x37.Amount), (s25 + 1)))) (
(ensure (-9223372036854775808 ≤ s25 + 1 ∧ s25 + 1 ≤ 9223372036854775807)).bind fun _ =>
some (.inl (s24, (s25 + 1))))) (
some (.inr (s24, s25)))
noncomputable def l_bank_Total_b1 (a1 : Txt) (x45 : (List SArc)) (s69 : Int) (s70 : Int) : Option ((Int × Int) ⊕ (Int × Int)) :=
cond (decide (s70 < (x45.length : Int))) (
(idxO x45 s70).bind fun x82 =>
cond (decide (x82.Asset = a1)) (
(ensure (-9223372036854775808 ≤ s69 + x82.Amount ∧ s69 + x82.Amount ≤ 9223372036854775807)).bind fun _ =>
(ensure (-9223372036854775808 ≤ s70 + 1 ∧ s70 + 1 ≤ 9223372036854775807)).bind fun _ =>
some (.inl ((s69 + x82.Amount), (s70 + 1)))) (
(ensure (-9223372036854775808 ≤ s70 + 1 ∧ s70 + 1 ≤ 9223372036854775807)).bind fun _ =>
some (.inl (s69, (s70 + 1))))) (
some (.inr (s69, s70)))
noncomputable def l_bank_Total (a0 : SBook) (a1 : Txt) : Option (Int) :=
Option.bind (loopF (τ := Int × Int) (fun s : Int × Int => l_bank_Total_b0 a0 a1 s.1 s.2) (0, 0)) fun oo26 => (match oo26 with
| (e33, e34) =>
(l_bank_held a0).bind fun x45 =>
Option.bind (loopF (τ := Int × Int) (fun s : Int × Int => l_bank_Total_b1 a1 x45 s.1 s.2) (e33, 0)) fun oo71 => (match oo71 with
| (e78, e79) =>
some e78))
theorem c_bank_Total {a0 : SBook} {a1 : Txt} {r : Int} (hF : l_bank_Total a0 a1 = some r) : APure Try.prog 28 [.agg (rBook a0), sA a1] (iA r) := fun bs => by
  unfold l_bank_Total at hF
  refine ACalls.wk ?_
  refine ACalls.in_ Try.func28 Try.ntmps28 (h := ?_)
  (repeat refine gc (h := ?_))
  refine AW.region ?_
  (repeat refine gl (h := ?_))
  intro g1
  (repeat refine gl (h := ?_))
  (repeat refine gc (h := ?_))
  refine AW.region ?_
  (repeat refine gl (h := ?_))
  (repeat refine gc (h := ?_))
  refine AW.region ?_
  (repeat refine gl (h := ?_))
  obtain ⟨oo26, hL27, hO28⟩ := bnd hF
  (repeat refine gc (h := ?_))
  refine AW.join2_0 (fun (e33 : Int) (e34 : Int) => [(0, .agg (rBook a0)), (1, sA a1), (2, .ptr g1 0), (4, iA 0), (5, iA e33), (11, .sl (a0.Funds.map rFund)), (12, iA (a0.Funds.length : Int)), (13, iA e34)]) (fun (e33 : Int) (e34 : Int) => (g1, .cells [iA a0.Number, iA a0.Time, .sl (a0.Accounts.map strR), .sl (a0.Funds.map rFund), .sl (a0.Escrows.map rEscrow)]) :: bs) (fun (e33 : Int) (e34 : Int) => oo26 = (e33, e34)) ?_ (fun e33 e34 hs91 => ?_)
  · (repeat refine gc (h := ?_))
    refine AW.block ?_
    refine AW.loopF2_0 hL27 (fun (s24 : Int) (s25 : Int) => [(0, .agg (rBook a0)), (1, sA a1), (2, .ptr g1 0), (4, iA 0), (5, iA s24), (11, .sl (a0.Funds.map rFund)), (12, iA (a0.Funds.length : Int)), (13, iA s25)]) (fun (s24 : Int) (s25 : Int) => (g1, .cells [iA a0.Number, iA a0.Time, .sl (a0.Accounts.map strR), .sl (a0.Funds.map rFund), .sl (a0.Escrows.map rEscrow)]) :: bs) (fun (s24 : Int) (s25 : Int) => True)  trivial (by repeat (first | exact Sub.nil | refine Sub.cons (k := ?_))) rfl (fun s24 s25 v29 hp30 hF => ?_)
    replace hF : l_bank_Total_b0 a0 a1 s24 s25 = some v29 := hF
    unfold l_bank_Total_b0 at hF
    (repeat refine gc (h := ?_))
    (repeat refine gc (h := ?_))
    refine AW.region ?_
    (repeat refine gl (h := ?_))
    (repeat refine gc (h := ?_))
    refine AW.cond (b := (decide (s25 < (a0.Funds.length : Int)))) rfl (fun hc36 => ?_) (fun hc36 => ?_)
    · replace hF := cnd_t hc36 hF
      have hc36p := of_decide_eq_true hc36
      (repeat refine gc (h := ?_))
      (repeat refine gc (h := ?_))
      refine AW.block ?_
      obtain ⟨x37, h38, h39, hF⟩ := idx_b hF
      (repeat refine gc (h := ?_))
      refine AW.region ?_
      (repeat refine gl (h := ?_))
      intro g40
      (repeat refine gl (h := ?_))
      (repeat refine gc (h := ?_))
      refine AW.region ?_
      (repeat refine gl (h := ?_))
      (repeat refine gc (h := ?_))
      refine AW.cond (b := (decide (x37.Asset = a1))) rfl (fun hc41 => ?_) (fun hc41 => ?_)
      · replace hF := cnd_t hc41 hF
        have hc41p := of_decide_eq_true hc41
        (repeat refine gc (h := ?_))
        obtain ⟨he42, hF⟩ := ens hF
        (repeat refine gc (h := ?_))
        refine AW.region ?_
        (repeat refine gl (h := ?_))
        obtain ⟨he43, hF⟩ := ens hF
        (repeat refine gc (h := ?_))
        refine AW.region ?_
        (repeat refine gl (h := ?_))
        (repeat refine gc (h := ?_))
        exact lpQ2_0.n (s24 + x37.Amount) (s25 + 1) (some_inj hF) trivial (by repeat (first | exact Sub.nil | refine Sub.cons (k := ?_))) (by repeat (first | exact List.Sublist.refl _ | apply List.Sublist.cons | apply Sl.gB))
      · replace hF := cnd_f hc41 hF
        have hc41p := of_decide_eq_false hc41
        (repeat refine gc (h := ?_))
        obtain ⟨he44, hF⟩ := ens hF
        (repeat refine gc (h := ?_))
        refine AW.region ?_
        (repeat refine gl (h := ?_))
        (repeat refine gc (h := ?_))
        exact lpQ2_0.n s24 (s25 + 1) (some_inj hF) trivial (by repeat (first | exact Sub.nil | refine Sub.cons (k := ?_))) (by repeat (first | exact List.Sublist.refl _ | apply List.Sublist.cons | apply Sl.gB))
    · replace hF := cnd_f hc36 hF
      have hc36p := of_decide_eq_false hc36
      (repeat refine gc (h := ?_))
      obtain rfl := some_inj hF
      (repeat refine gc (h := ?_))
      refine lpQ2_0.e _ rfl (fun ho32 => ?_)
      (repeat refine gc (h := ?_))
      exact jnQ2_0.n s24 s25 ho32 (by repeat (first | exact Sub.nil | refine Sub.cons (k := ?_))) (by repeat (first | exact List.Sublist.refl _ | apply List.Sublist.cons | apply Sl.gB))
  · obtain rfl := hs91.symm
    replace hF := hO28
    try dsimp only at hF
    (repeat refine gc (h := ?_))
    obtain ⟨x45, hc46, hF⟩ := bnd hF
    (repeat refine gc (h := ?_))
    refine AW.region ?_
    (repeat refine gl (h := ?_))
    refine AL.call (c_bank_held hc46) (h := ?_)
    (repeat refine gl (h := ?_))
    obtain ⟨oo71, hL72, hO73⟩ := bnd hF
    (repeat refine gc (h := ?_))
    refine AW.join2_0 (fun (e78 : Int) (e79 : Int) => [(0, .agg (rBook a0)), (1, sA a1), (2, .ptr g1 0), (4, iA 0), (5, iA e78), (11, .sl (a0.Funds.map rFund)), (12, iA (a0.Funds.length : Int)), (13, iA e34), (27, .sl (x45.map rArc)), (28, iA (x45.length : Int)), (29, iA e79)]) (fun (e78 : Int) (e79 : Int) => (g1, .cells [iA a0.Number, iA a0.Time, .sl (a0.Accounts.map strR), .sl (a0.Funds.map rFund), .sl (a0.Escrows.map rEscrow)]) :: bs) (fun (e78 : Int) (e79 : Int) => oo71 = (e78, e79)) ?_ (fun e78 e79 hs90 => ?_)
    · (repeat refine gc (h := ?_))
      refine AW.block ?_
      refine AW.loopF2_0 hL72 (fun (s69 : Int) (s70 : Int) => [(0, .agg (rBook a0)), (1, sA a1), (2, .ptr g1 0), (4, iA 0), (5, iA s69), (11, .sl (a0.Funds.map rFund)), (12, iA (a0.Funds.length : Int)), (13, iA e34), (27, .sl (x45.map rArc)), (28, iA (x45.length : Int)), (29, iA s70)]) (fun (s69 : Int) (s70 : Int) => (g1, .cells [iA a0.Number, iA a0.Time, .sl (a0.Accounts.map strR), .sl (a0.Funds.map rFund), .sl (a0.Escrows.map rEscrow)]) :: bs) (fun (s69 : Int) (s70 : Int) => True)  trivial (by repeat (first | exact Sub.nil | refine Sub.cons (k := ?_))) rfl (fun s69 s70 v74 hp75 hF => ?_)
      replace hF : l_bank_Total_b1 a1 x45 s69 s70 = some v74 := hF
      unfold l_bank_Total_b1 at hF
      (repeat refine gc (h := ?_))
      (repeat refine gc (h := ?_))
      refine AW.region ?_
      (repeat refine gl (h := ?_))
      (repeat refine gc (h := ?_))
      refine AW.cond (b := (decide (s70 < (x45.length : Int)))) rfl (fun hc81 => ?_) (fun hc81 => ?_)
      · replace hF := cnd_t hc81 hF
        have hc81p := of_decide_eq_true hc81
        (repeat refine gc (h := ?_))
        (repeat refine gc (h := ?_))
        refine AW.block ?_
        obtain ⟨x82, h83, h84, hF⟩ := idx_b hF
        (repeat refine gc (h := ?_))
        refine AW.region ?_
        (repeat refine gl (h := ?_))
        intro g85
        (repeat refine gl (h := ?_))
        (repeat refine gc (h := ?_))
        refine AW.region ?_
        (repeat refine gl (h := ?_))
        (repeat refine gc (h := ?_))
        refine AW.cond (b := (decide (x82.Asset = a1))) rfl (fun hc86 => ?_) (fun hc86 => ?_)
        · replace hF := cnd_t hc86 hF
          have hc86p := of_decide_eq_true hc86
          (repeat refine gc (h := ?_))
          obtain ⟨he87, hF⟩ := ens hF
          (repeat refine gc (h := ?_))
          refine AW.region ?_
          (repeat refine gl (h := ?_))
          obtain ⟨he88, hF⟩ := ens hF
          (repeat refine gc (h := ?_))
          refine AW.region ?_
          (repeat refine gl (h := ?_))
          (repeat refine gc (h := ?_))
          exact lpQ2_0.n (s69 + x82.Amount) (s70 + 1) (some_inj hF) trivial (by repeat (first | exact Sub.nil | refine Sub.cons (k := ?_))) (by repeat (first | exact List.Sublist.refl _ | apply List.Sublist.cons | apply Sl.gB))
        · replace hF := cnd_f hc86 hF
          have hc86p := of_decide_eq_false hc86
          (repeat refine gc (h := ?_))
          obtain ⟨he89, hF⟩ := ens hF
          (repeat refine gc (h := ?_))
          refine AW.region ?_
          (repeat refine gl (h := ?_))
          (repeat refine gc (h := ?_))
          exact lpQ2_0.n s69 (s70 + 1) (some_inj hF) trivial (by repeat (first | exact Sub.nil | refine Sub.cons (k := ?_))) (by repeat (first | exact List.Sublist.refl _ | apply List.Sublist.cons | apply Sl.gB))
      · replace hF := cnd_f hc81 hF
        have hc81p := of_decide_eq_false hc81
        (repeat refine gc (h := ?_))
        obtain rfl := some_inj hF
        (repeat refine gc (h := ?_))
        refine lpQ2_0.e _ rfl (fun ho77 => ?_)
        (repeat refine gc (h := ?_))
        exact jnQ2_0.n s69 s70 ho77 (by repeat (first | exact Sub.nil | refine Sub.cons (k := ?_))) (by repeat (first | exact List.Sublist.refl _ | apply List.Sublist.cons | apply Sl.gB))
    · obtain rfl := hs90.symm
      replace hF := hO73
      try dsimp only at hF
      (repeat refine gc (h := ?_))
      (repeat refine gc (h := ?_))
      refine AW.region ?_
      (repeat refine gl (h := ?_))
      obtain rfl := some_inj hF
      (repeat refine gc (h := ?_))
      exact EndQ.fin (bs' := bs) (h := ⟨(by first | exact Wk.refl _ | exact (by first | exact Wk.refl _ | exact Wk.nil | exact Wk.clip _ | exact Wk.tip _ _ _ | exact Wk.opt _ _ (by first | assumption | rfl) | exact Wk.gr _ _ | exact Wk.nil_gr | exact Wk.trans (Wk.opt _ _ (by first | assumption | rfl)) (by first | exact Wk.gr _ _ | exact Wk.nil | exact Wk.clip _ | exact Wk.tip _ _ _) | exact Wk.aggs (by repeat (first | exact Wks.nil | refine Wks.cons (by first | exact Wk.refl _ | exact Wk.nil | exact Wk.clip _ | exact Wk.tip _ _ _ | exact Wk.gr _ _ | exact Wk.nil_gr) ?_)) rfl) | exact Wk.tups (by repeat (first | exact Wks.nil | refine Wks.cons (by first | exact Wk.refl _ | exact Wk.nil | exact Wk.clip _ | exact Wk.tip _ _ _ | exact Wk.opt _ _ (by first | assumption | rfl) | exact Wk.gr _ _ | exact Wk.nil_gr | exact Wk.trans (Wk.opt _ _ (by first | assumption | rfl)) (by first | exact Wk.gr _ _ | exact Wk.nil | exact Wk.clip _ | exact Wk.tip _ _ _) | exact Wk.aggs (by repeat (first | exact Wks.nil | refine Wks.cons (by first | exact Wk.refl _ | exact Wk.nil | exact Wk.clip _ | exact Wk.tip _ _ _ | exact Wk.gr _ _ | exact Wk.nil_gr) ?_)) rfl) ?_))), rfl⟩) (hs := (by repeat (first | exact List.Sublist.refl _ | apply List.Sublist.cons | apply Sl.gB)))

noncomputable def l_bank_name (a0 : Txt) : Option (Bool) :=
some ((decide ((a0.size : Int) ≥ 1)) && (decide ((a0.size : Int) ≤ 16)))
theorem c_bank_name {a0 : Txt} {r : Bool} (hF : l_bank_name a0 = some r) : APure Try.prog 36 [sA a0] (bA r) := fun bs => by
  unfold l_bank_name at hF
  refine ACalls.wk ?_
  refine ACalls.in_ Try.func36 Try.ntmps36 (h := ?_)
  (repeat refine gc (h := ?_))
  refine AW.region ?_
  (repeat refine gl (h := ?_))
  (repeat refine gc (h := ?_))
  refine AW.region ?_
  (repeat refine gl (h := ?_))
  obtain rfl := some_inj hF
  (repeat refine gc (h := ?_))
  exact EndQ.fin (bs' := bs) (h := ⟨(by first | exact Wk.refl _ | exact (by first | exact Wk.refl _ | exact Wk.nil | exact Wk.clip _ | exact Wk.tip _ _ _ | exact Wk.opt _ _ (by first | assumption | rfl) | exact Wk.gr _ _ | exact Wk.nil_gr | exact Wk.trans (Wk.opt _ _ (by first | assumption | rfl)) (by first | exact Wk.gr _ _ | exact Wk.nil | exact Wk.clip _ | exact Wk.tip _ _ _) | exact Wk.aggs (by repeat (first | exact Wks.nil | refine Wks.cons (by first | exact Wk.refl _ | exact Wk.nil | exact Wk.clip _ | exact Wk.tip _ _ _ | exact Wk.gr _ _ | exact Wk.nil_gr) ?_)) rfl) | exact Wk.tups (by repeat (first | exact Wks.nil | refine Wks.cons (by first | exact Wk.refl _ | exact Wk.nil | exact Wk.clip _ | exact Wk.tip _ _ _ | exact Wk.opt _ _ (by first | assumption | rfl) | exact Wk.gr _ _ | exact Wk.nil_gr | exact Wk.trans (Wk.opt _ _ (by first | assumption | rfl)) (by first | exact Wk.gr _ _ | exact Wk.nil | exact Wk.clip _ | exact Wk.tip _ _ _) | exact Wk.aggs (by repeat (first | exact Wks.nil | refine Wks.cons (by first | exact Wk.refl _ | exact Wk.nil | exact Wk.clip _ | exact Wk.tip _ _ _ | exact Wk.gr _ _ | exact Wk.nil_gr) ?_)) rfl) ?_))), rfl⟩) (hs := (by repeat (first | exact List.Sublist.refl _ | apply List.Sublist.cons | apply Sl.gB)))

noncomputable def l_slices_Index_string_string_b0 (a0 : List Txt) (a1 : Txt) (s16 : Int) : Option ((Int) ⊕ (Int ⊕ Int)) :=
cond (decide (s16 < (a0.length : Int))) (
(idxO a0 s16).bind fun x27 =>
cond (decide (a1 = x27)) (
some (.inr (.inr s16))) (
(ensure (-9223372036854775808 ≤ s16 + 1 ∧ s16 + 1 ≤ 9223372036854775807)).bind fun _ =>
some (.inl (s16 + 1)))) (
some (.inr (.inl s16)))
noncomputable def l_slices_Index_string_string (a0 : List Txt) (a1 : Txt) : Option (Int) :=
Option.bind (loopF (τ := (Int ⊕ Int)) (fun s : Int => l_slices_Index_string_string_b0 a0 a1 s) 0) fun oo17 => (match oo17 with
| .inl e24 =>
some (-1)
| .inr r22 => some r22)
theorem c_slices_Index_string_string {a0 : List Txt} {a1 : Txt} {r : Int} (hF : l_slices_Index_string_string a0 a1 = some r) : APure Try.prog 55 [.sl (a0.map strR), sA a1] (iA r) := fun bs => by
  unfold l_slices_Index_string_string at hF
  refine ACalls.wk ?_
  refine ACalls.in_ Try.func55 Try.ntmps55 (h := ?_)
  (repeat refine gc (h := ?_))
  refine AW.region ?_
  (repeat refine gl (h := ?_))
  (repeat refine gc (h := ?_))
  refine AW.region ?_
  (repeat refine gl (h := ?_))
  obtain ⟨oo17, hL18, hO19⟩ := bnd hF
  (repeat refine gc (h := ?_))
  refine AW.join1_0 (fun (e24 : Int) => [(0, .sl (a0.map strR)), (1, sA a1), (4, iA 0), (7, iA (a0.length : Int)), (8, iA e24)]) (fun (e24 : Int) => bs) (fun (e24 : Int) => oo17 = .inl e24) ?_ (fun e24 hs32 => ?_)
  · (repeat refine gc (h := ?_))
    refine AW.block ?_
    refine AW.loopF1_0 hL18 (fun (s16 : Int) => [(0, .sl (a0.map strR)), (1, sA a1), (4, iA 0), (7, iA (a0.length : Int)), (8, iA s16)]) (fun (s16 : Int) => bs) (fun (s16 : Int) => True)  trivial (by repeat (first | exact Sub.nil | refine Sub.cons (k := ?_))) rfl (fun s16 v20 hp21 hF => ?_)
    replace hF : l_slices_Index_string_string_b0 a0 a1 s16 = some v20 := hF
    unfold l_slices_Index_string_string_b0 at hF
    (repeat refine gc (h := ?_))
    (repeat refine gc (h := ?_))
    refine AW.region ?_
    (repeat refine gl (h := ?_))
    (repeat refine gc (h := ?_))
    refine AW.cond (b := (decide (s16 < (a0.length : Int)))) rfl (fun hc26 => ?_) (fun hc26 => ?_)
    · replace hF := cnd_t hc26 hF
      have hc26p := of_decide_eq_true hc26
      (repeat refine gc (h := ?_))
      (repeat refine gc (h := ?_))
      refine AW.block ?_
      (repeat refine gc (h := ?_))
      refine AW.region ?_
      (repeat refine gl (h := ?_))
      obtain ⟨x27, h28, h29, hF⟩ := idx_b hF
      (repeat refine gc (h := ?_))
      refine AW.region ?_
      (repeat refine gl (h := ?_))
      (repeat refine gc (h := ?_))
      refine AW.cond (b := (decide (a1 = x27))) rfl (fun hc30 => ?_) (fun hc30 => ?_)
      · replace hF := cnd_t hc30 hF
        have hc30p := of_decide_eq_true hc30
        (repeat refine gc (h := ?_))
        (repeat refine gc (h := ?_))
        refine AW.region ?_
        (repeat refine gl (h := ?_))
        obtain rfl := some_inj hF
        (repeat refine gc (h := ?_))
        refine lpQ1_0.r _ rfl (fun ho23 => ?_)
        subst ho23
        replace hF := hO19
        (repeat refine gc (h := ?_))
        obtain rfl := some_inj hF
        (repeat refine gc (h := ?_))
        exact EndQ.fin (bs' := bs) (h := ⟨(by first | exact Wk.refl _ | exact (by first | exact Wk.refl _ | exact Wk.nil | exact Wk.clip _ | exact Wk.tip _ _ _ | exact Wk.opt _ _ (by first | assumption | rfl) | exact Wk.gr _ _ | exact Wk.nil_gr | exact Wk.trans (Wk.opt _ _ (by first | assumption | rfl)) (by first | exact Wk.gr _ _ | exact Wk.nil | exact Wk.clip _ | exact Wk.tip _ _ _) | exact Wk.aggs (by repeat (first | exact Wks.nil | refine Wks.cons (by first | exact Wk.refl _ | exact Wk.nil | exact Wk.clip _ | exact Wk.tip _ _ _ | exact Wk.gr _ _ | exact Wk.nil_gr) ?_)) rfl) | exact Wk.tups (by repeat (first | exact Wks.nil | refine Wks.cons (by first | exact Wk.refl _ | exact Wk.nil | exact Wk.clip _ | exact Wk.tip _ _ _ | exact Wk.opt _ _ (by first | assumption | rfl) | exact Wk.gr _ _ | exact Wk.nil_gr | exact Wk.trans (Wk.opt _ _ (by first | assumption | rfl)) (by first | exact Wk.gr _ _ | exact Wk.nil | exact Wk.clip _ | exact Wk.tip _ _ _) | exact Wk.aggs (by repeat (first | exact Wks.nil | refine Wks.cons (by first | exact Wk.refl _ | exact Wk.nil | exact Wk.clip _ | exact Wk.tip _ _ _ | exact Wk.gr _ _ | exact Wk.nil_gr) ?_)) rfl) ?_))), rfl⟩) (hs := (by repeat (first | exact List.Sublist.refl _ | apply List.Sublist.cons | apply Sl.gB)))
      · replace hF := cnd_f hc30 hF
        have hc30p := of_decide_eq_false hc30
        (repeat refine gc (h := ?_))
        obtain ⟨he31, hF⟩ := ens hF
        (repeat refine gc (h := ?_))
        refine AW.region ?_
        (repeat refine gl (h := ?_))
        (repeat refine gc (h := ?_))
        exact lpQ1_0.n (s16 + 1) (some_inj hF) trivial (by repeat (first | exact Sub.nil | refine Sub.cons (k := ?_))) (by repeat (first | exact List.Sublist.refl _ | apply List.Sublist.cons | apply Sl.gB))
    · replace hF := cnd_f hc26 hF
      have hc26p := of_decide_eq_false hc26
      (repeat refine gc (h := ?_))
      obtain rfl := some_inj hF
      (repeat refine gc (h := ?_))
      refine lpQ1_0.e _ rfl (fun ho23 => ?_)
      (repeat refine gc (h := ?_))
      exact jnQ1_0.n s16 ho23 (by repeat (first | exact Sub.nil | refine Sub.cons (k := ?_))) (by repeat (first | exact List.Sublist.refl _ | apply List.Sublist.cons | apply Sl.gB))
  · obtain rfl := hs32.symm
    replace hF := hO19
    try dsimp only at hF
    (repeat refine gc (h := ?_))
    (repeat refine gc (h := ?_))
    refine AW.region ?_
    (repeat refine gl (h := ?_))
    obtain rfl := some_inj hF
    (repeat refine gc (h := ?_))
    exact EndQ.fin (bs' := bs) (h := ⟨(by first | exact Wk.refl _ | exact (by first | exact Wk.refl _ | exact Wk.nil | exact Wk.clip _ | exact Wk.tip _ _ _ | exact Wk.opt _ _ (by first | assumption | rfl) | exact Wk.gr _ _ | exact Wk.nil_gr | exact Wk.trans (Wk.opt _ _ (by first | assumption | rfl)) (by first | exact Wk.gr _ _ | exact Wk.nil | exact Wk.clip _ | exact Wk.tip _ _ _) | exact Wk.aggs (by repeat (first | exact Wks.nil | refine Wks.cons (by first | exact Wk.refl _ | exact Wk.nil | exact Wk.clip _ | exact Wk.tip _ _ _ | exact Wk.gr _ _ | exact Wk.nil_gr) ?_)) rfl) | exact Wk.tups (by repeat (first | exact Wks.nil | refine Wks.cons (by first | exact Wk.refl _ | exact Wk.nil | exact Wk.clip _ | exact Wk.tip _ _ _ | exact Wk.opt _ _ (by first | assumption | rfl) | exact Wk.gr _ _ | exact Wk.nil_gr | exact Wk.trans (Wk.opt _ _ (by first | assumption | rfl)) (by first | exact Wk.gr _ _ | exact Wk.nil | exact Wk.clip _ | exact Wk.tip _ _ _) | exact Wk.aggs (by repeat (first | exact Wks.nil | refine Wks.cons (by first | exact Wk.refl _ | exact Wk.nil | exact Wk.clip _ | exact Wk.tip _ _ _ | exact Wk.gr _ _ | exact Wk.nil_gr) ?_)) rfl) ?_))), rfl⟩) (hs := (by repeat (first | exact List.Sublist.refl _ | apply List.Sublist.cons | apply Sl.gB)))

noncomputable def l_slices_Contains_string_string (a0 : List Txt) (a1 : Txt) : Option (Bool) :=
(l_slices_Index_string_string a0 a1).bind fun x1 =>
some (decide (x1 ≥ 0))
theorem c_slices_Contains_string_string {a0 : List Txt} {a1 : Txt} {r : Bool} (hF : l_slices_Contains_string_string a0 a1 = some r) : APure Try.prog 37 [.sl (a0.map strR), sA a1] (bA r) := fun bs => by
  unfold l_slices_Contains_string_string at hF
  refine ACalls.wk ?_
  refine ACalls.in_ Try.func37 Try.ntmps37 (h := ?_)
  (repeat refine gc (h := ?_))
  refine AW.region ?_
  (repeat refine gl (h := ?_))
  obtain ⟨x1, hc2, hF⟩ := bnd hF
  (repeat refine gc (h := ?_))
  refine AW.region ?_
  (repeat refine gl (h := ?_))
  refine AL.call (c_slices_Index_string_string hc2) (h := ?_)
  (repeat refine gl (h := ?_))
  obtain rfl := some_inj hF
  (repeat refine gc (h := ?_))
  exact EndQ.fin (bs' := bs) (h := ⟨(by first | exact Wk.refl _ | exact (by first | exact Wk.refl _ | exact Wk.nil | exact Wk.clip _ | exact Wk.tip _ _ _ | exact Wk.opt _ _ (by first | assumption | rfl) | exact Wk.gr _ _ | exact Wk.nil_gr | exact Wk.trans (Wk.opt _ _ (by first | assumption | rfl)) (by first | exact Wk.gr _ _ | exact Wk.nil | exact Wk.clip _ | exact Wk.tip _ _ _) | exact Wk.aggs (by repeat (first | exact Wks.nil | refine Wks.cons (by first | exact Wk.refl _ | exact Wk.nil | exact Wk.clip _ | exact Wk.tip _ _ _ | exact Wk.gr _ _ | exact Wk.nil_gr) ?_)) rfl) | exact Wk.tups (by repeat (first | exact Wks.nil | refine Wks.cons (by first | exact Wk.refl _ | exact Wk.nil | exact Wk.clip _ | exact Wk.tip _ _ _ | exact Wk.opt _ _ (by first | assumption | rfl) | exact Wk.gr _ _ | exact Wk.nil_gr | exact Wk.trans (Wk.opt _ _ (by first | assumption | rfl)) (by first | exact Wk.gr _ _ | exact Wk.nil | exact Wk.clip _ | exact Wk.tip _ _ _) | exact Wk.aggs (by repeat (first | exact Wks.nil | refine Wks.cons (by first | exact Wk.refl _ | exact Wk.nil | exact Wk.clip _ | exact Wk.tip _ _ _ | exact Wk.gr _ _ | exact Wk.nil_gr) ?_)) rfl) ?_))), rfl⟩) (hs := (by repeat (first | exact List.Sublist.refl _ | apply List.Sublist.cons | apply Sl.gB)))

noncomputable def l_bank_asks (a0 : SBook) (a1 : Txt) (a2 : Txt) (a3 : Int) : Option (Int) :=
(l_bank_name a2).bind fun x2 =>
cond (((!x2) || (decide (a3 < 1))) || (decide (a3 > 1125899906842624))) (
some 1) (
(l_slices_Contains_string_string a0.Accounts a1).bind fun x5 =>
cond (!x5) (
some 4) (
some 0))
theorem c_bank_asks {a0 : SBook} {a1 : Txt} {a2 : Txt} {a3 : Int} {r : Int} (hF : l_bank_asks a0 a1 a2 a3 = some r) : APure Try.prog 39 [.agg (rBook a0), sA a1, sA a2, iA a3] (iA r) := fun bs => by
  unfold l_bank_asks at hF
  refine ACalls.wk ?_
  refine ACalls.in_ Try.func39 Try.ntmps39 (h := ?_)
  (repeat refine gc (h := ?_))
  refine AW.region ?_
  (repeat refine gl (h := ?_))
  intro g1
  (repeat refine gl (h := ?_))
  (repeat refine gc (h := ?_))
  refine AW.block ?_
  obtain ⟨x2, hc3, hF⟩ := bnd hF
  (repeat refine gc (h := ?_))
  refine AW.region ?_
  (repeat refine gl (h := ?_))
  refine AL.call (c_bank_name hc3) (h := ?_)
  (repeat refine gl (h := ?_))
  (repeat refine gc (h := ?_))
  refine AW.cond (b := (((!x2) || (decide (a3 < 1))) || (decide (a3 > 1125899906842624)))) rfl (fun hc4 => ?_) (fun hc4 => ?_)
  · replace hF := cnd_t hc4 hF
    (repeat refine gc (h := ?_))
    (repeat refine gc (h := ?_))
    refine AW.region ?_
    (repeat refine gl (h := ?_))
    obtain rfl := some_inj hF
    (repeat refine gc (h := ?_))
    exact EndQ.fin (bs' := bs) (h := ⟨(by first | exact Wk.refl _ | exact (by first | exact Wk.refl _ | exact Wk.nil | exact Wk.clip _ | exact Wk.tip _ _ _ | exact Wk.opt _ _ (by first | assumption | rfl) | exact Wk.gr _ _ | exact Wk.nil_gr | exact Wk.trans (Wk.opt _ _ (by first | assumption | rfl)) (by first | exact Wk.gr _ _ | exact Wk.nil | exact Wk.clip _ | exact Wk.tip _ _ _) | exact Wk.aggs (by repeat (first | exact Wks.nil | refine Wks.cons (by first | exact Wk.refl _ | exact Wk.nil | exact Wk.clip _ | exact Wk.tip _ _ _ | exact Wk.gr _ _ | exact Wk.nil_gr) ?_)) rfl) | exact Wk.tups (by repeat (first | exact Wks.nil | refine Wks.cons (by first | exact Wk.refl _ | exact Wk.nil | exact Wk.clip _ | exact Wk.tip _ _ _ | exact Wk.opt _ _ (by first | assumption | rfl) | exact Wk.gr _ _ | exact Wk.nil_gr | exact Wk.trans (Wk.opt _ _ (by first | assumption | rfl)) (by first | exact Wk.gr _ _ | exact Wk.nil | exact Wk.clip _ | exact Wk.tip _ _ _) | exact Wk.aggs (by repeat (first | exact Wks.nil | refine Wks.cons (by first | exact Wk.refl _ | exact Wk.nil | exact Wk.clip _ | exact Wk.tip _ _ _ | exact Wk.gr _ _ | exact Wk.nil_gr) ?_)) rfl) ?_))), rfl⟩) (hs := (by repeat (first | exact List.Sublist.refl _ | apply List.Sublist.cons | apply Sl.gB)))
  · replace hF := cnd_f hc4 hF
    (repeat refine gc (h := ?_))
    obtain ⟨x5, hc6, hF⟩ := bnd hF
    (repeat refine gc (h := ?_))
    refine AW.region ?_
    (repeat refine gl (h := ?_))
    refine AL.call (c_slices_Contains_string_string hc6) (h := ?_)
    (repeat refine gl (h := ?_))
    (repeat refine gc (h := ?_))
    refine AW.cond (b := (!x5)) rfl (fun hc7 => ?_) (fun hc7 => ?_)
    · replace hF := cnd_t hc7 hF
      (repeat refine gc (h := ?_))
      (repeat refine gc (h := ?_))
      refine AW.region ?_
      (repeat refine gl (h := ?_))
      obtain rfl := some_inj hF
      (repeat refine gc (h := ?_))
      exact EndQ.fin (bs' := bs) (h := ⟨(by first | exact Wk.refl _ | exact (by first | exact Wk.refl _ | exact Wk.nil | exact Wk.clip _ | exact Wk.tip _ _ _ | exact Wk.opt _ _ (by first | assumption | rfl) | exact Wk.gr _ _ | exact Wk.nil_gr | exact Wk.trans (Wk.opt _ _ (by first | assumption | rfl)) (by first | exact Wk.gr _ _ | exact Wk.nil | exact Wk.clip _ | exact Wk.tip _ _ _) | exact Wk.aggs (by repeat (first | exact Wks.nil | refine Wks.cons (by first | exact Wk.refl _ | exact Wk.nil | exact Wk.clip _ | exact Wk.tip _ _ _ | exact Wk.gr _ _ | exact Wk.nil_gr) ?_)) rfl) | exact Wk.tups (by repeat (first | exact Wks.nil | refine Wks.cons (by first | exact Wk.refl _ | exact Wk.nil | exact Wk.clip _ | exact Wk.tip _ _ _ | exact Wk.opt _ _ (by first | assumption | rfl) | exact Wk.gr _ _ | exact Wk.nil_gr | exact Wk.trans (Wk.opt _ _ (by first | assumption | rfl)) (by first | exact Wk.gr _ _ | exact Wk.nil | exact Wk.clip _ | exact Wk.tip _ _ _) | exact Wk.aggs (by repeat (first | exact Wks.nil | refine Wks.cons (by first | exact Wk.refl _ | exact Wk.nil | exact Wk.clip _ | exact Wk.tip _ _ _ | exact Wk.gr _ _ | exact Wk.nil_gr) ?_)) rfl) ?_))), rfl⟩) (hs := (by repeat (first | exact List.Sublist.refl _ | apply List.Sublist.cons | apply Sl.gB)))
    · replace hF := cnd_f hc7 hF
      (repeat refine gc (h := ?_))
      (repeat refine gc (h := ?_))
      refine AW.region ?_
      (repeat refine gl (h := ?_))
      obtain rfl := some_inj hF
      (repeat refine gc (h := ?_))
      exact EndQ.fin (bs' := bs) (h := ⟨(by first | exact Wk.refl _ | exact (by first | exact Wk.refl _ | exact Wk.nil | exact Wk.clip _ | exact Wk.tip _ _ _ | exact Wk.opt _ _ (by first | assumption | rfl) | exact Wk.gr _ _ | exact Wk.nil_gr | exact Wk.trans (Wk.opt _ _ (by first | assumption | rfl)) (by first | exact Wk.gr _ _ | exact Wk.nil | exact Wk.clip _ | exact Wk.tip _ _ _) | exact Wk.aggs (by repeat (first | exact Wks.nil | refine Wks.cons (by first | exact Wk.refl _ | exact Wk.nil | exact Wk.clip _ | exact Wk.tip _ _ _ | exact Wk.gr _ _ | exact Wk.nil_gr) ?_)) rfl) | exact Wk.tups (by repeat (first | exact Wks.nil | refine Wks.cons (by first | exact Wk.refl _ | exact Wk.nil | exact Wk.clip _ | exact Wk.tip _ _ _ | exact Wk.opt _ _ (by first | assumption | rfl) | exact Wk.gr _ _ | exact Wk.nil_gr | exact Wk.trans (Wk.opt _ _ (by first | assumption | rfl)) (by first | exact Wk.gr _ _ | exact Wk.nil | exact Wk.clip _ | exact Wk.tip _ _ _) | exact Wk.aggs (by repeat (first | exact Wks.nil | refine Wks.cons (by first | exact Wk.refl _ | exact Wk.nil | exact Wk.clip _ | exact Wk.tip _ _ _ | exact Wk.gr _ _ | exact Wk.nil_gr) ?_)) rfl) ?_))), rfl⟩) (hs := (by repeat (first | exact List.Sublist.refl _ | apply List.Sublist.cons | apply Sl.gB)))

end Go.Proofs.Ytnkkfmnpkgjabaa.X
