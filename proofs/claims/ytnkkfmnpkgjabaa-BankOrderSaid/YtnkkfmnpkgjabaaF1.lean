/- Lifted code. Printed by a program of this repo (lift.py). -/
import Derived.Test.YtnkkfmnpkgjabaaLT
namespace Go.Proofs.Ytnkkfmnpkgjabaa.X
open Go.RowKit
set_option linter.unusedVariables false
set_option linter.unusedSimpArgs false
set_option maxRecDepth 10000
set_option maxHeartbeats 4000000
noncomputable def l_law0_Place (a0 : Int) (a1 : Int) : Option (Int) :=
(ensure (0 < a1)).bind fun _ =>
cond (decide ((a0.tmod a1) < 0)) (
(ensure (-9223372036854775808 ≤ (a0.tmod a1) + a1 ∧ (a0.tmod a1) + a1 ≤ 9223372036854775807)).bind fun _ =>
some ((a0.tmod a1) + a1)) (
some (a0.tmod a1))
theorem c_law0_Place {a0 : Int} {a1 : Int} {r : Int} (hF : l_law0_Place a0 a1 = some r) : APure Try.prog 10 [iA a0, iA a1] (iA r) := fun bs => by
  unfold l_law0_Place at hF
  refine ACalls.wk ?_
  refine ACalls.in_ Try.func10 Try.ntmps10 (h := ?_)
  (repeat refine gc (h := ?_))
  refine AW.region ?_
  (repeat refine gl (h := ?_))
  obtain ⟨he1, hF⟩ := ens hF
  (repeat refine gc (h := ?_))
  refine AW.region ?_
  (repeat refine gl (h := ?_))
  (repeat refine gc (h := ?_))
  refine AW.region ?_
  (repeat refine gl (h := ?_))
  (repeat refine gc (h := ?_))
  refine AW.cond (b := (decide ((a0.tmod a1) < 0))) rfl (fun hc2 => ?_) (fun hc2 => ?_)
  · replace hF := cnd_t hc2 hF
    have hc2p := of_decide_eq_true hc2
    (repeat refine gc (h := ?_))
    obtain ⟨he3, hF⟩ := ens hF
    (repeat refine gc (h := ?_))
    refine AW.region ?_
    (repeat refine gl (h := ?_))
    (repeat refine gc (h := ?_))
    refine AW.region ?_
    (repeat refine gl (h := ?_))
    obtain rfl := some_inj hF
    (repeat refine gc (h := ?_))
    exact EndQ.fin (bs' := bs) (h := ⟨(by first | exact Wk.refl _ | exact (by first | exact Wk.refl _ | exact Wk.nil | exact Wk.clip _ | exact Wk.tip _ _ _ | exact Wk.opt _ _ (by first | assumption | rfl) | exact Wk.gr _ _ | exact Wk.nil_gr | exact Wk.trans (Wk.opt _ _ (by first | assumption | rfl)) (by first | exact Wk.gr _ _ | exact Wk.nil | exact Wk.clip _ | exact Wk.tip _ _ _) | exact Wk.aggs (by repeat (first | exact Wks.nil | refine Wks.cons (by first | exact Wk.refl _ | exact Wk.nil | exact Wk.clip _ | exact Wk.tip _ _ _ | exact Wk.gr _ _ | exact Wk.nil_gr) ?_)) rfl) | exact Wk.tups (by repeat (first | exact Wks.nil | refine Wks.cons (by first | exact Wk.refl _ | exact Wk.nil | exact Wk.clip _ | exact Wk.tip _ _ _ | exact Wk.opt _ _ (by first | assumption | rfl) | exact Wk.gr _ _ | exact Wk.nil_gr | exact Wk.trans (Wk.opt _ _ (by first | assumption | rfl)) (by first | exact Wk.gr _ _ | exact Wk.nil | exact Wk.clip _ | exact Wk.tip _ _ _) | exact Wk.aggs (by repeat (first | exact Wks.nil | refine Wks.cons (by first | exact Wk.refl _ | exact Wk.nil | exact Wk.clip _ | exact Wk.tip _ _ _ | exact Wk.gr _ _ | exact Wk.nil_gr) ?_)) rfl) ?_))), rfl⟩) (hs := (by repeat (first | exact List.Sublist.refl _ | apply List.Sublist.cons | apply Sl.gB)))
  · replace hF := cnd_f hc2 hF
    have hc2p := of_decide_eq_false hc2
    (repeat refine gc (h := ?_))
    (repeat refine gc (h := ?_))
    refine AW.region ?_
    (repeat refine gl (h := ?_))
    obtain rfl := some_inj hF
    (repeat refine gc (h := ?_))
    exact EndQ.fin (bs' := bs) (h := ⟨(by first | exact Wk.refl _ | exact (by first | exact Wk.refl _ | exact Wk.nil | exact Wk.clip _ | exact Wk.tip _ _ _ | exact Wk.opt _ _ (by first | assumption | rfl) | exact Wk.gr _ _ | exact Wk.nil_gr | exact Wk.trans (Wk.opt _ _ (by first | assumption | rfl)) (by first | exact Wk.gr _ _ | exact Wk.nil | exact Wk.clip _ | exact Wk.tip _ _ _) | exact Wk.aggs (by repeat (first | exact Wks.nil | refine Wks.cons (by first | exact Wk.refl _ | exact Wk.nil | exact Wk.clip _ | exact Wk.tip _ _ _ | exact Wk.gr _ _ | exact Wk.nil_gr) ?_)) rfl) | exact Wk.tups (by repeat (first | exact Wks.nil | refine Wks.cons (by first | exact Wk.refl _ | exact Wk.nil | exact Wk.clip _ | exact Wk.tip _ _ _ | exact Wk.opt _ _ (by first | assumption | rfl) | exact Wk.gr _ _ | exact Wk.nil_gr | exact Wk.trans (Wk.opt _ _ (by first | assumption | rfl)) (by first | exact Wk.gr _ _ | exact Wk.nil | exact Wk.clip _ | exact Wk.tip _ _ _) | exact Wk.aggs (by repeat (first | exact Wks.nil | refine Wks.cons (by first | exact Wk.refl _ | exact Wk.nil | exact Wk.clip _ | exact Wk.tip _ _ _ | exact Wk.gr _ _ | exact Wk.nil_gr) ?_)) rfl) ?_))), rfl⟩) (hs := (by repeat (first | exact List.Sublist.refl _ | apply List.Sublist.cons | apply Sl.gB)))

noncomputable def l_ref17_Alike_b0 (a0 : List SEntry) (a1 : List SEntry) (s22 : Int) : Option ((Int) ⊕ Int) :=
(grd (((decide (s22 < (a0.length : Int))) && (decide (s22 < (a1.length : Int))))) (idxO a0 s22)).bind fun x31 =>
(grd (((decide (s22 < (a0.length : Int))) && (decide (s22 < (a1.length : Int))))) (idxO a1 s22)).bind fun x33 =>
(grd ((((decide (s22 < (a0.length : Int))) && (decide (s22 < (a1.length : Int)))) && (x31.Term == x33.Term))) (idxO a0 s22)).bind fun x35 =>
(grd ((((decide (s22 < (a0.length : Int))) && (decide (s22 < (a1.length : Int)))) && (x31.Term == x33.Term))) (idxO a1 s22)).bind fun x37 =>
cond ((((decide (s22 < (a0.length : Int))) && (decide (s22 < (a1.length : Int)))) && (x31.Term == x33.Term)) && (decide (x35.Cmd = x37.Cmd))) (
(ensure (-9223372036854775808 ≤ s22 + 1 ∧ s22 + 1 ≤ 9223372036854775807)).bind fun _ =>
some (.inl (s22 + 1))) (
some (.inr s22))
noncomputable def l_ref17_Alike (a0 : List SEntry) (a1 : List SEntry) : Option (Int) :=
Option.bind (loopF (τ := Int) (fun s : Int => l_ref17_Alike_b0 a0 a1 s) 0) fun oo23 => (match oo23 with
| e30 =>
some e30)
theorem c_ref17_Alike {a0 : List SEntry} {a1 : List SEntry} {r : Int} (hF : l_ref17_Alike a0 a1 = some r) : APure Try.prog 54 [.sl (a0.map rEntry), .sl (a1.map rEntry)] (iA r) := fun bs => by
  unfold l_ref17_Alike at hF
  refine ACalls.wk ?_
  refine ACalls.in_ Try.func54 Try.ntmps54 (h := ?_)
  (repeat refine gc (h := ?_))
  refine AW.region ?_
  (repeat refine gl (h := ?_))
  (repeat refine gc (h := ?_))
  refine AW.region ?_
  (repeat refine gl (h := ?_))
  obtain ⟨oo23, hL24, hO25⟩ := bnd hF
  (repeat refine gc (h := ?_))
  refine AW.join1_0 (fun (e30 : Int) => [(0, .sl (a0.map rEntry)), (1, .sl (a1.map rEntry)), (4, iA 0), (5, iA e30)]) (fun (e30 : Int) => bs) (fun (e30 : Int) => oo23 = e30) ?_ (fun e30 hs41 => ?_)
  · (repeat refine gc (h := ?_))
    refine AW.block ?_
    refine AW.loopF1_0 hL24 (fun (s22 : Int) => [(0, .sl (a0.map rEntry)), (1, .sl (a1.map rEntry)), (4, iA 0), (5, iA s22)]) (fun (s22 : Int) => bs) (fun (s22 : Int) => True)  trivial (by repeat (first | exact Sub.nil | refine Sub.cons (k := ?_))) rfl (fun s22 v26 hp27 hF => ?_)
    replace hF : l_ref17_Alike_b0 a0 a1 s22 = some v26 := hF
    unfold l_ref17_Alike_b0 at hF
    (repeat refine gc (h := ?_))
    obtain ⟨x31, h32, hF⟩ := grd_b hF
    obtain ⟨x33, h34, hF⟩ := grd_b hF
    obtain ⟨x35, h36, hF⟩ := grd_b hF
    obtain ⟨x37, h38, hF⟩ := grd_b hF
    (repeat refine gc (h := ?_))
    refine ADl.in_ (h := ?_)
    show ADl _ _ _ _ _ _ (_ :: _) _ _ _
    ((repeat (show ADl _ _ _ _ _ _ (_ :: _) _ _ _; refine goD (h := ?_))); try show ADl _ _ _ _ _ _ (_ :: _) _ _ _)
    try (first | refine ADl.fg (hq := fun _ hgb => OpQ.idx_map rfl (by first | exact Wk.refl _ | exact Wk.nil | exact Wk.clip _ | exact Wk.tip _ _ _ | exact Wk.opt _ _ (by first | assumption | rfl) | exact Wk.gr _ _ | exact Wk.nil_gr | exact Wk.trans (Wk.opt _ _ (by first | assumption | rfl)) (by first | exact Wk.gr _ _ | exact Wk.nil | exact Wk.clip _ | exact Wk.tip _ _ _) | exact Wk.aggs (by repeat (first | exact Wks.nil | refine Wks.cons (by first | exact Wk.refl _ | exact Wk.nil | exact Wk.clip _ | exact Wk.tip _ _ _ | exact Wk.gr _ _ | exact Wk.nil_gr) ?_)) rfl) (by first | exact Wk.refl _ | exact Wk.nil | exact Wk.clip _ | exact Wk.tip _ _ _ | exact Wk.opt _ _ (by first | assumption | rfl) | exact Wk.gr _ _ | exact Wk.nil_gr | exact Wk.trans (Wk.opt _ _ (by first | assumption | rfl)) (by first | exact Wk.gr _ _ | exact Wk.nil | exact Wk.clip _ | exact Wk.tip _ _ _) | exact Wk.aggs (by repeat (first | exact Wks.nil | refine Wks.cons (by first | exact Wk.refl _ | exact Wk.nil | exact Wk.clip _ | exact Wk.tip _ _ _ | exact Wk.gr _ _ | exact Wk.nil_gr) ?_)) rfl) (idxO_some (h32 hgb)).1 (idxO_some (h32 hgb)).2 (by rfl)) (h := ?_) | refine ADl.bg (hq := fun hgb => OpQ.idx_map rfl (by first | exact Wk.refl _ | exact Wk.nil | exact Wk.clip _ | exact Wk.tip _ _ _ | exact Wk.opt _ _ (by first | assumption | rfl) | exact Wk.gr _ _ | exact Wk.nil_gr | exact Wk.trans (Wk.opt _ _ (by first | assumption | rfl)) (by first | exact Wk.gr _ _ | exact Wk.nil | exact Wk.clip _ | exact Wk.tip _ _ _) | exact Wk.aggs (by repeat (first | exact Wks.nil | refine Wks.cons (by first | exact Wk.refl _ | exact Wk.nil | exact Wk.clip _ | exact Wk.tip _ _ _ | exact Wk.gr _ _ | exact Wk.nil_gr) ?_)) rfl) (by first | exact Wk.refl _ | exact Wk.nil | exact Wk.clip _ | exact Wk.tip _ _ _ | exact Wk.opt _ _ (by first | assumption | rfl) | exact Wk.gr _ _ | exact Wk.nil_gr | exact Wk.trans (Wk.opt _ _ (by first | assumption | rfl)) (by first | exact Wk.gr _ _ | exact Wk.nil | exact Wk.clip _ | exact Wk.tip _ _ _) | exact Wk.aggs (by repeat (first | exact Wks.nil | refine Wks.cons (by first | exact Wk.refl _ | exact Wk.nil | exact Wk.clip _ | exact Wk.tip _ _ _ | exact Wk.gr _ _ | exact Wk.nil_gr) ?_)) rfl) (idxO_some (h32 hgb)).1 (idxO_some (h32 hgb)).2 (by rfl)) (h := ?_))
    ((repeat (show ADl _ _ _ _ _ _ (_ :: _) _ _ _; refine goD (h := ?_))); try show ADl _ _ _ _ _ _ (_ :: _) _ _ _)
    try (first | refine ADl.fg (hq := fun _ hgb => OpQ.idx_map rfl (by first | exact Wk.refl _ | exact Wk.nil | exact Wk.clip _ | exact Wk.tip _ _ _ | exact Wk.opt _ _ (by first | assumption | rfl) | exact Wk.gr _ _ | exact Wk.nil_gr | exact Wk.trans (Wk.opt _ _ (by first | assumption | rfl)) (by first | exact Wk.gr _ _ | exact Wk.nil | exact Wk.clip _ | exact Wk.tip _ _ _) | exact Wk.aggs (by repeat (first | exact Wks.nil | refine Wks.cons (by first | exact Wk.refl _ | exact Wk.nil | exact Wk.clip _ | exact Wk.tip _ _ _ | exact Wk.gr _ _ | exact Wk.nil_gr) ?_)) rfl) (by first | exact Wk.refl _ | exact Wk.nil | exact Wk.clip _ | exact Wk.tip _ _ _ | exact Wk.opt _ _ (by first | assumption | rfl) | exact Wk.gr _ _ | exact Wk.nil_gr | exact Wk.trans (Wk.opt _ _ (by first | assumption | rfl)) (by first | exact Wk.gr _ _ | exact Wk.nil | exact Wk.clip _ | exact Wk.tip _ _ _) | exact Wk.aggs (by repeat (first | exact Wks.nil | refine Wks.cons (by first | exact Wk.refl _ | exact Wk.nil | exact Wk.clip _ | exact Wk.tip _ _ _ | exact Wk.gr _ _ | exact Wk.nil_gr) ?_)) rfl) (idxO_some (h34 hgb)).1 (idxO_some (h34 hgb)).2 (by rfl)) (h := ?_) | refine ADl.bg (hq := fun hgb => OpQ.idx_map rfl (by first | exact Wk.refl _ | exact Wk.nil | exact Wk.clip _ | exact Wk.tip _ _ _ | exact Wk.opt _ _ (by first | assumption | rfl) | exact Wk.gr _ _ | exact Wk.nil_gr | exact Wk.trans (Wk.opt _ _ (by first | assumption | rfl)) (by first | exact Wk.gr _ _ | exact Wk.nil | exact Wk.clip _ | exact Wk.tip _ _ _) | exact Wk.aggs (by repeat (first | exact Wks.nil | refine Wks.cons (by first | exact Wk.refl _ | exact Wk.nil | exact Wk.clip _ | exact Wk.tip _ _ _ | exact Wk.gr _ _ | exact Wk.nil_gr) ?_)) rfl) (by first | exact Wk.refl _ | exact Wk.nil | exact Wk.clip _ | exact Wk.tip _ _ _ | exact Wk.opt _ _ (by first | assumption | rfl) | exact Wk.gr _ _ | exact Wk.nil_gr | exact Wk.trans (Wk.opt _ _ (by first | assumption | rfl)) (by first | exact Wk.gr _ _ | exact Wk.nil | exact Wk.clip _ | exact Wk.tip _ _ _) | exact Wk.aggs (by repeat (first | exact Wks.nil | refine Wks.cons (by first | exact Wk.refl _ | exact Wk.nil | exact Wk.clip _ | exact Wk.tip _ _ _ | exact Wk.gr _ _ | exact Wk.nil_gr) ?_)) rfl) (idxO_some (h34 hgb)).1 (idxO_some (h34 hgb)).2 (by rfl)) (h := ?_))
    ((repeat (show ADl _ _ _ _ _ _ (_ :: _) _ _ _; refine goD (h := ?_))); try show ADl _ _ _ _ _ _ (_ :: _) _ _ _)
    try (first | refine ADl.fg (hq := fun _ hgb => OpQ.idx_map rfl (by first | exact Wk.refl _ | exact Wk.nil | exact Wk.clip _ | exact Wk.tip _ _ _ | exact Wk.opt _ _ (by first | assumption | rfl) | exact Wk.gr _ _ | exact Wk.nil_gr | exact Wk.trans (Wk.opt _ _ (by first | assumption | rfl)) (by first | exact Wk.gr _ _ | exact Wk.nil | exact Wk.clip _ | exact Wk.tip _ _ _) | exact Wk.aggs (by repeat (first | exact Wks.nil | refine Wks.cons (by first | exact Wk.refl _ | exact Wk.nil | exact Wk.clip _ | exact Wk.tip _ _ _ | exact Wk.gr _ _ | exact Wk.nil_gr) ?_)) rfl) (by first | exact Wk.refl _ | exact Wk.nil | exact Wk.clip _ | exact Wk.tip _ _ _ | exact Wk.opt _ _ (by first | assumption | rfl) | exact Wk.gr _ _ | exact Wk.nil_gr | exact Wk.trans (Wk.opt _ _ (by first | assumption | rfl)) (by first | exact Wk.gr _ _ | exact Wk.nil | exact Wk.clip _ | exact Wk.tip _ _ _) | exact Wk.aggs (by repeat (first | exact Wks.nil | refine Wks.cons (by first | exact Wk.refl _ | exact Wk.nil | exact Wk.clip _ | exact Wk.tip _ _ _ | exact Wk.gr _ _ | exact Wk.nil_gr) ?_)) rfl) (idxO_some (h36 hgb)).1 (idxO_some (h36 hgb)).2 (by rfl)) (h := ?_) | refine ADl.bg (hq := fun hgb => OpQ.idx_map rfl (by first | exact Wk.refl _ | exact Wk.nil | exact Wk.clip _ | exact Wk.tip _ _ _ | exact Wk.opt _ _ (by first | assumption | rfl) | exact Wk.gr _ _ | exact Wk.nil_gr | exact Wk.trans (Wk.opt _ _ (by first | assumption | rfl)) (by first | exact Wk.gr _ _ | exact Wk.nil | exact Wk.clip _ | exact Wk.tip _ _ _) | exact Wk.aggs (by repeat (first | exact Wks.nil | refine Wks.cons (by first | exact Wk.refl _ | exact Wk.nil | exact Wk.clip _ | exact Wk.tip _ _ _ | exact Wk.gr _ _ | exact Wk.nil_gr) ?_)) rfl) (by first | exact Wk.refl _ | exact Wk.nil | exact Wk.clip _ | exact Wk.tip _ _ _ | exact Wk.opt _ _ (by first | assumption | rfl) | exact Wk.gr _ _ | exact Wk.nil_gr | exact Wk.trans (Wk.opt _ _ (by first | assumption | rfl)) (by first | exact Wk.gr _ _ | exact Wk.nil | exact Wk.clip _ | exact Wk.tip _ _ _) | exact Wk.aggs (by repeat (first | exact Wks.nil | refine Wks.cons (by first | exact Wk.refl _ | exact Wk.nil | exact Wk.clip _ | exact Wk.tip _ _ _ | exact Wk.gr _ _ | exact Wk.nil_gr) ?_)) rfl) (idxO_some (h36 hgb)).1 (idxO_some (h36 hgb)).2 (by rfl)) (h := ?_))
    ((repeat (show ADl _ _ _ _ _ _ (_ :: _) _ _ _; refine goD (h := ?_))); try show ADl _ _ _ _ _ _ (_ :: _) _ _ _)
    try (first | refine ADl.fg (hq := fun _ hgb => OpQ.idx_map rfl (by first | exact Wk.refl _ | exact Wk.nil | exact Wk.clip _ | exact Wk.tip _ _ _ | exact Wk.opt _ _ (by first | assumption | rfl) | exact Wk.gr _ _ | exact Wk.nil_gr | exact Wk.trans (Wk.opt _ _ (by first | assumption | rfl)) (by first | exact Wk.gr _ _ | exact Wk.nil | exact Wk.clip _ | exact Wk.tip _ _ _) | exact Wk.aggs (by repeat (first | exact Wks.nil | refine Wks.cons (by first | exact Wk.refl _ | exact Wk.nil | exact Wk.clip _ | exact Wk.tip _ _ _ | exact Wk.gr _ _ | exact Wk.nil_gr) ?_)) rfl) (by first | exact Wk.refl _ | exact Wk.nil | exact Wk.clip _ | exact Wk.tip _ _ _ | exact Wk.opt _ _ (by first | assumption | rfl) | exact Wk.gr _ _ | exact Wk.nil_gr | exact Wk.trans (Wk.opt _ _ (by first | assumption | rfl)) (by first | exact Wk.gr _ _ | exact Wk.nil | exact Wk.clip _ | exact Wk.tip _ _ _) | exact Wk.aggs (by repeat (first | exact Wks.nil | refine Wks.cons (by first | exact Wk.refl _ | exact Wk.nil | exact Wk.clip _ | exact Wk.tip _ _ _ | exact Wk.gr _ _ | exact Wk.nil_gr) ?_)) rfl) (idxO_some (h38 hgb)).1 (idxO_some (h38 hgb)).2 (by rfl)) (h := ?_) | refine ADl.bg (hq := fun hgb => OpQ.idx_map rfl (by first | exact Wk.refl _ | exact Wk.nil | exact Wk.clip _ | exact Wk.tip _ _ _ | exact Wk.opt _ _ (by first | assumption | rfl) | exact Wk.gr _ _ | exact Wk.nil_gr | exact Wk.trans (Wk.opt _ _ (by first | assumption | rfl)) (by first | exact Wk.gr _ _ | exact Wk.nil | exact Wk.clip _ | exact Wk.tip _ _ _) | exact Wk.aggs (by repeat (first | exact Wks.nil | refine Wks.cons (by first | exact Wk.refl _ | exact Wk.nil | exact Wk.clip _ | exact Wk.tip _ _ _ | exact Wk.gr _ _ | exact Wk.nil_gr) ?_)) rfl) (by first | exact Wk.refl _ | exact Wk.nil | exact Wk.clip _ | exact Wk.tip _ _ _ | exact Wk.opt _ _ (by first | assumption | rfl) | exact Wk.gr _ _ | exact Wk.nil_gr | exact Wk.trans (Wk.opt _ _ (by first | assumption | rfl)) (by first | exact Wk.gr _ _ | exact Wk.nil | exact Wk.clip _ | exact Wk.tip _ _ _) | exact Wk.aggs (by repeat (first | exact Wks.nil | refine Wks.cons (by first | exact Wk.refl _ | exact Wk.nil | exact Wk.clip _ | exact Wk.tip _ _ _ | exact Wk.gr _ _ | exact Wk.nil_gr) ?_)) rfl) (idxO_some (h38 hgb)).1 (idxO_some (h38 hgb)).2 (by rfl)) (h := ?_))
    ((repeat (show ADl _ _ _ _ _ _ (_ :: _) _ _ _; refine goD (h := ?_))); try show ADl _ _ _ _ _ _ (_ :: _) _ _ _)
    (repeat refine goD (h := ?_))
    (repeat refine gc (h := ?_))
    refine AW.cond (b := ((((decide (s22 < (a0.length : Int))) && (decide (s22 < (a1.length : Int)))) && (x31.Term == x33.Term)) && (decide (x35.Cmd = x37.Cmd)))) rfl (fun hc39 => ?_) (fun hc39 => ?_)
    · replace hF := cnd_t hc39 hF
      (repeat refine gc (h := ?_))
      (repeat refine gc (h := ?_))
      refine AW.block ?_
      obtain ⟨he40, hF⟩ := ens hF
      (repeat refine gc (h := ?_))
      refine AW.region ?_
      (repeat refine gl (h := ?_))
      (repeat refine gc (h := ?_))
      exact lpQ1_0.n (s22 + 1) (some_inj hF) trivial (by repeat (first | exact Sub.nil | refine Sub.cons (k := ?_))) (by repeat (first | exact List.Sublist.refl _ | apply List.Sublist.cons | apply Sl.gB))
    · replace hF := cnd_f hc39 hF
      (repeat refine gc (h := ?_))
      obtain rfl := some_inj hF
      (repeat refine gc (h := ?_))
      refine lpQ1_0.e _ rfl (fun ho29 => ?_)
      (repeat refine gc (h := ?_))
      exact jnQ1_0.n s22 ho29 (by repeat (first | exact Sub.nil | refine Sub.cons (k := ?_))) (by repeat (first | exact List.Sublist.refl _ | apply List.Sublist.cons | apply Sl.gB))
  · obtain rfl := hs41.symm
    replace hF := hO25
    try dsimp only at hF
    (repeat refine gc (h := ?_))
    (repeat refine gc (h := ?_))
    refine AW.region ?_
    (repeat refine gl (h := ?_))
    obtain rfl := some_inj hF
    (repeat refine gc (h := ?_))
    exact EndQ.fin (bs' := bs) (h := ⟨(by first | exact Wk.refl _ | exact (by first | exact Wk.refl _ | exact Wk.nil | exact Wk.clip _ | exact Wk.tip _ _ _ | exact Wk.opt _ _ (by first | assumption | rfl) | exact Wk.gr _ _ | exact Wk.nil_gr | exact Wk.trans (Wk.opt _ _ (by first | assumption | rfl)) (by first | exact Wk.gr _ _ | exact Wk.nil | exact Wk.clip _ | exact Wk.tip _ _ _) | exact Wk.aggs (by repeat (first | exact Wks.nil | refine Wks.cons (by first | exact Wk.refl _ | exact Wk.nil | exact Wk.clip _ | exact Wk.tip _ _ _ | exact Wk.gr _ _ | exact Wk.nil_gr) ?_)) rfl) | exact Wk.tups (by repeat (first | exact Wks.nil | refine Wks.cons (by first | exact Wk.refl _ | exact Wk.nil | exact Wk.clip _ | exact Wk.tip _ _ _ | exact Wk.opt _ _ (by first | assumption | rfl) | exact Wk.gr _ _ | exact Wk.nil_gr | exact Wk.trans (Wk.opt _ _ (by first | assumption | rfl)) (by first | exact Wk.gr _ _ | exact Wk.nil | exact Wk.clip _ | exact Wk.tip _ _ _) | exact Wk.aggs (by repeat (first | exact Wks.nil | refine Wks.cons (by first | exact Wk.refl _ | exact Wk.nil | exact Wk.clip _ | exact Wk.tip _ _ _ | exact Wk.gr _ _ | exact Wk.nil_gr) ?_)) rfl) ?_))), rfl⟩) (hs := (by repeat (first | exact List.Sublist.refl _ | apply List.Sublist.cons | apply Sl.gB)))

noncomputable def l_ref17_SameLog (a0 : List SEntry) (a1 : List SEntry) : Option (Bool) :=
(grd (((a0.length : Int) == (a1.length : Int))) (l_ref17_Alike a0 a1)).bind fun x1 =>
some (((a0.length : Int) == (a1.length : Int)) && (x1 == (a0.length : Int)))
theorem c_ref17_SameLog {a0 : List SEntry} {a1 : List SEntry} {r : Bool} (hF : l_ref17_SameLog a0 a1 = some r) : APure Try.prog 35 [.sl (a0.map rEntry), .sl (a1.map rEntry)] (bA r) := fun bs => by
  unfold l_ref17_SameLog at hF
  refine ACalls.wk ?_
  refine ACalls.in_ Try.func35 Try.ntmps35 (h := ?_)
  (repeat refine gc (h := ?_))
  refine AW.region ?_
  (repeat refine gl (h := ?_))
  obtain ⟨x1, hc2, hF⟩ := grd_b hF
  (repeat refine gc (h := ?_))
  refine AW.region ?_
  (repeat refine gl (h := ?_))
  refine AL.gd (hq := fun hgb => OpQ.c (c_ref17_Alike (hc2 hgb))) (h := ?_)
  (repeat refine gl (h := ?_))
  obtain rfl := some_inj hF
  (repeat refine gc (h := ?_))
  exact EndQ.fin (bs' := bs) (h := ⟨(by first | exact Wk.refl _ | exact (by first | exact Wk.refl _ | exact Wk.nil | exact Wk.clip _ | exact Wk.tip _ _ _ | exact Wk.opt _ _ (by first | assumption | rfl) | exact Wk.gr _ _ | exact Wk.nil_gr | exact Wk.trans (Wk.opt _ _ (by first | assumption | rfl)) (by first | exact Wk.gr _ _ | exact Wk.nil | exact Wk.clip _ | exact Wk.tip _ _ _) | exact Wk.aggs (by repeat (first | exact Wks.nil | refine Wks.cons (by first | exact Wk.refl _ | exact Wk.nil | exact Wk.clip _ | exact Wk.tip _ _ _ | exact Wk.gr _ _ | exact Wk.nil_gr) ?_)) rfl) | exact Wk.tups (by repeat (first | exact Wks.nil | refine Wks.cons (by first | exact Wk.refl _ | exact Wk.nil | exact Wk.clip _ | exact Wk.tip _ _ _ | exact Wk.opt _ _ (by first | assumption | rfl) | exact Wk.gr _ _ | exact Wk.nil_gr | exact Wk.trans (Wk.opt _ _ (by first | assumption | rfl)) (by first | exact Wk.gr _ _ | exact Wk.nil | exact Wk.clip _ | exact Wk.tip _ _ _) | exact Wk.aggs (by repeat (first | exact Wks.nil | refine Wks.cons (by first | exact Wk.refl _ | exact Wk.nil | exact Wk.clip _ | exact Wk.tip _ _ _ | exact Wk.gr _ _ | exact Wk.nil_gr) ?_)) rfl) ?_))), rfl⟩) (hs := (by repeat (first | exact List.Sublist.refl _ | apply List.Sublist.cons | apply Sl.gB)))

noncomputable def l_ref4_SameTexts_b0 (a0 : List Txt) (a1 : List Txt) (s24 : Int) : Option ((Int) ⊕ (Int ⊕ Bool)) :=
cond (decide (s24 < (a0.length : Int))) (
(idxO a0 s24).bind fun x35 =>
(idxO a1 s24).bind fun x38 =>
cond (!decide (x35 = x38)) (
some (.inr (.inr false))) (
(ensure (-9223372036854775808 ≤ s24 + 1 ∧ s24 + 1 ≤ 9223372036854775807)).bind fun _ =>
some (.inl (s24 + 1)))) (
some (.inr (.inl s24)))
noncomputable def l_ref4_SameTexts (a0 : List Txt) (a1 : List Txt) : Option (Bool) :=
cond ((a0.length : Int) != (a1.length : Int)) (
some false) (
Option.bind (loopF (τ := (Int ⊕ Bool)) (fun s : Int => l_ref4_SameTexts_b0 a0 a1 s) 0) fun oo25 => (match oo25 with
| .inl e32 =>
some true
| .inr r30 => some r30))
theorem c_ref4_SameTexts {a0 : List Txt} {a1 : List Txt} {r : Bool} (hF : l_ref4_SameTexts a0 a1 = some r) : APure Try.prog 52 [.sl (a0.map strR), .sl (a1.map strR)] (bA r) := fun bs => by
  unfold l_ref4_SameTexts at hF
  refine ACalls.wk ?_
  refine ACalls.in_ Try.func52 Try.ntmps52 (h := ?_)
  (repeat refine gc (h := ?_))
  refine AW.region ?_
  (repeat refine gl (h := ?_))
  (repeat refine gc (h := ?_))
  refine AW.region ?_
  (repeat refine gl (h := ?_))
  (repeat refine gc (h := ?_))
  refine AW.cond (b := ((a0.length : Int) != (a1.length : Int))) rfl (fun hc2 => ?_) (fun hc2 => ?_)
  · replace hF := cnd_t hc2 hF
    (repeat refine gc (h := ?_))
    (repeat refine gc (h := ?_))
    refine AW.region ?_
    (repeat refine gl (h := ?_))
    obtain rfl := some_inj hF
    (repeat refine gc (h := ?_))
    exact EndQ.fin (bs' := bs) (h := ⟨(by first | exact Wk.refl _ | exact (by first | exact Wk.refl _ | exact Wk.nil | exact Wk.clip _ | exact Wk.tip _ _ _ | exact Wk.opt _ _ (by first | assumption | rfl) | exact Wk.gr _ _ | exact Wk.nil_gr | exact Wk.trans (Wk.opt _ _ (by first | assumption | rfl)) (by first | exact Wk.gr _ _ | exact Wk.nil | exact Wk.clip _ | exact Wk.tip _ _ _) | exact Wk.aggs (by repeat (first | exact Wks.nil | refine Wks.cons (by first | exact Wk.refl _ | exact Wk.nil | exact Wk.clip _ | exact Wk.tip _ _ _ | exact Wk.gr _ _ | exact Wk.nil_gr) ?_)) rfl) | exact Wk.tups (by repeat (first | exact Wks.nil | refine Wks.cons (by first | exact Wk.refl _ | exact Wk.nil | exact Wk.clip _ | exact Wk.tip _ _ _ | exact Wk.opt _ _ (by first | assumption | rfl) | exact Wk.gr _ _ | exact Wk.nil_gr | exact Wk.trans (Wk.opt _ _ (by first | assumption | rfl)) (by first | exact Wk.gr _ _ | exact Wk.nil | exact Wk.clip _ | exact Wk.tip _ _ _) | exact Wk.aggs (by repeat (first | exact Wks.nil | refine Wks.cons (by first | exact Wk.refl _ | exact Wk.nil | exact Wk.clip _ | exact Wk.tip _ _ _ | exact Wk.gr _ _ | exact Wk.nil_gr) ?_)) rfl) ?_))), rfl⟩) (hs := (by repeat (first | exact List.Sublist.refl _ | apply List.Sublist.cons | apply Sl.gB)))
  · replace hF := cnd_f hc2 hF
    (repeat refine gc (h := ?_))
    (repeat refine gc (h := ?_))
    refine AW.region ?_
    (repeat refine gl (h := ?_))
    obtain ⟨oo25, hL26, hO27⟩ := bnd hF
    (repeat refine gc (h := ?_))
    refine AW.join1_0 (fun (e32 : Int) => [(0, .sl (a0.map strR)), (1, .sl (a1.map strR)), (4, bA false), (5, iA e32)]) (fun (e32 : Int) => bs) (fun (e32 : Int) => oo25 = .inl e32) ?_ (fun e32 hs43 => ?_)
    · (repeat refine gc (h := ?_))
      refine AW.block ?_
      refine AW.loopF1_0 hL26 (fun (s24 : Int) => [(0, .sl (a0.map strR)), (1, .sl (a1.map strR)), (4, bA false), (5, iA s24)]) (fun (s24 : Int) => bs) (fun (s24 : Int) => True)  trivial (by repeat (first | exact Sub.nil | refine Sub.cons (k := ?_))) rfl (fun s24 v28 hp29 hF => ?_)
      replace hF : l_ref4_SameTexts_b0 a0 a1 s24 = some v28 := hF
      unfold l_ref4_SameTexts_b0 at hF
      (repeat refine gc (h := ?_))
      (repeat refine gc (h := ?_))
      refine AW.region ?_
      (repeat refine gl (h := ?_))
      (repeat refine gc (h := ?_))
      refine AW.cond (b := (decide (s24 < (a0.length : Int)))) rfl (fun hc34 => ?_) (fun hc34 => ?_)
      · replace hF := cnd_t hc34 hF
        have hc34p := of_decide_eq_true hc34
        (repeat refine gc (h := ?_))
        (repeat refine gc (h := ?_))
        refine AW.block ?_
        obtain ⟨x35, h36, h37, hF⟩ := idx_b hF
        obtain ⟨x38, h39, h40, hF⟩ := idx_b hF
        (repeat refine gc (h := ?_))
        (repeat refine goD (h := ?_))
        (repeat refine gc (h := ?_))
        refine AW.cond (b := (!decide (x35 = x38))) rfl (fun hc41 => ?_) (fun hc41 => ?_)
        · replace hF := cnd_t hc41 hF
          (repeat refine gc (h := ?_))
          (repeat refine gc (h := ?_))
          refine AW.region ?_
          (repeat refine gl (h := ?_))
          obtain rfl := some_inj hF
          (repeat refine gc (h := ?_))
          refine lpQ1_0.r _ rfl (fun ho31 => ?_)
          subst ho31
          replace hF := hO27
          (repeat refine gc (h := ?_))
          obtain rfl := some_inj hF
          (repeat refine gc (h := ?_))
          exact EndQ.fin (bs' := bs) (h := ⟨(by first | exact Wk.refl _ | exact (by first | exact Wk.refl _ | exact Wk.nil | exact Wk.clip _ | exact Wk.tip _ _ _ | exact Wk.opt _ _ (by first | assumption | rfl) | exact Wk.gr _ _ | exact Wk.nil_gr | exact Wk.trans (Wk.opt _ _ (by first | assumption | rfl)) (by first | exact Wk.gr _ _ | exact Wk.nil | exact Wk.clip _ | exact Wk.tip _ _ _) | exact Wk.aggs (by repeat (first | exact Wks.nil | refine Wks.cons (by first | exact Wk.refl _ | exact Wk.nil | exact Wk.clip _ | exact Wk.tip _ _ _ | exact Wk.gr _ _ | exact Wk.nil_gr) ?_)) rfl) | exact Wk.tups (by repeat (first | exact Wks.nil | refine Wks.cons (by first | exact Wk.refl _ | exact Wk.nil | exact Wk.clip _ | exact Wk.tip _ _ _ | exact Wk.opt _ _ (by first | assumption | rfl) | exact Wk.gr _ _ | exact Wk.nil_gr | exact Wk.trans (Wk.opt _ _ (by first | assumption | rfl)) (by first | exact Wk.gr _ _ | exact Wk.nil | exact Wk.clip _ | exact Wk.tip _ _ _) | exact Wk.aggs (by repeat (first | exact Wks.nil | refine Wks.cons (by first | exact Wk.refl _ | exact Wk.nil | exact Wk.clip _ | exact Wk.tip _ _ _ | exact Wk.gr _ _ | exact Wk.nil_gr) ?_)) rfl) ?_))), rfl⟩) (hs := (by repeat (first | exact List.Sublist.refl _ | apply List.Sublist.cons | apply Sl.gB)))
        · replace hF := cnd_f hc41 hF
          (repeat refine gc (h := ?_))
          obtain ⟨he42, hF⟩ := ens hF
          (repeat refine gc (h := ?_))
          refine AW.region ?_
          (repeat refine gl (h := ?_))
          (repeat refine gc (h := ?_))
          exact lpQ1_0.n (s24 + 1) (some_inj hF) trivial (by repeat (first | exact Sub.nil | refine Sub.cons (k := ?_))) (by repeat (first | exact List.Sublist.refl _ | apply List.Sublist.cons | apply Sl.gB))
      · replace hF := cnd_f hc34 hF
        have hc34p := of_decide_eq_false hc34
        (repeat refine gc (h := ?_))
        obtain rfl := some_inj hF
        (repeat refine gc (h := ?_))
        refine lpQ1_0.e _ rfl (fun ho31 => ?_)
        (repeat refine gc (h := ?_))
        exact jnQ1_0.n s24 ho31 (by repeat (first | exact Sub.nil | refine Sub.cons (k := ?_))) (by repeat (first | exact List.Sublist.refl _ | apply List.Sublist.cons | apply Sl.gB))
    · obtain rfl := hs43.symm
      replace hF := hO27
      try dsimp only at hF
      (repeat refine gc (h := ?_))
      (repeat refine gc (h := ?_))
      refine AW.region ?_
      (repeat refine gl (h := ?_))
      obtain rfl := some_inj hF
      (repeat refine gc (h := ?_))
      exact EndQ.fin (bs' := bs) (h := ⟨(by first | exact Wk.refl _ | exact (by first | exact Wk.refl _ | exact Wk.nil | exact Wk.clip _ | exact Wk.tip _ _ _ | exact Wk.opt _ _ (by first | assumption | rfl) | exact Wk.gr _ _ | exact Wk.nil_gr | exact Wk.trans (Wk.opt _ _ (by first | assumption | rfl)) (by first | exact Wk.gr _ _ | exact Wk.nil | exact Wk.clip _ | exact Wk.tip _ _ _) | exact Wk.aggs (by repeat (first | exact Wks.nil | refine Wks.cons (by first | exact Wk.refl _ | exact Wk.nil | exact Wk.clip _ | exact Wk.tip _ _ _ | exact Wk.gr _ _ | exact Wk.nil_gr) ?_)) rfl) | exact Wk.tups (by repeat (first | exact Wks.nil | refine Wks.cons (by first | exact Wk.refl _ | exact Wk.nil | exact Wk.clip _ | exact Wk.tip _ _ _ | exact Wk.opt _ _ (by first | assumption | rfl) | exact Wk.gr _ _ | exact Wk.nil_gr | exact Wk.trans (Wk.opt _ _ (by first | assumption | rfl)) (by first | exact Wk.gr _ _ | exact Wk.nil | exact Wk.clip _ | exact Wk.tip _ _ _) | exact Wk.aggs (by repeat (first | exact Wks.nil | refine Wks.cons (by first | exact Wk.refl _ | exact Wk.nil | exact Wk.clip _ | exact Wk.tip _ _ _ | exact Wk.gr _ _ | exact Wk.nil_gr) ?_)) rfl) ?_))), rfl⟩) (hs := (by repeat (first | exact List.Sublist.refl _ | apply List.Sublist.cons | apply Sl.gB)))

noncomputable def l_ref4_Name (a0 : Txt) : Option (Bool) :=
some ((decide ((a0.size : Int) ≥ 1)) && (decide ((a0.size : Int) ≤ 16)))
theorem c_ref4_Name {a0 : Txt} {r : Bool} (hF : l_ref4_Name a0 = some r) : APure Try.prog 63 [sA a0] (bA r) := fun bs => by
  unfold l_ref4_Name at hF
  refine ACalls.wk ?_
  refine ACalls.in_ Try.func63 Try.ntmps63 (h := ?_)
  (repeat refine gc (h := ?_))
  refine AW.region ?_
  (repeat refine gl (h := ?_))
  (repeat refine gc (h := ?_))
  refine AW.region ?_
  (repeat refine gl (h := ?_))
  obtain rfl := some_inj hF
  (repeat refine gc (h := ?_))
  exact EndQ.fin (bs' := bs) (h := ⟨(by first | exact Wk.refl _ | exact (by first | exact Wk.refl _ | exact Wk.nil | exact Wk.clip _ | exact Wk.tip _ _ _ | exact Wk.opt _ _ (by first | assumption | rfl) | exact Wk.gr _ _ | exact Wk.nil_gr | exact Wk.trans (Wk.opt _ _ (by first | assumption | rfl)) (by first | exact Wk.gr _ _ | exact Wk.nil | exact Wk.clip _ | exact Wk.tip _ _ _) | exact Wk.aggs (by repeat (first | exact Wks.nil | refine Wks.cons (by first | exact Wk.refl _ | exact Wk.nil | exact Wk.clip _ | exact Wk.tip _ _ _ | exact Wk.gr _ _ | exact Wk.nil_gr) ?_)) rfl) | exact Wk.tups (by repeat (first | exact Wks.nil | refine Wks.cons (by first | exact Wk.refl _ | exact Wk.nil | exact Wk.clip _ | exact Wk.tip _ _ _ | exact Wk.opt _ _ (by first | assumption | rfl) | exact Wk.gr _ _ | exact Wk.nil_gr | exact Wk.trans (Wk.opt _ _ (by first | assumption | rfl)) (by first | exact Wk.gr _ _ | exact Wk.nil | exact Wk.clip _ | exact Wk.tip _ _ _) | exact Wk.aggs (by repeat (first | exact Wks.nil | refine Wks.cons (by first | exact Wk.refl _ | exact Wk.nil | exact Wk.clip _ | exact Wk.tip _ _ _ | exact Wk.gr _ _ | exact Wk.nil_gr) ?_)) rfl) ?_))), rfl⟩) (hs := (by repeat (first | exact List.Sublist.refl _ | apply List.Sublist.cons | apply Sl.gB)))

noncomputable def l_ref4_SameInts_b0 (a0 : List Int) (a1 : List Int) (s24 : Int) : Option ((Int) ⊕ (Int ⊕ Bool)) :=
cond (decide (s24 < (a0.length : Int))) (
(idxO a0 s24).bind fun x35 =>
(idxO a1 s24).bind fun x38 =>
cond (x35 != x38) (
some (.inr (.inr false))) (
(ensure (-9223372036854775808 ≤ s24 + 1 ∧ s24 + 1 ≤ 9223372036854775807)).bind fun _ =>
some (.inl (s24 + 1)))) (
some (.inr (.inl s24)))
noncomputable def l_ref4_SameInts (a0 : List Int) (a1 : List Int) : Option (Bool) :=
cond ((a0.length : Int) != (a1.length : Int)) (
some false) (
Option.bind (loopF (τ := (Int ⊕ Bool)) (fun s : Int => l_ref4_SameInts_b0 a0 a1 s) 0) fun oo25 => (match oo25 with
| .inl e32 =>
some true
| .inr r30 => some r30))
theorem c_ref4_SameInts {a0 : List Int} {a1 : List Int} {r : Bool} (hF : l_ref4_SameInts a0 a1 = some r) : APure Try.prog 89 [.sl (a0.map intR), .sl (a1.map intR)] (bA r) := fun bs => by
  unfold l_ref4_SameInts at hF
  refine ACalls.wk ?_
  refine ACalls.in_ Try.func89 Try.ntmps89 (h := ?_)
  (repeat refine gc (h := ?_))
  refine AW.region ?_
  (repeat refine gl (h := ?_))
  (repeat refine gc (h := ?_))
  refine AW.region ?_
  (repeat refine gl (h := ?_))
  (repeat refine gc (h := ?_))
  refine AW.cond (b := ((a0.length : Int) != (a1.length : Int))) rfl (fun hc2 => ?_) (fun hc2 => ?_)
  · replace hF := cnd_t hc2 hF
    (repeat refine gc (h := ?_))
    (repeat refine gc (h := ?_))
    refine AW.region ?_
    (repeat refine gl (h := ?_))
    obtain rfl := some_inj hF
    (repeat refine gc (h := ?_))
    exact EndQ.fin (bs' := bs) (h := ⟨(by first | exact Wk.refl _ | exact (by first | exact Wk.refl _ | exact Wk.nil | exact Wk.clip _ | exact Wk.tip _ _ _ | exact Wk.opt _ _ (by first | assumption | rfl) | exact Wk.gr _ _ | exact Wk.nil_gr | exact Wk.trans (Wk.opt _ _ (by first | assumption | rfl)) (by first | exact Wk.gr _ _ | exact Wk.nil | exact Wk.clip _ | exact Wk.tip _ _ _) | exact Wk.aggs (by repeat (first | exact Wks.nil | refine Wks.cons (by first | exact Wk.refl _ | exact Wk.nil | exact Wk.clip _ | exact Wk.tip _ _ _ | exact Wk.gr _ _ | exact Wk.nil_gr) ?_)) rfl) | exact Wk.tups (by repeat (first | exact Wks.nil | refine Wks.cons (by first | exact Wk.refl _ | exact Wk.nil | exact Wk.clip _ | exact Wk.tip _ _ _ | exact Wk.opt _ _ (by first | assumption | rfl) | exact Wk.gr _ _ | exact Wk.nil_gr | exact Wk.trans (Wk.opt _ _ (by first | assumption | rfl)) (by first | exact Wk.gr _ _ | exact Wk.nil | exact Wk.clip _ | exact Wk.tip _ _ _) | exact Wk.aggs (by repeat (first | exact Wks.nil | refine Wks.cons (by first | exact Wk.refl _ | exact Wk.nil | exact Wk.clip _ | exact Wk.tip _ _ _ | exact Wk.gr _ _ | exact Wk.nil_gr) ?_)) rfl) ?_))), rfl⟩) (hs := (by repeat (first | exact List.Sublist.refl _ | apply List.Sublist.cons | apply Sl.gB)))
  · replace hF := cnd_f hc2 hF
    (repeat refine gc (h := ?_))
    (repeat refine gc (h := ?_))
    refine AW.region ?_
    (repeat refine gl (h := ?_))
    obtain ⟨oo25, hL26, hO27⟩ := bnd hF
    (repeat refine gc (h := ?_))
    refine AW.join1_0 (fun (e32 : Int) => [(0, .sl (a0.map intR)), (1, .sl (a1.map intR)), (4, bA false), (5, iA e32)]) (fun (e32 : Int) => bs) (fun (e32 : Int) => oo25 = .inl e32) ?_ (fun e32 hs43 => ?_)
    · (repeat refine gc (h := ?_))
      refine AW.block ?_
      refine AW.loopF1_0 hL26 (fun (s24 : Int) => [(0, .sl (a0.map intR)), (1, .sl (a1.map intR)), (4, bA false), (5, iA s24)]) (fun (s24 : Int) => bs) (fun (s24 : Int) => True)  trivial (by repeat (first | exact Sub.nil | refine Sub.cons (k := ?_))) rfl (fun s24 v28 hp29 hF => ?_)
      replace hF : l_ref4_SameInts_b0 a0 a1 s24 = some v28 := hF
      unfold l_ref4_SameInts_b0 at hF
      (repeat refine gc (h := ?_))
      (repeat refine gc (h := ?_))
      refine AW.region ?_
      (repeat refine gl (h := ?_))
      (repeat refine gc (h := ?_))
      refine AW.cond (b := (decide (s24 < (a0.length : Int)))) rfl (fun hc34 => ?_) (fun hc34 => ?_)
      · replace hF := cnd_t hc34 hF
        have hc34p := of_decide_eq_true hc34
        (repeat refine gc (h := ?_))
        (repeat refine gc (h := ?_))
        refine AW.block ?_
        obtain ⟨x35, h36, h37, hF⟩ := idx_b hF
        obtain ⟨x38, h39, h40, hF⟩ := idx_b hF
        (repeat refine gc (h := ?_))
        (repeat refine goD (h := ?_))
        (repeat refine gc (h := ?_))
        refine AW.cond (b := (x35 != x38)) rfl (fun hc41 => ?_) (fun hc41 => ?_)
        · replace hF := cnd_t hc41 hF
          (repeat refine gc (h := ?_))
          (repeat refine gc (h := ?_))
          refine AW.region ?_
          (repeat refine gl (h := ?_))
          obtain rfl := some_inj hF
          (repeat refine gc (h := ?_))
          refine lpQ1_0.r _ rfl (fun ho31 => ?_)
          subst ho31
          replace hF := hO27
          (repeat refine gc (h := ?_))
          obtain rfl := some_inj hF
          (repeat refine gc (h := ?_))
          exact EndQ.fin (bs' := bs) (h := ⟨(by first | exact Wk.refl _ | exact (by first | exact Wk.refl _ | exact Wk.nil | exact Wk.clip _ | exact Wk.tip _ _ _ | exact Wk.opt _ _ (by first | assumption | rfl) | exact Wk.gr _ _ | exact Wk.nil_gr | exact Wk.trans (Wk.opt _ _ (by first | assumption | rfl)) (by first | exact Wk.gr _ _ | exact Wk.nil | exact Wk.clip _ | exact Wk.tip _ _ _) | exact Wk.aggs (by repeat (first | exact Wks.nil | refine Wks.cons (by first | exact Wk.refl _ | exact Wk.nil | exact Wk.clip _ | exact Wk.tip _ _ _ | exact Wk.gr _ _ | exact Wk.nil_gr) ?_)) rfl) | exact Wk.tups (by repeat (first | exact Wks.nil | refine Wks.cons (by first | exact Wk.refl _ | exact Wk.nil | exact Wk.clip _ | exact Wk.tip _ _ _ | exact Wk.opt _ _ (by first | assumption | rfl) | exact Wk.gr _ _ | exact Wk.nil_gr | exact Wk.trans (Wk.opt _ _ (by first | assumption | rfl)) (by first | exact Wk.gr _ _ | exact Wk.nil | exact Wk.clip _ | exact Wk.tip _ _ _) | exact Wk.aggs (by repeat (first | exact Wks.nil | refine Wks.cons (by first | exact Wk.refl _ | exact Wk.nil | exact Wk.clip _ | exact Wk.tip _ _ _ | exact Wk.gr _ _ | exact Wk.nil_gr) ?_)) rfl) ?_))), rfl⟩) (hs := (by repeat (first | exact List.Sublist.refl _ | apply List.Sublist.cons | apply Sl.gB)))
        · replace hF := cnd_f hc41 hF
          (repeat refine gc (h := ?_))
          obtain ⟨he42, hF⟩ := ens hF
          (repeat refine gc (h := ?_))
          refine AW.region ?_
          (repeat refine gl (h := ?_))
          (repeat refine gc (h := ?_))
          exact lpQ1_0.n (s24 + 1) (some_inj hF) trivial (by repeat (first | exact Sub.nil | refine Sub.cons (k := ?_))) (by repeat (first | exact List.Sublist.refl _ | apply List.Sublist.cons | apply Sl.gB))
      · replace hF := cnd_f hc34 hF
        have hc34p := of_decide_eq_false hc34
        (repeat refine gc (h := ?_))
        obtain rfl := some_inj hF
        (repeat refine gc (h := ?_))
        refine lpQ1_0.e _ rfl (fun ho31 => ?_)
        (repeat refine gc (h := ?_))
        exact jnQ1_0.n s24 ho31 (by repeat (first | exact Sub.nil | refine Sub.cons (k := ?_))) (by repeat (first | exact List.Sublist.refl _ | apply List.Sublist.cons | apply Sl.gB))
    · obtain rfl := hs43.symm
      replace hF := hO27
      try dsimp only at hF
      (repeat refine gc (h := ?_))
      (repeat refine gc (h := ?_))
      refine AW.region ?_
      (repeat refine gl (h := ?_))
      obtain rfl := some_inj hF
      (repeat refine gc (h := ?_))
      exact EndQ.fin (bs' := bs) (h := ⟨(by first | exact Wk.refl _ | exact (by first | exact Wk.refl _ | exact Wk.nil | exact Wk.clip _ | exact Wk.tip _ _ _ | exact Wk.opt _ _ (by first | assumption | rfl) | exact Wk.gr _ _ | exact Wk.nil_gr | exact Wk.trans (Wk.opt _ _ (by first | assumption | rfl)) (by first | exact Wk.gr _ _ | exact Wk.nil | exact Wk.clip _ | exact Wk.tip _ _ _) | exact Wk.aggs (by repeat (first | exact Wks.nil | refine Wks.cons (by first | exact Wk.refl _ | exact Wk.nil | exact Wk.clip _ | exact Wk.tip _ _ _ | exact Wk.gr _ _ | exact Wk.nil_gr) ?_)) rfl) | exact Wk.tups (by repeat (first | exact Wks.nil | refine Wks.cons (by first | exact Wk.refl _ | exact Wk.nil | exact Wk.clip _ | exact Wk.tip _ _ _ | exact Wk.opt _ _ (by first | assumption | rfl) | exact Wk.gr _ _ | exact Wk.nil_gr | exact Wk.trans (Wk.opt _ _ (by first | assumption | rfl)) (by first | exact Wk.gr _ _ | exact Wk.nil | exact Wk.clip _ | exact Wk.tip _ _ _) | exact Wk.aggs (by repeat (first | exact Wks.nil | refine Wks.cons (by first | exact Wk.refl _ | exact Wk.nil | exact Wk.clip _ | exact Wk.tip _ _ _ | exact Wk.gr _ _ | exact Wk.nil_gr) ?_)) rfl) ?_))), rfl⟩) (hs := (by repeat (first | exact List.Sublist.refl _ | apply List.Sublist.cons | apply Sl.gB)))

noncomputable def l_ref4_Same_b0 (a0 : SSpec) (a1 : SSpec) (s34 : Int) : Option ((Int) ⊕ (Int ⊕ Bool)) :=
cond (decide (s34 < (a0.Parties.length : Int))) (
(idxO a0.Parties s34).bind fun x45 =>
(idxO a1.Parties s34).bind fun x48 =>
(grd ((!(!decide (x45.Account = x48.Account)))) (l_ref4_SameTexts x45.Keys x48.Keys)).bind fun x51 =>
cond ((!decide (x45.Account = x48.Account)) || (!x51)) (
some (.inr (.inr false))) (
(ensure (-9223372036854775808 ≤ s34 + 1 ∧ s34 + 1 ≤ 9223372036854775807)).bind fun _ =>
some (.inl (s34 + 1)))) (
some (.inr (.inl s34)))
noncomputable def l_ref4_Same_b1 (a0 : SSpec) (a1 : SSpec) (s80 : Int) : Option ((Int) ⊕ (Int ⊕ Bool)) :=
cond (decide (s80 < (a0.Arcs.length : Int))) (
(idxO a0.Arcs s80).bind fun x91 =>
(idxO a1.Arcs s80).bind fun x94 =>
cond (((((x91.From != x94.From) || (x91.To != x94.To)) || (x91.Ledger != x94.Ledger)) || (!decide (x91.Asset = x94.Asset))) || (x91.Amount != x94.Amount)) (
some (.inr (.inr false))) (
(ensure (-9223372036854775808 ≤ s80 + 1 ∧ s80 + 1 ≤ 9223372036854775807)).bind fun _ =>
some (.inl (s80 + 1)))) (
some (.inr (.inl s80)))
noncomputable def l_ref4_Same (a0 : SSpec) (a1 : SSpec) : Option (Bool) :=
(grd ((!(((!decide (a0.ID = a1.ID)) || ((a0.Parties.length : Int) != (a1.Parties.length : Int))) || ((a0.Arcs.length : Int) != (a1.Arcs.length : Int))))) (l_ref4_SameInts a0.Leaders a1.Leaders)).bind fun x3 =>
(grd ((!((((!decide (a0.ID = a1.ID)) || ((a0.Parties.length : Int) != (a1.Parties.length : Int))) || ((a0.Arcs.length : Int) != (a1.Arcs.length : Int))) || (!x3)))) (l_ref4_SameTexts a0.Locks a1.Locks)).bind fun x5 =>
cond (((((((!decide (a0.ID = a1.ID)) || ((a0.Parties.length : Int) != (a1.Parties.length : Int))) || ((a0.Arcs.length : Int) != (a1.Arcs.length : Int))) || (!x3)) || (!x5)) || (a0.Start != a1.Start)) || (a0.Delta != a1.Delta)) (
some false) (
Option.bind (loopF (τ := (Int ⊕ Bool)) (fun s : Int => l_ref4_Same_b0 a0 a1 s) 0) fun oo35 => (match oo35 with
| .inl e42 =>
Option.bind (loopF (τ := (Int ⊕ Bool)) (fun s : Int => l_ref4_Same_b1 a0 a1 s) 0) fun oo81 => (match oo81 with
| .inl e88 =>
some true
| .inr r86 => some r86)
| .inr r40 => some r40))
theorem c_ref4_Same {a0 : SSpec} {a1 : SSpec} {r : Bool} (hF : l_ref4_Same a0 a1 = some r) : APure Try.prog 76 [.agg (rSpec a0), .agg (rSpec a1)] (bA r) := fun bs => by
  unfold l_ref4_Same at hF
  refine ACalls.wk ?_
  refine ACalls.in_ Try.func76 Try.ntmps76 (h := ?_)
  (repeat refine gc (h := ?_))
  refine AW.region ?_
  (repeat refine gl (h := ?_))
  intro g1
  (repeat refine gl (h := ?_))
  intro g2
  (repeat refine gl (h := ?_))
  obtain ⟨x3, hc4, hF⟩ := grd_b hF
  obtain ⟨x5, hc6, hF⟩ := grd_b hF
  (repeat refine gc (h := ?_))
  refine AW.region ?_
  show AL _ _ _ _ (_ :: _) _ _
  ((repeat (show AL _ _ _ _ (_ :: _) _ _; refine gl (h := ?_))); try show AL _ _ _ _ (_ :: _) _ _)
  refine AL.gd (hq := fun hgb => OpQ.c (c_ref4_SameInts (hc4 hgb))) (h := ?_)
  ((repeat (show AL _ _ _ _ (_ :: _) _ _; refine gl (h := ?_))); try show AL _ _ _ _ (_ :: _) _ _)
  refine AL.gd (hq := fun hgb => OpQ.c (c_ref4_SameTexts (hc6 hgb))) (h := ?_)
  ((repeat (show AL _ _ _ _ (_ :: _) _ _; refine gl (h := ?_))); try show AL _ _ _ _ (_ :: _) _ _)
  (repeat refine gl (h := ?_))
  (repeat refine gc (h := ?_))
  refine AW.cond (b := (((((((!decide (a0.ID = a1.ID)) || ((a0.Parties.length : Int) != (a1.Parties.length : Int))) || ((a0.Arcs.length : Int) != (a1.Arcs.length : Int))) || (!x3)) || (!x5)) || (a0.Start != a1.Start)) || (a0.Delta != a1.Delta))) rfl (fun hc8 => ?_) (fun hc8 => ?_)
  · replace hF := cnd_t hc8 hF
    (repeat refine gc (h := ?_))
    (repeat refine gc (h := ?_))
    refine AW.region ?_
    (repeat refine gl (h := ?_))
    obtain rfl := some_inj hF
    (repeat refine gc (h := ?_))
    exact EndQ.fin (bs' := bs) (h := ⟨(by first | exact Wk.refl _ | exact (by first | exact Wk.refl _ | exact Wk.nil | exact Wk.clip _ | exact Wk.tip _ _ _ | exact Wk.opt _ _ (by first | assumption | rfl) | exact Wk.gr _ _ | exact Wk.nil_gr | exact Wk.trans (Wk.opt _ _ (by first | assumption | rfl)) (by first | exact Wk.gr _ _ | exact Wk.nil | exact Wk.clip _ | exact Wk.tip _ _ _) | exact Wk.aggs (by repeat (first | exact Wks.nil | refine Wks.cons (by first | exact Wk.refl _ | exact Wk.nil | exact Wk.clip _ | exact Wk.tip _ _ _ | exact Wk.gr _ _ | exact Wk.nil_gr) ?_)) rfl) | exact Wk.tups (by repeat (first | exact Wks.nil | refine Wks.cons (by first | exact Wk.refl _ | exact Wk.nil | exact Wk.clip _ | exact Wk.tip _ _ _ | exact Wk.opt _ _ (by first | assumption | rfl) | exact Wk.gr _ _ | exact Wk.nil_gr | exact Wk.trans (Wk.opt _ _ (by first | assumption | rfl)) (by first | exact Wk.gr _ _ | exact Wk.nil | exact Wk.clip _ | exact Wk.tip _ _ _) | exact Wk.aggs (by repeat (first | exact Wks.nil | refine Wks.cons (by first | exact Wk.refl _ | exact Wk.nil | exact Wk.clip _ | exact Wk.tip _ _ _ | exact Wk.gr _ _ | exact Wk.nil_gr) ?_)) rfl) ?_))), rfl⟩) (hs := (by repeat (first | exact List.Sublist.refl _ | apply List.Sublist.cons | apply Sl.gB)))
  · replace hF := cnd_f hc8 hF
    (repeat refine gc (h := ?_))
    (repeat refine gc (h := ?_))
    refine AW.region ?_
    (repeat refine gl (h := ?_))
    obtain ⟨oo35, hL36, hO37⟩ := bnd hF
    (repeat refine gc (h := ?_))
    refine AW.join1_0 (fun (e42 : Int) => [(0, .agg (rSpec a0)), (1, .agg (rSpec a1)), (2, .ptr g1 0), (3, .ptr g2 0), (4, bA false), (5, iA e42)]) (fun (e42 : Int) => (g2, .cells [sA a1.ID, .sl (a1.Parties.map rParty), .sl (a1.Arcs.map rArc), .sl (a1.Leaders.map intR), .sl (a1.Locks.map strR), iA a1.Start, iA a1.Delta]) :: (g1, .cells [sA a0.ID, .sl (a0.Parties.map rParty), .sl (a0.Arcs.map rArc), .sl (a0.Leaders.map intR), .sl (a0.Locks.map strR), iA a0.Start, iA a0.Delta]) :: bs) (fun (e42 : Int) => oo35 = .inl e42) ?_ (fun e42 hs102 => ?_)
    · (repeat refine gc (h := ?_))
      refine AW.block ?_
      refine AW.loopF1_0 hL36 (fun (s34 : Int) => [(0, .agg (rSpec a0)), (1, .agg (rSpec a1)), (2, .ptr g1 0), (3, .ptr g2 0), (4, bA false), (5, iA s34)]) (fun (s34 : Int) => (g2, .cells [sA a1.ID, .sl (a1.Parties.map rParty), .sl (a1.Arcs.map rArc), .sl (a1.Leaders.map intR), .sl (a1.Locks.map strR), iA a1.Start, iA a1.Delta]) :: (g1, .cells [sA a0.ID, .sl (a0.Parties.map rParty), .sl (a0.Arcs.map rArc), .sl (a0.Leaders.map intR), .sl (a0.Locks.map strR), iA a0.Start, iA a0.Delta]) :: bs) (fun (s34 : Int) => True)  trivial (by repeat (first | exact Sub.nil | refine Sub.cons (k := ?_))) rfl (fun s34 v38 hp39 hF => ?_)
      replace hF : l_ref4_Same_b0 a0 a1 s34 = some v38 := hF
      unfold l_ref4_Same_b0 at hF
      (repeat refine gc (h := ?_))
      (repeat refine gc (h := ?_))
      refine AW.region ?_
      (repeat refine gl (h := ?_))
      (repeat refine gc (h := ?_))
      refine AW.cond (b := (decide (s34 < (a0.Parties.length : Int)))) rfl (fun hc44 => ?_) (fun hc44 => ?_)
      · replace hF := cnd_t hc44 hF
        have hc44p := of_decide_eq_true hc44
        (repeat refine gc (h := ?_))
        (repeat refine gc (h := ?_))
        refine AW.block ?_
        obtain ⟨x45, h46, h47, hF⟩ := idx_b hF
        obtain ⟨x48, h49, h50, hF⟩ := idx_b hF
        obtain ⟨x51, hc52, hF⟩ := grd_b hF
        (repeat refine gc (h := ?_))
        refine ADl.in_ (h := ?_)
        show ADl _ _ _ _ _ _ (_ :: _) _ _ _
        ((repeat (show ADl _ _ _ _ _ _ (_ :: _) _ _ _; refine goD (h := ?_))); try show ADl _ _ _ _ _ _ (_ :: _) _ _ _)
        refine ADl.callg (fun hgb => c_ref4_SameTexts (hc52 hgb)) (h := ?_)
        ((repeat (show ADl _ _ _ _ _ _ (_ :: _) _ _ _; refine goD (h := ?_))); try show ADl _ _ _ _ _ _ (_ :: _) _ _ _)
        (repeat refine goD (h := ?_))
        (repeat refine gc (h := ?_))
        refine AW.cond (b := ((!decide (x45.Account = x48.Account)) || (!x51))) rfl (fun hc53 => ?_) (fun hc53 => ?_)
        · replace hF := cnd_t hc53 hF
          (repeat refine gc (h := ?_))
          (repeat refine gc (h := ?_))
          refine AW.region ?_
          (repeat refine gl (h := ?_))
          obtain rfl := some_inj hF
          (repeat refine gc (h := ?_))
          refine lpQ1_0.r _ rfl (fun ho41 => ?_)
          subst ho41
          replace hF := hO37
          (repeat refine gc (h := ?_))
          obtain rfl := some_inj hF
          (repeat refine gc (h := ?_))
          exact EndQ.fin (bs' := bs) (h := ⟨(by first | exact Wk.refl _ | exact (by first | exact Wk.refl _ | exact Wk.nil | exact Wk.clip _ | exact Wk.tip _ _ _ | exact Wk.opt _ _ (by first | assumption | rfl) | exact Wk.gr _ _ | exact Wk.nil_gr | exact Wk.trans (Wk.opt _ _ (by first | assumption | rfl)) (by first | exact Wk.gr _ _ | exact Wk.nil | exact Wk.clip _ | exact Wk.tip _ _ _) | exact Wk.aggs (by repeat (first | exact Wks.nil | refine Wks.cons (by first | exact Wk.refl _ | exact Wk.nil | exact Wk.clip _ | exact Wk.tip _ _ _ | exact Wk.gr _ _ | exact Wk.nil_gr) ?_)) rfl) | exact Wk.tups (by repeat (first | exact Wks.nil | refine Wks.cons (by first | exact Wk.refl _ | exact Wk.nil | exact Wk.clip _ | exact Wk.tip _ _ _ | exact Wk.opt _ _ (by first | assumption | rfl) | exact Wk.gr _ _ | exact Wk.nil_gr | exact Wk.trans (Wk.opt _ _ (by first | assumption | rfl)) (by first | exact Wk.gr _ _ | exact Wk.nil | exact Wk.clip _ | exact Wk.tip _ _ _) | exact Wk.aggs (by repeat (first | exact Wks.nil | refine Wks.cons (by first | exact Wk.refl _ | exact Wk.nil | exact Wk.clip _ | exact Wk.tip _ _ _ | exact Wk.gr _ _ | exact Wk.nil_gr) ?_)) rfl) ?_))), rfl⟩) (hs := (by repeat (first | exact List.Sublist.refl _ | apply List.Sublist.cons | apply Sl.gB)))
        · replace hF := cnd_f hc53 hF
          (repeat refine gc (h := ?_))
          obtain ⟨he54, hF⟩ := ens hF
          (repeat refine gc (h := ?_))
          refine AW.region ?_
          (repeat refine gl (h := ?_))
          (repeat refine gc (h := ?_))
          exact lpQ1_0.n (s34 + 1) (some_inj hF) trivial (by repeat (first | exact Sub.nil | refine Sub.cons (k := ?_))) (by repeat (first | exact List.Sublist.refl _ | apply List.Sublist.cons | apply Sl.gB))
      · replace hF := cnd_f hc44 hF
        have hc44p := of_decide_eq_false hc44
        (repeat refine gc (h := ?_))
        obtain rfl := some_inj hF
        (repeat refine gc (h := ?_))
        refine lpQ1_0.e _ rfl (fun ho41 => ?_)
        (repeat refine gc (h := ?_))
        exact jnQ1_0.n s34 ho41 (by repeat (first | exact Sub.nil | refine Sub.cons (k := ?_))) (by repeat (first | exact List.Sublist.refl _ | apply List.Sublist.cons | apply Sl.gB))
    · obtain rfl := hs102.symm
      replace hF := hO37
      try dsimp only at hF
      (repeat refine gc (h := ?_))
      (repeat refine gc (h := ?_))
      refine AW.region ?_
      (repeat refine gl (h := ?_))
      obtain ⟨oo81, hL82, hO83⟩ := bnd hF
      (repeat refine gc (h := ?_))
      refine AW.join1_0 (fun (e88 : Int) => [(0, .agg (rSpec a0)), (1, .agg (rSpec a1)), (2, .ptr g1 0), (3, .ptr g2 0), (4, bA false), (5, iA e42), (6, iA e88)]) (fun (e88 : Int) => (g2, .cells [sA a1.ID, .sl (a1.Parties.map rParty), .sl (a1.Arcs.map rArc), .sl (a1.Leaders.map intR), .sl (a1.Locks.map strR), iA a1.Start, iA a1.Delta]) :: (g1, .cells [sA a0.ID, .sl (a0.Parties.map rParty), .sl (a0.Arcs.map rArc), .sl (a0.Leaders.map intR), .sl (a0.Locks.map strR), iA a0.Start, iA a0.Delta]) :: bs) (fun (e88 : Int) => oo81 = .inl e88) ?_ (fun e88 hs101 => ?_)
      · (repeat refine gc (h := ?_))
        refine AW.block ?_
        refine AW.loopF1_0 hL82 (fun (s80 : Int) => [(0, .agg (rSpec a0)), (1, .agg (rSpec a1)), (2, .ptr g1 0), (3, .ptr g2 0), (4, bA false), (5, iA e42), (6, iA s80)]) (fun (s80 : Int) => (g2, .cells [sA a1.ID, .sl (a1.Parties.map rParty), .sl (a1.Arcs.map rArc), .sl (a1.Leaders.map intR), .sl (a1.Locks.map strR), iA a1.Start, iA a1.Delta]) :: (g1, .cells [sA a0.ID, .sl (a0.Parties.map rParty), .sl (a0.Arcs.map rArc), .sl (a0.Leaders.map intR), .sl (a0.Locks.map strR), iA a0.Start, iA a0.Delta]) :: bs) (fun (s80 : Int) => True)  trivial (by repeat (first | exact Sub.nil | refine Sub.cons (k := ?_))) rfl (fun s80 v84 hp85 hF => ?_)
        replace hF : l_ref4_Same_b1 a0 a1 s80 = some v84 := hF
        unfold l_ref4_Same_b1 at hF
        (repeat refine gc (h := ?_))
        (repeat refine gc (h := ?_))
        refine AW.region ?_
        (repeat refine gl (h := ?_))
        (repeat refine gc (h := ?_))
        refine AW.cond (b := (decide (s80 < (a0.Arcs.length : Int)))) rfl (fun hc90 => ?_) (fun hc90 => ?_)
        · replace hF := cnd_t hc90 hF
          have hc90p := of_decide_eq_true hc90
          (repeat refine gc (h := ?_))
          (repeat refine gc (h := ?_))
          refine AW.block ?_
          obtain ⟨x91, h92, h93, hF⟩ := idx_b hF
          obtain ⟨x94, h95, h96, hF⟩ := idx_b hF
          (repeat refine gc (h := ?_))
          refine AW.joinG2 (fun (g97 : Nat) (g98 : Nat) => [(0, .agg (rSpec a0)), (1, .agg (rSpec a1)), (2, .ptr g1 0), (3, .ptr g2 0), (4, bA false), (5, iA e42), (6, iA s80), (7, .ptr g97 0), (8, .ptr g98 0)]) (fun (g97 : Nat) (g98 : Nat) => (g98, .cells [iA x94.From, iA x94.To, iA x94.Ledger, sA x94.Asset, iA x94.Amount]) :: (g97, .cells [iA x91.From, iA x91.To, iA x91.Ledger, sA x91.Asset, iA x91.Amount]) :: (g2, .cells [sA a1.ID, .sl (a1.Parties.map rParty), .sl (a1.Arcs.map rArc), .sl (a1.Leaders.map intR), .sl (a1.Locks.map strR), iA a1.Start, iA a1.Delta]) :: (g1, .cells [sA a0.ID, .sl (a0.Parties.map rParty), .sl (a0.Arcs.map rArc), .sl (a0.Leaders.map intR), .sl (a0.Locks.map strR), iA a0.Start, iA a0.Delta]) :: bs) ?_ (fun g97 g98 => ?_)
          · (repeat refine gc (h := ?_))
            (repeat refine goD (h := ?_))
            refine ADl.alloc2 (h1 := fun g97 g98 => ?_) (h2 := fun g97 g98 => ?_)
            all_goals ((repeat refine goD (h := ?_)))
            all_goals (first | (refine jnG2.nn g97 g98 (by repeat (first | exact Sub.nil | refine Sub.cons (k := ?_))) ⟨_, .refl _, ?_⟩; (repeat (first | exact List.Sublist.refl _ | apply List.Sublist.cons | apply Sl.gB)); done) | (refine jnG2.nn g97 g98 (by repeat (first | exact Sub.nil | refine Sub.cons (k := ?_))) ⟨_, .swap _ _ _, ?_⟩; (repeat (first | exact List.Sublist.refl _ | apply List.Sublist.cons | apply Sl.gB)); done))
          · (repeat refine gc (h := ?_))
            refine AW.region ?_
            show AL _ _ _ _ (_ :: _) _ _
            ((repeat (show AL _ _ _ _ (_ :: _) _ _; refine gl (h := ?_))); try show AL _ _ _ _ (_ :: _) _ _)
            (repeat refine gl (h := ?_))
            (repeat refine gc (h := ?_))
            refine AW.cond (b := (((((x91.From != x94.From) || (x91.To != x94.To)) || (x91.Ledger != x94.Ledger)) || (!decide (x91.Asset = x94.Asset))) || (x91.Amount != x94.Amount))) rfl (fun hc99 => ?_) (fun hc99 => ?_)
            · replace hF := cnd_t hc99 hF
              (repeat refine gc (h := ?_))
              (repeat refine gc (h := ?_))
              refine AW.region ?_
              (repeat refine gl (h := ?_))
              obtain rfl := some_inj hF
              (repeat refine gc (h := ?_))
              refine lpQ1_0.r _ rfl (fun ho87 => ?_)
              subst ho87
              replace hF := hO83
              (repeat refine gc (h := ?_))
              obtain rfl := some_inj hF
              (repeat refine gc (h := ?_))
              exact EndQ.fin (bs' := bs) (h := ⟨(by first | exact Wk.refl _ | exact (by first | exact Wk.refl _ | exact Wk.nil | exact Wk.clip _ | exact Wk.tip _ _ _ | exact Wk.opt _ _ (by first | assumption | rfl) | exact Wk.gr _ _ | exact Wk.nil_gr | exact Wk.trans (Wk.opt _ _ (by first | assumption | rfl)) (by first | exact Wk.gr _ _ | exact Wk.nil | exact Wk.clip _ | exact Wk.tip _ _ _) | exact Wk.aggs (by repeat (first | exact Wks.nil | refine Wks.cons (by first | exact Wk.refl _ | exact Wk.nil | exact Wk.clip _ | exact Wk.tip _ _ _ | exact Wk.gr _ _ | exact Wk.nil_gr) ?_)) rfl) | exact Wk.tups (by repeat (first | exact Wks.nil | refine Wks.cons (by first | exact Wk.refl _ | exact Wk.nil | exact Wk.clip _ | exact Wk.tip _ _ _ | exact Wk.opt _ _ (by first | assumption | rfl) | exact Wk.gr _ _ | exact Wk.nil_gr | exact Wk.trans (Wk.opt _ _ (by first | assumption | rfl)) (by first | exact Wk.gr _ _ | exact Wk.nil | exact Wk.clip _ | exact Wk.tip _ _ _) | exact Wk.aggs (by repeat (first | exact Wks.nil | refine Wks.cons (by first | exact Wk.refl _ | exact Wk.nil | exact Wk.clip _ | exact Wk.tip _ _ _ | exact Wk.gr _ _ | exact Wk.nil_gr) ?_)) rfl) ?_))), rfl⟩) (hs := (by repeat (first | exact List.Sublist.refl _ | apply List.Sublist.cons | apply Sl.gB)))
            · replace hF := cnd_f hc99 hF
              (repeat refine gc (h := ?_))
              obtain ⟨he100, hF⟩ := ens hF
              (repeat refine gc (h := ?_))
              refine AW.region ?_
              (repeat refine gl (h := ?_))
              (repeat refine gc (h := ?_))
              exact lpQ1_0.n (s80 + 1) (some_inj hF) trivial (by repeat (first | exact Sub.nil | refine Sub.cons (k := ?_))) (by repeat (first | exact List.Sublist.refl _ | apply List.Sublist.cons | apply Sl.gB))
        · replace hF := cnd_f hc90 hF
          have hc90p := of_decide_eq_false hc90
          (repeat refine gc (h := ?_))
          obtain rfl := some_inj hF
          (repeat refine gc (h := ?_))
          refine lpQ1_0.e _ rfl (fun ho87 => ?_)
          (repeat refine gc (h := ?_))
          exact jnQ1_0.n s80 ho87 (by repeat (first | exact Sub.nil | refine Sub.cons (k := ?_))) (by repeat (first | exact List.Sublist.refl _ | apply List.Sublist.cons | apply Sl.gB))
      · obtain rfl := hs101.symm
        replace hF := hO83
        try dsimp only at hF
        (repeat refine gc (h := ?_))
        (repeat refine gc (h := ?_))
        refine AW.region ?_
        (repeat refine gl (h := ?_))
        obtain rfl := some_inj hF
        (repeat refine gc (h := ?_))
        exact EndQ.fin (bs' := bs) (h := ⟨(by first | exact Wk.refl _ | exact (by first | exact Wk.refl _ | exact Wk.nil | exact Wk.clip _ | exact Wk.tip _ _ _ | exact Wk.opt _ _ (by first | assumption | rfl) | exact Wk.gr _ _ | exact Wk.nil_gr | exact Wk.trans (Wk.opt _ _ (by first | assumption | rfl)) (by first | exact Wk.gr _ _ | exact Wk.nil | exact Wk.clip _ | exact Wk.tip _ _ _) | exact Wk.aggs (by repeat (first | exact Wks.nil | refine Wks.cons (by first | exact Wk.refl _ | exact Wk.nil | exact Wk.clip _ | exact Wk.tip _ _ _ | exact Wk.gr _ _ | exact Wk.nil_gr) ?_)) rfl) | exact Wk.tups (by repeat (first | exact Wks.nil | refine Wks.cons (by first | exact Wk.refl _ | exact Wk.nil | exact Wk.clip _ | exact Wk.tip _ _ _ | exact Wk.opt _ _ (by first | assumption | rfl) | exact Wk.gr _ _ | exact Wk.nil_gr | exact Wk.trans (Wk.opt _ _ (by first | assumption | rfl)) (by first | exact Wk.gr _ _ | exact Wk.nil | exact Wk.clip _ | exact Wk.tip _ _ _) | exact Wk.aggs (by repeat (first | exact Wks.nil | refine Wks.cons (by first | exact Wk.refl _ | exact Wk.nil | exact Wk.clip _ | exact Wk.tip _ _ _ | exact Wk.gr _ _ | exact Wk.nil_gr) ?_)) rfl) ?_))), rfl⟩) (hs := (by repeat (first | exact List.Sublist.refl _ | apply List.Sublist.cons | apply Sl.gB)))

end Go.Proofs.Ytnkkfmnpkgjabaa.X
