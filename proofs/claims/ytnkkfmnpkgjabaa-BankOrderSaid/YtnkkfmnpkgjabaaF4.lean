/- Lifted code. Printed by a program of this repo (lift.py). -/
import Derived.Test.YtnkkfmnpkgjabaaF3
import Derived.Test.YtnkkfmnpkgjabaaC7
import Derived.Test.YtnkkfmnpkgjabaaL4
namespace Go.Proofs.Ytnkkfmnpkgjabaa.X
open Go.RowKit
set_option linter.unusedVariables false
set_option linter.unusedSimpArgs false
set_option maxRecDepth 10000
set_option maxHeartbeats 4000000
noncomputable def l_slices_Clip_string_string (a0 : List Txt) : Option ((List Txt)) :=
some a0
theorem c_slices_Clip_string_string {a0 : List Txt} {r : (List Txt)} (hF : l_slices_Clip_string_string a0 = some r) : APure Try.prog 38 [.sl (a0.map strR)] (.clip (r.map strR)) := fun bs => by
  unfold l_slices_Clip_string_string at hF
  refine ACalls.wk ?_
  refine ACalls.in_ Try.func38 Try.ntmps38 (h := ?_)
  (repeat refine gc (h := ?_))
  refine AW.region ?_
  (repeat refine gl (h := ?_))
  (repeat refine gc (h := ?_))
  refine AW.region ?_
  (repeat refine gl (h := ?_))
  try refine AL.s (hq := OpQ.clip_map rfl (by first | exact Wk.refl _ | exact Wk.nil | exact Wk.clip _ | exact Wk.tip _ _ _ | exact Wk.opt _ _ (by first | assumption | rfl) | exact Wk.gr _ _ | exact Wk.nil_gr | exact Wk.trans (Wk.opt _ _ (by first | assumption | rfl)) (by first | exact Wk.gr _ _ | exact Wk.nil | exact Wk.clip _ | exact Wk.tip _ _ _) | exact Wk.aggs (by repeat (first | exact Wks.nil | refine Wks.cons (by first | exact Wk.refl _ | exact Wk.nil | exact Wk.clip _ | exact Wk.tip _ _ _ | exact Wk.gr _ _ | exact Wk.nil_gr) ?_)) rfl) (fun _ => rfl) (by first | exact Bnd.none _ | exact Bnd.some (by first | exact Wk.refl _ | exact Wk.nil | exact Wk.clip _ | exact Wk.tip _ _ _ | exact Wk.opt _ _ (by first | assumption | rfl) | exact Wk.gr _ _ | exact Wk.nil_gr | exact Wk.trans (Wk.opt _ _ (by first | assumption | rfl)) (by first | exact Wk.gr _ _ | exact Wk.nil | exact Wk.clip _ | exact Wk.tip _ _ _) | exact Wk.aggs (by repeat (first | exact Wks.nil | refine Wks.cons (by first | exact Wk.refl _ | exact Wk.nil | exact Wk.clip _ | exact Wk.tip _ _ _ | exact Wk.gr _ _ | exact Wk.nil_gr) ?_)) rfl) (by omega) (by first | ((simp only [Nat.zero_add, Nat.add_zero, Nat.reduceAdd, Nat.reduceMul, Int.toNat_natCast]) <;> rfl) | rfl)) (by intro c; exact (by first | exact Bnd.none _ | exact Bnd.some (by first | exact Wk.refl _ | exact Wk.nil | exact Wk.clip _ | exact Wk.tip _ _ _ | exact Wk.opt _ _ (by first | assumption | rfl) | exact Wk.gr _ _ | exact Wk.nil_gr | exact Wk.trans (Wk.opt _ _ (by first | assumption | rfl)) (by first | exact Wk.gr _ _ | exact Wk.nil | exact Wk.clip _ | exact Wk.tip _ _ _) | exact Wk.aggs (by repeat (first | exact Wks.nil | refine Wks.cons (by first | exact Wk.refl _ | exact Wk.nil | exact Wk.clip _ | exact Wk.tip _ _ _ | exact Wk.gr _ _ | exact Wk.nil_gr) ?_)) rfl) (by omega) (by first | ((simp only [Nat.zero_add, Nat.add_zero, Nat.reduceAdd, Nat.reduceMul, Int.toNat_natCast]) <;> rfl) | rfl)))) (h := ?_)
  (repeat refine gl (h := ?_))
  obtain rfl := some_inj hF
  (repeat refine gc (h := ?_))
  exact EndQ.fin (bs' := bs) (h := ⟨(by first | exact Wk.refl _ | exact (by first | exact Wk.refl _ | exact Wk.nil | exact Wk.clip _ | exact Wk.tip _ _ _ | exact Wk.opt _ _ (by first | assumption | rfl) | exact Wk.gr _ _ | exact Wk.nil_gr | exact Wk.trans (Wk.opt _ _ (by first | assumption | rfl)) (by first | exact Wk.gr _ _ | exact Wk.nil | exact Wk.clip _ | exact Wk.tip _ _ _) | exact Wk.aggs (by repeat (first | exact Wks.nil | refine Wks.cons (by first | exact Wk.refl _ | exact Wk.nil | exact Wk.clip _ | exact Wk.tip _ _ _ | exact Wk.gr _ _ | exact Wk.nil_gr) ?_)) rfl) | exact Wk.tups (by repeat (first | exact Wks.nil | refine Wks.cons (by first | exact Wk.refl _ | exact Wk.nil | exact Wk.clip _ | exact Wk.tip _ _ _ | exact Wk.opt _ _ (by first | assumption | rfl) | exact Wk.gr _ _ | exact Wk.nil_gr | exact Wk.trans (Wk.opt _ _ (by first | assumption | rfl)) (by first | exact Wk.gr _ _ | exact Wk.nil | exact Wk.clip _ | exact Wk.tip _ _ _) | exact Wk.aggs (by repeat (first | exact Wks.nil | refine Wks.cons (by first | exact Wk.refl _ | exact Wk.nil | exact Wk.clip _ | exact Wk.tip _ _ _ | exact Wk.gr _ _ | exact Wk.nil_gr) ?_)) rfl) ?_))), rfl⟩) (hs := (by repeat (first | exact List.Sublist.refl _ | apply List.Sublist.cons | apply Sl.gB)))

noncomputable def l_bank_Open (a0 : SBook) (a1 : Txt) : Option (SBook × Int) :=
(l_bank_name a1).bind fun x10 =>
cond (!x10) (
some (a0, 1)) (
(l_slices_Contains_string_string a0.Accounts a1).bind fun x18 =>
cond x18 (
some (a0, 5)) (
cond (decide ((a0.Accounts.length : Int) ≥ 12)) (
some (a0, 7)) (
(l_slices_Clip_string_string a0.Accounts).bind fun x25 =>
(ensure ((x25.length + [a1].length) * 16 ≤ 140737488355328)).bind fun _ =>
some (({ a0 with Accounts := (x25 ++ [a1]) } : SBook), 0))))
theorem c_bank_Open {a0 : SBook} {a1 : Txt} {r : SBook × Int} (hF : l_bank_Open a0 a1 = some r) : APure Try.prog 23 [.agg (rBook a0), sA a1] (.tup [.agg (rBook r.1), iA r.2]) := fun bs => by
  unfold l_bank_Open at hF
  refine ACalls.wk ?_
  refine ACalls.in_ Try.func23 Try.ntmps23 (h := ?_)
  (repeat refine gc (h := ?_))
  refine AW.region ?_
  (repeat refine gl (h := ?_))
  intro g1
  (repeat refine gl (h := ?_))
  intro g2
  (repeat refine gl (h := ?_))
  (repeat refine gc (h := ?_))
  refine AW.block ?_
  obtain ⟨x10, hc11, hF⟩ := bnd hF
  (repeat refine gc (h := ?_))
  refine AW.region ?_
  (repeat refine gl (h := ?_))
  refine AL.call (c_bank_name hc11) (h := ?_)
  (repeat refine gl (h := ?_))
  (repeat refine gc (h := ?_))
  refine AW.cond (b := (!x10)) rfl (fun hc17 => ?_) (fun hc17 => ?_)
  · replace hF := cnd_t hc17 hF
    (repeat refine gc (h := ?_))
    (repeat refine gc (h := ?_))
    refine AW.region ?_
    (repeat refine gl (h := ?_))
    obtain rfl := some_inj hF
    (repeat refine gc (h := ?_))
    exact EndQ.fin (bs' := bs) (h := ⟨(by first | exact Wk.refl _ | exact (by first | exact Wk.refl _ | exact Wk.nil | exact Wk.clip _ | exact Wk.tip _ _ _ | exact Wk.opt _ _ (by first | assumption | rfl) | exact Wk.gr _ _ | exact Wk.nil_gr | exact Wk.trans (Wk.opt _ _ (by first | assumption | rfl)) (by first | exact Wk.gr _ _ | exact Wk.nil | exact Wk.clip _ | exact Wk.tip _ _ _) | exact Wk.aggs (by repeat (first | exact Wks.nil | refine Wks.cons (by first | exact Wk.refl _ | exact Wk.nil | exact Wk.clip _ | exact Wk.tip _ _ _ | exact Wk.gr _ _ | exact Wk.nil_gr) ?_)) rfl) | exact Wk.tups (by repeat (first | exact Wks.nil | refine Wks.cons (by first | exact Wk.refl _ | exact Wk.nil | exact Wk.clip _ | exact Wk.tip _ _ _ | exact Wk.opt _ _ (by first | assumption | rfl) | exact Wk.gr _ _ | exact Wk.nil_gr | exact Wk.trans (Wk.opt _ _ (by first | assumption | rfl)) (by first | exact Wk.gr _ _ | exact Wk.nil | exact Wk.clip _ | exact Wk.tip _ _ _) | exact Wk.aggs (by repeat (first | exact Wks.nil | refine Wks.cons (by first | exact Wk.refl _ | exact Wk.nil | exact Wk.clip _ | exact Wk.tip _ _ _ | exact Wk.gr _ _ | exact Wk.nil_gr) ?_)) rfl) ?_))), rfl⟩) (hs := (by repeat (first | exact List.Sublist.refl _ | apply List.Sublist.cons | apply Sl.gB)))
  · replace hF := cnd_f hc17 hF
    (repeat refine gc (h := ?_))
    obtain ⟨x18, hc19, hF⟩ := bnd hF
    (repeat refine gc (h := ?_))
    refine AW.region ?_
    (repeat refine gl (h := ?_))
    refine AL.call (c_slices_Contains_string_string hc19) (h := ?_)
    (repeat refine gl (h := ?_))
    (repeat refine gc (h := ?_))
    refine AW.cond (b := x18) rfl (fun hc22 => ?_) (fun hc22 => ?_)
    · replace hF := cnd_t hc22 hF
      (repeat refine gc (h := ?_))
      (repeat refine gc (h := ?_))
      refine AW.region ?_
      (repeat refine gl (h := ?_))
      obtain rfl := some_inj hF
      (repeat refine gc (h := ?_))
      exact EndQ.fin (bs' := bs) (h := ⟨(by first | exact Wk.refl _ | exact (by first | exact Wk.refl _ | exact Wk.nil | exact Wk.clip _ | exact Wk.tip _ _ _ | exact Wk.opt _ _ (by first | assumption | rfl) | exact Wk.gr _ _ | exact Wk.nil_gr | exact Wk.trans (Wk.opt _ _ (by first | assumption | rfl)) (by first | exact Wk.gr _ _ | exact Wk.nil | exact Wk.clip _ | exact Wk.tip _ _ _) | exact Wk.aggs (by repeat (first | exact Wks.nil | refine Wks.cons (by first | exact Wk.refl _ | exact Wk.nil | exact Wk.clip _ | exact Wk.tip _ _ _ | exact Wk.gr _ _ | exact Wk.nil_gr) ?_)) rfl) | exact Wk.tups (by repeat (first | exact Wks.nil | refine Wks.cons (by first | exact Wk.refl _ | exact Wk.nil | exact Wk.clip _ | exact Wk.tip _ _ _ | exact Wk.opt _ _ (by first | assumption | rfl) | exact Wk.gr _ _ | exact Wk.nil_gr | exact Wk.trans (Wk.opt _ _ (by first | assumption | rfl)) (by first | exact Wk.gr _ _ | exact Wk.nil | exact Wk.clip _ | exact Wk.tip _ _ _) | exact Wk.aggs (by repeat (first | exact Wks.nil | refine Wks.cons (by first | exact Wk.refl _ | exact Wk.nil | exact Wk.clip _ | exact Wk.tip _ _ _ | exact Wk.gr _ _ | exact Wk.nil_gr) ?_)) rfl) ?_))), rfl⟩) (hs := (by repeat (first | exact List.Sublist.refl _ | apply List.Sublist.cons | apply Sl.gB)))
    · replace hF := cnd_f hc22 hF
      (repeat refine gc (h := ?_))
      (repeat refine gc (h := ?_))
      refine AW.region ?_
      (repeat refine gl (h := ?_))
      (repeat refine gc (h := ?_))
      refine AW.cond (b := (decide ((a0.Accounts.length : Int) ≥ 12))) rfl (fun hc24 => ?_) (fun hc24 => ?_)
      · replace hF := cnd_t hc24 hF
        have hc24p := of_decide_eq_true hc24
        (repeat refine gc (h := ?_))
        (repeat refine gc (h := ?_))
        refine AW.region ?_
        (repeat refine gl (h := ?_))
        obtain rfl := some_inj hF
        (repeat refine gc (h := ?_))
        exact EndQ.fin (bs' := bs) (h := ⟨(by first | exact Wk.refl _ | exact (by first | exact Wk.refl _ | exact Wk.nil | exact Wk.clip _ | exact Wk.tip _ _ _ | exact Wk.opt _ _ (by first | assumption | rfl) | exact Wk.gr _ _ | exact Wk.nil_gr | exact Wk.trans (Wk.opt _ _ (by first | assumption | rfl)) (by first | exact Wk.gr _ _ | exact Wk.nil | exact Wk.clip _ | exact Wk.tip _ _ _) | exact Wk.aggs (by repeat (first | exact Wks.nil | refine Wks.cons (by first | exact Wk.refl _ | exact Wk.nil | exact Wk.clip _ | exact Wk.tip _ _ _ | exact Wk.gr _ _ | exact Wk.nil_gr) ?_)) rfl) | exact Wk.tups (by repeat (first | exact Wks.nil | refine Wks.cons (by first | exact Wk.refl _ | exact Wk.nil | exact Wk.clip _ | exact Wk.tip _ _ _ | exact Wk.opt _ _ (by first | assumption | rfl) | exact Wk.gr _ _ | exact Wk.nil_gr | exact Wk.trans (Wk.opt _ _ (by first | assumption | rfl)) (by first | exact Wk.gr _ _ | exact Wk.nil | exact Wk.clip _ | exact Wk.tip _ _ _) | exact Wk.aggs (by repeat (first | exact Wks.nil | refine Wks.cons (by first | exact Wk.refl _ | exact Wk.nil | exact Wk.clip _ | exact Wk.tip _ _ _ | exact Wk.gr _ _ | exact Wk.nil_gr) ?_)) rfl) ?_))), rfl⟩) (hs := (by repeat (first | exact List.Sublist.refl _ | apply List.Sublist.cons | apply Sl.gB)))
      · replace hF := cnd_f hc24 hF
        have hc24p := of_decide_eq_false hc24
        (repeat refine gc (h := ?_))
        obtain ⟨x25, hc26, hF⟩ := bnd hF
        obtain ⟨he27, hF⟩ := ens hF
        (repeat refine gc (h := ?_))
        refine AW.region ?_
        (repeat refine gl (h := ?_))
        refine AL.call (c_slices_Clip_string_string hc26) (h := ?_)
        (repeat refine gl (h := ?_))
        try refine AL.s (hq := OpQ.app_full (R := strR) (l := x25) (l2 := [a1]) rfl rfl (.clip _) (by first | exact Wk.refl _ | exact Wk.nil | exact Wk.clip _ | exact Wk.tip _ _ _ | exact Wk.opt _ _ (by first | assumption | rfl) | exact Wk.gr _ _ | exact Wk.nil_gr | exact Wk.trans (Wk.opt _ _ (by first | assumption | rfl)) (by first | exact Wk.gr _ _ | exact Wk.nil | exact Wk.clip _ | exact Wk.tip _ _ _) | exact Wk.aggs (by repeat (first | exact Wks.nil | refine Wks.cons (by first | exact Wk.refl _ | exact Wk.nil | exact Wk.clip _ | exact Wk.tip _ _ _ | exact Wk.gr _ _ | exact Wk.nil_gr) ?_)) rfl) (fun _ => rfl) he27) (h := ?_)
        (repeat refine gl (h := ?_))
        (repeat refine gc (h := ?_))
        refine AW.region ?_
        (repeat refine gl (h := ?_))
        obtain rfl := some_inj hF
        (repeat refine gc (h := ?_))
        exact EndQ.fin (bs' := bs) (h := ⟨(by first | exact Wk.refl _ | exact (by first | exact Wk.refl _ | exact Wk.nil | exact Wk.clip _ | exact Wk.tip _ _ _ | exact Wk.opt _ _ (by first | assumption | rfl) | exact Wk.gr _ _ | exact Wk.nil_gr | exact Wk.trans (Wk.opt _ _ (by first | assumption | rfl)) (by first | exact Wk.gr _ _ | exact Wk.nil | exact Wk.clip _ | exact Wk.tip _ _ _) | exact Wk.aggs (by repeat (first | exact Wks.nil | refine Wks.cons (by first | exact Wk.refl _ | exact Wk.nil | exact Wk.clip _ | exact Wk.tip _ _ _ | exact Wk.gr _ _ | exact Wk.nil_gr) ?_)) rfl) | exact Wk.tups (by repeat (first | exact Wks.nil | refine Wks.cons (by first | exact Wk.refl _ | exact Wk.nil | exact Wk.clip _ | exact Wk.tip _ _ _ | exact Wk.opt _ _ (by first | assumption | rfl) | exact Wk.gr _ _ | exact Wk.nil_gr | exact Wk.trans (Wk.opt _ _ (by first | assumption | rfl)) (by first | exact Wk.gr _ _ | exact Wk.nil | exact Wk.clip _ | exact Wk.tip _ _ _) | exact Wk.aggs (by repeat (first | exact Wks.nil | refine Wks.cons (by first | exact Wk.refl _ | exact Wk.nil | exact Wk.clip _ | exact Wk.tip _ _ _ | exact Wk.gr _ _ | exact Wk.nil_gr) ?_)) rfl) ?_))), rfl⟩) (hs := (by repeat (first | exact List.Sublist.refl _ | apply List.Sublist.cons | apply Sl.gB)))

noncomputable def l_bank_Balance (a0 : SBook) (a1 : Txt) (a2 : Txt) : Option (Int × Int) :=
(l_bank_asks a0 a1 a2 1).bind fun x2 =>
cond (x2 != 0) (
some (0, x2)) (
(x_has a0 a1 a2).bind fun x6 =>
some (x6, 0))
theorem c_bank_Balance {a0 : SBook} {a1 : Txt} {a2 : Txt} {r : Int × Int} (hF : l_bank_Balance a0 a1 a2 = some r) : APure Try.prog 29 [.agg (rBook a0), sA a1, sA a2] (.tup [iA r.1, iA r.2]) := fun bs => by
  unfold l_bank_Balance at hF
  refine ACalls.wk ?_
  refine ACalls.in_ Try.func29 Try.ntmps29 (h := ?_)
  (repeat refine gc (h := ?_))
  refine AW.region ?_
  (repeat refine gl (h := ?_))
  intro g1
  (repeat refine gl (h := ?_))
  obtain ⟨x2, hc3, hF⟩ := bnd hF
  (repeat refine gc (h := ?_))
  refine AW.region ?_
  (repeat refine gl (h := ?_))
  refine AL.call (c_bank_asks hc3) (h := ?_)
  (repeat refine gl (h := ?_))
  (repeat refine gc (h := ?_))
  refine AW.region ?_
  (repeat refine gl (h := ?_))
  (repeat refine gc (h := ?_))
  refine AW.cond (b := (x2 != 0)) rfl (fun hc5 => ?_) (fun hc5 => ?_)
  · replace hF := cnd_t hc5 hF
    (repeat refine gc (h := ?_))
    (repeat refine gc (h := ?_))
    refine AW.region ?_
    (repeat refine gl (h := ?_))
    obtain rfl := some_inj hF
    (repeat refine gc (h := ?_))
    exact EndQ.fin (bs' := bs) (h := ⟨(by first | exact Wk.refl _ | exact (by first | exact Wk.refl _ | exact Wk.nil | exact Wk.clip _ | exact Wk.tip _ _ _ | exact Wk.opt _ _ (by first | assumption | rfl) | exact Wk.gr _ _ | exact Wk.nil_gr | exact Wk.trans (Wk.opt _ _ (by first | assumption | rfl)) (by first | exact Wk.gr _ _ | exact Wk.nil | exact Wk.clip _ | exact Wk.tip _ _ _) | exact Wk.aggs (by repeat (first | exact Wks.nil | refine Wks.cons (by first | exact Wk.refl _ | exact Wk.nil | exact Wk.clip _ | exact Wk.tip _ _ _ | exact Wk.gr _ _ | exact Wk.nil_gr) ?_)) rfl) | exact Wk.tups (by repeat (first | exact Wks.nil | refine Wks.cons (by first | exact Wk.refl _ | exact Wk.nil | exact Wk.clip _ | exact Wk.tip _ _ _ | exact Wk.opt _ _ (by first | assumption | rfl) | exact Wk.gr _ _ | exact Wk.nil_gr | exact Wk.trans (Wk.opt _ _ (by first | assumption | rfl)) (by first | exact Wk.gr _ _ | exact Wk.nil | exact Wk.clip _ | exact Wk.tip _ _ _) | exact Wk.aggs (by repeat (first | exact Wks.nil | refine Wks.cons (by first | exact Wk.refl _ | exact Wk.nil | exact Wk.clip _ | exact Wk.tip _ _ _ | exact Wk.gr _ _ | exact Wk.nil_gr) ?_)) rfl) ?_))), rfl⟩) (hs := (by repeat (first | exact List.Sublist.refl _ | apply List.Sublist.cons | apply Sl.gB)))
  · replace hF := cnd_f hc5 hF
    (repeat refine gc (h := ?_))
    obtain ⟨x6, hc7, hF⟩ := bnd hF
    (repeat refine gc (h := ?_))
    refine AW.region ?_
    (repeat refine gl (h := ?_))
    refine AL.call (c_x_has hc7) (h := ?_)
    (repeat refine gl (h := ?_))
    obtain rfl := some_inj hF
    (repeat refine gc (h := ?_))
    exact EndQ.fin (bs' := bs) (h := ⟨(by first | exact Wk.refl _ | exact (by first | exact Wk.refl _ | exact Wk.nil | exact Wk.clip _ | exact Wk.tip _ _ _ | exact Wk.opt _ _ (by first | assumption | rfl) | exact Wk.gr _ _ | exact Wk.nil_gr | exact Wk.trans (Wk.opt _ _ (by first | assumption | rfl)) (by first | exact Wk.gr _ _ | exact Wk.nil | exact Wk.clip _ | exact Wk.tip _ _ _) | exact Wk.aggs (by repeat (first | exact Wks.nil | refine Wks.cons (by first | exact Wk.refl _ | exact Wk.nil | exact Wk.clip _ | exact Wk.tip _ _ _ | exact Wk.gr _ _ | exact Wk.nil_gr) ?_)) rfl) | exact Wk.tups (by repeat (first | exact Wks.nil | refine Wks.cons (by first | exact Wk.refl _ | exact Wk.nil | exact Wk.clip _ | exact Wk.tip _ _ _ | exact Wk.opt _ _ (by first | assumption | rfl) | exact Wk.gr _ _ | exact Wk.nil_gr | exact Wk.trans (Wk.opt _ _ (by first | assumption | rfl)) (by first | exact Wk.gr _ _ | exact Wk.nil | exact Wk.clip _ | exact Wk.tip _ _ _) | exact Wk.aggs (by repeat (first | exact Wks.nil | refine Wks.cons (by first | exact Wk.refl _ | exact Wk.nil | exact Wk.clip _ | exact Wk.tip _ _ _ | exact Wk.gr _ _ | exact Wk.nil_gr) ?_)) rfl) ?_))), rfl⟩) (hs := (by repeat (first | exact List.Sublist.refl _ | apply List.Sublist.cons | apply Sl.gB)))

noncomputable def l_bank_Take (a0 : SBook) (a1 : Txt) (a2 : Txt) (a3 : Int) : Option (SBook × Int) :=
(l_bank_asks a0 a1 a2 a3).bind fun x3 =>
cond (x3 != 0) (
some (a0, x3)) (
(x_has a0 a1 a2).bind fun x14 =>
cond (decide (x14 < a3)) (
some (a0, 6)) (
(ensure (-9223372036854775808 ≤ -a3 ∧ -a3 ≤ 9223372036854775807)).bind fun _ =>
(x_put a0 a1 a2 (-a3)).bind fun x19 =>
some (x19, 0)))
theorem c_bank_Take {a0 : SBook} {a1 : Txt} {a2 : Txt} {a3 : Int} {r : SBook × Int} (hF : l_bank_Take a0 a1 a2 a3 = some r) : APure Try.prog 30 [.agg (rBook a0), sA a1, sA a2, iA a3] (.tup [.agg (rBook r.1), iA r.2]) := fun bs => by
  unfold l_bank_Take at hF
  refine ACalls.wk ?_
  refine ACalls.in_ Try.func30 Try.ntmps30 (h := ?_)
  (repeat refine gc (h := ?_))
  refine AW.region ?_
  (repeat refine gl (h := ?_))
  intro g1
  (repeat refine gl (h := ?_))
  intro g2
  (repeat refine gl (h := ?_))
  obtain ⟨x3, hc4, hF⟩ := bnd hF
  (repeat refine gc (h := ?_))
  refine AW.region ?_
  (repeat refine gl (h := ?_))
  refine AL.call (c_bank_asks hc4) (h := ?_)
  (repeat refine gl (h := ?_))
  (repeat refine gc (h := ?_))
  refine AW.block ?_
  (repeat refine gc (h := ?_))
  refine AW.region ?_
  (repeat refine gl (h := ?_))
  (repeat refine gc (h := ?_))
  refine AW.cond (b := (x3 != 0)) rfl (fun hc13 => ?_) (fun hc13 => ?_)
  · replace hF := cnd_t hc13 hF
    (repeat refine gc (h := ?_))
    (repeat refine gc (h := ?_))
    refine AW.region ?_
    (repeat refine gl (h := ?_))
    obtain rfl := some_inj hF
    (repeat refine gc (h := ?_))
    exact EndQ.fin (bs' := bs) (h := ⟨(by first | exact Wk.refl _ | exact (by first | exact Wk.refl _ | exact Wk.nil | exact Wk.clip _ | exact Wk.tip _ _ _ | exact Wk.opt _ _ (by first | assumption | rfl) | exact Wk.gr _ _ | exact Wk.nil_gr | exact Wk.trans (Wk.opt _ _ (by first | assumption | rfl)) (by first | exact Wk.gr _ _ | exact Wk.nil | exact Wk.clip _ | exact Wk.tip _ _ _) | exact Wk.aggs (by repeat (first | exact Wks.nil | refine Wks.cons (by first | exact Wk.refl _ | exact Wk.nil | exact Wk.clip _ | exact Wk.tip _ _ _ | exact Wk.gr _ _ | exact Wk.nil_gr) ?_)) rfl) | exact Wk.tups (by repeat (first | exact Wks.nil | refine Wks.cons (by first | exact Wk.refl _ | exact Wk.nil | exact Wk.clip _ | exact Wk.tip _ _ _ | exact Wk.opt _ _ (by first | assumption | rfl) | exact Wk.gr _ _ | exact Wk.nil_gr | exact Wk.trans (Wk.opt _ _ (by first | assumption | rfl)) (by first | exact Wk.gr _ _ | exact Wk.nil | exact Wk.clip _ | exact Wk.tip _ _ _) | exact Wk.aggs (by repeat (first | exact Wks.nil | refine Wks.cons (by first | exact Wk.refl _ | exact Wk.nil | exact Wk.clip _ | exact Wk.tip _ _ _ | exact Wk.gr _ _ | exact Wk.nil_gr) ?_)) rfl) ?_))), rfl⟩) (hs := (by repeat (first | exact List.Sublist.refl _ | apply List.Sublist.cons | apply Sl.gB)))
  · replace hF := cnd_f hc13 hF
    (repeat refine gc (h := ?_))
    obtain ⟨x14, hc15, hF⟩ := bnd hF
    (repeat refine gc (h := ?_))
    refine AW.region ?_
    (repeat refine gl (h := ?_))
    refine AL.call (c_x_has hc15) (h := ?_)
    (repeat refine gl (h := ?_))
    (repeat refine gc (h := ?_))
    refine AW.cond (b := (decide (x14 < a3))) rfl (fun hc17 => ?_) (fun hc17 => ?_)
    · replace hF := cnd_t hc17 hF
      have hc17p := of_decide_eq_true hc17
      (repeat refine gc (h := ?_))
      (repeat refine gc (h := ?_))
      refine AW.region ?_
      (repeat refine gl (h := ?_))
      obtain rfl := some_inj hF
      (repeat refine gc (h := ?_))
      exact EndQ.fin (bs' := bs) (h := ⟨(by first | exact Wk.refl _ | exact (by first | exact Wk.refl _ | exact Wk.nil | exact Wk.clip _ | exact Wk.tip _ _ _ | exact Wk.opt _ _ (by first | assumption | rfl) | exact Wk.gr _ _ | exact Wk.nil_gr | exact Wk.trans (Wk.opt _ _ (by first | assumption | rfl)) (by first | exact Wk.gr _ _ | exact Wk.nil | exact Wk.clip _ | exact Wk.tip _ _ _) | exact Wk.aggs (by repeat (first | exact Wks.nil | refine Wks.cons (by first | exact Wk.refl _ | exact Wk.nil | exact Wk.clip _ | exact Wk.tip _ _ _ | exact Wk.gr _ _ | exact Wk.nil_gr) ?_)) rfl) | exact Wk.tups (by repeat (first | exact Wks.nil | refine Wks.cons (by first | exact Wk.refl _ | exact Wk.nil | exact Wk.clip _ | exact Wk.tip _ _ _ | exact Wk.opt _ _ (by first | assumption | rfl) | exact Wk.gr _ _ | exact Wk.nil_gr | exact Wk.trans (Wk.opt _ _ (by first | assumption | rfl)) (by first | exact Wk.gr _ _ | exact Wk.nil | exact Wk.clip _ | exact Wk.tip _ _ _) | exact Wk.aggs (by repeat (first | exact Wks.nil | refine Wks.cons (by first | exact Wk.refl _ | exact Wk.nil | exact Wk.clip _ | exact Wk.tip _ _ _ | exact Wk.gr _ _ | exact Wk.nil_gr) ?_)) rfl) ?_))), rfl⟩) (hs := (by repeat (first | exact List.Sublist.refl _ | apply List.Sublist.cons | apply Sl.gB)))
    · replace hF := cnd_f hc17 hF
      have hc17p := of_decide_eq_false hc17
      (repeat refine gc (h := ?_))
      obtain ⟨he18, hF⟩ := ens hF
      obtain ⟨x19, hc20, hF⟩ := bnd hF
      (repeat refine gc (h := ?_))
      refine AW.region ?_
      (repeat refine gl (h := ?_))
      refine AL.call (c_x_put hc20) (h := ?_)
      (repeat refine gl (h := ?_))
      obtain rfl := some_inj hF
      (repeat refine gc (h := ?_))
      exact EndQ.fin (bs' := bs) (h := ⟨(by first | exact Wk.refl _ | exact (by first | exact Wk.refl _ | exact Wk.nil | exact Wk.clip _ | exact Wk.tip _ _ _ | exact Wk.opt _ _ (by first | assumption | rfl) | exact Wk.gr _ _ | exact Wk.nil_gr | exact Wk.trans (Wk.opt _ _ (by first | assumption | rfl)) (by first | exact Wk.gr _ _ | exact Wk.nil | exact Wk.clip _ | exact Wk.tip _ _ _) | exact Wk.aggs (by repeat (first | exact Wks.nil | refine Wks.cons (by first | exact Wk.refl _ | exact Wk.nil | exact Wk.clip _ | exact Wk.tip _ _ _ | exact Wk.gr _ _ | exact Wk.nil_gr) ?_)) rfl) | exact Wk.tups (by repeat (first | exact Wks.nil | refine Wks.cons (by first | exact Wk.refl _ | exact Wk.nil | exact Wk.clip _ | exact Wk.tip _ _ _ | exact Wk.opt _ _ (by first | assumption | rfl) | exact Wk.gr _ _ | exact Wk.nil_gr | exact Wk.trans (Wk.opt _ _ (by first | assumption | rfl)) (by first | exact Wk.gr _ _ | exact Wk.nil | exact Wk.clip _ | exact Wk.tip _ _ _) | exact Wk.aggs (by repeat (first | exact Wks.nil | refine Wks.cons (by first | exact Wk.refl _ | exact Wk.nil | exact Wk.clip _ | exact Wk.tip _ _ _ | exact Wk.gr _ _ | exact Wk.nil_gr) ?_)) rfl) ?_))), rfl⟩) (hs := (by repeat (first | exact List.Sublist.refl _ | apply List.Sublist.cons | apply Sl.gB)))

noncomputable def l_bank_Move (a0 : SBook) (a1 : Txt) (a2 : Txt) (a3 : Txt) (a4 : Int) : Option (SBook × Int) :=
(l_bank_Take a0 a1 a3 a4).bind fun x3 =>
cond (x3.2 != 0) (
some (a0, x3.2)) (
(l_slices_Contains_string_string a0.Accounts a2).bind fun x15 =>
cond (!x15) (
some (a0, 4)) (
(x_put x3.1 a2 a3 a4).bind fun x19 =>
some (x19, 0)))
theorem c_bank_Move {a0 : SBook} {a1 : Txt} {a2 : Txt} {a3 : Txt} {a4 : Int} {r : SBook × Int} (hF : l_bank_Move a0 a1 a2 a3 a4 = some r) : APure Try.prog 47 [.agg (rBook a0), sA a1, sA a2, sA a3, iA a4] (.tup [.agg (rBook r.1), iA r.2]) := fun bs => by
  unfold l_bank_Move at hF
  refine ACalls.wk ?_
  refine ACalls.in_ Try.func47 Try.ntmps47 (h := ?_)
  (repeat refine gc (h := ?_))
  refine AW.region ?_
  (repeat refine gl (h := ?_))
  intro g1
  (repeat refine gl (h := ?_))
  intro g2
  (repeat refine gl (h := ?_))
  obtain ⟨x3, hc4, hF⟩ := bnd hF
  (repeat refine gc (h := ?_))
  refine AW.region ?_
  (repeat refine gl (h := ?_))
  refine AL.call (c_bank_Take hc4) (h := ?_)
  (repeat refine gl (h := ?_))
  intro g5
  (repeat refine gl (h := ?_))
  (repeat refine gc (h := ?_))
  refine AW.block ?_
  (repeat refine gc (h := ?_))
  refine AW.region ?_
  (repeat refine gl (h := ?_))
  (repeat refine gc (h := ?_))
  refine AW.cond (b := (x3.2 != 0)) rfl (fun hc14 => ?_) (fun hc14 => ?_)
  · replace hF := cnd_t hc14 hF
    (repeat refine gc (h := ?_))
    (repeat refine gc (h := ?_))
    refine AW.region ?_
    (repeat refine gl (h := ?_))
    obtain rfl := some_inj hF
    (repeat refine gc (h := ?_))
    exact EndQ.fin (bs' := bs) (h := ⟨(by first | exact Wk.refl _ | exact (by first | exact Wk.refl _ | exact Wk.nil | exact Wk.clip _ | exact Wk.tip _ _ _ | exact Wk.opt _ _ (by first | assumption | rfl) | exact Wk.gr _ _ | exact Wk.nil_gr | exact Wk.trans (Wk.opt _ _ (by first | assumption | rfl)) (by first | exact Wk.gr _ _ | exact Wk.nil | exact Wk.clip _ | exact Wk.tip _ _ _) | exact Wk.aggs (by repeat (first | exact Wks.nil | refine Wks.cons (by first | exact Wk.refl _ | exact Wk.nil | exact Wk.clip _ | exact Wk.tip _ _ _ | exact Wk.gr _ _ | exact Wk.nil_gr) ?_)) rfl) | exact Wk.tups (by repeat (first | exact Wks.nil | refine Wks.cons (by first | exact Wk.refl _ | exact Wk.nil | exact Wk.clip _ | exact Wk.tip _ _ _ | exact Wk.opt _ _ (by first | assumption | rfl) | exact Wk.gr _ _ | exact Wk.nil_gr | exact Wk.trans (Wk.opt _ _ (by first | assumption | rfl)) (by first | exact Wk.gr _ _ | exact Wk.nil | exact Wk.clip _ | exact Wk.tip _ _ _) | exact Wk.aggs (by repeat (first | exact Wks.nil | refine Wks.cons (by first | exact Wk.refl _ | exact Wk.nil | exact Wk.clip _ | exact Wk.tip _ _ _ | exact Wk.gr _ _ | exact Wk.nil_gr) ?_)) rfl) ?_))), rfl⟩) (hs := (by repeat (first | exact List.Sublist.refl _ | apply List.Sublist.cons | apply Sl.gB)))
  · replace hF := cnd_f hc14 hF
    (repeat refine gc (h := ?_))
    obtain ⟨x15, hc16, hF⟩ := bnd hF
    (repeat refine gc (h := ?_))
    refine AW.region ?_
    (repeat refine gl (h := ?_))
    refine AL.call (c_slices_Contains_string_string hc16) (h := ?_)
    (repeat refine gl (h := ?_))
    (repeat refine gc (h := ?_))
    refine AW.cond (b := (!x15)) rfl (fun hc18 => ?_) (fun hc18 => ?_)
    · replace hF := cnd_t hc18 hF
      (repeat refine gc (h := ?_))
      (repeat refine gc (h := ?_))
      refine AW.region ?_
      (repeat refine gl (h := ?_))
      obtain rfl := some_inj hF
      (repeat refine gc (h := ?_))
      exact EndQ.fin (bs' := bs) (h := ⟨(by first | exact Wk.refl _ | exact (by first | exact Wk.refl _ | exact Wk.nil | exact Wk.clip _ | exact Wk.tip _ _ _ | exact Wk.opt _ _ (by first | assumption | rfl) | exact Wk.gr _ _ | exact Wk.nil_gr | exact Wk.trans (Wk.opt _ _ (by first | assumption | rfl)) (by first | exact Wk.gr _ _ | exact Wk.nil | exact Wk.clip _ | exact Wk.tip _ _ _) | exact Wk.aggs (by repeat (first | exact Wks.nil | refine Wks.cons (by first | exact Wk.refl _ | exact Wk.nil | exact Wk.clip _ | exact Wk.tip _ _ _ | exact Wk.gr _ _ | exact Wk.nil_gr) ?_)) rfl) | exact Wk.tups (by repeat (first | exact Wks.nil | refine Wks.cons (by first | exact Wk.refl _ | exact Wk.nil | exact Wk.clip _ | exact Wk.tip _ _ _ | exact Wk.opt _ _ (by first | assumption | rfl) | exact Wk.gr _ _ | exact Wk.nil_gr | exact Wk.trans (Wk.opt _ _ (by first | assumption | rfl)) (by first | exact Wk.gr _ _ | exact Wk.nil | exact Wk.clip _ | exact Wk.tip _ _ _) | exact Wk.aggs (by repeat (first | exact Wks.nil | refine Wks.cons (by first | exact Wk.refl _ | exact Wk.nil | exact Wk.clip _ | exact Wk.tip _ _ _ | exact Wk.gr _ _ | exact Wk.nil_gr) ?_)) rfl) ?_))), rfl⟩) (hs := (by repeat (first | exact List.Sublist.refl _ | apply List.Sublist.cons | apply Sl.gB)))
    · replace hF := cnd_f hc18 hF
      (repeat refine gc (h := ?_))
      obtain ⟨x19, hc20, hF⟩ := bnd hF
      (repeat refine gc (h := ?_))
      refine AW.region ?_
      (repeat refine gl (h := ?_))
      refine AL.call (c_x_put hc20) (h := ?_)
      (repeat refine gl (h := ?_))
      obtain rfl := some_inj hF
      (repeat refine gc (h := ?_))
      exact EndQ.fin (bs' := bs) (h := ⟨(by first | exact Wk.refl _ | exact (by first | exact Wk.refl _ | exact Wk.nil | exact Wk.clip _ | exact Wk.tip _ _ _ | exact Wk.opt _ _ (by first | assumption | rfl) | exact Wk.gr _ _ | exact Wk.nil_gr | exact Wk.trans (Wk.opt _ _ (by first | assumption | rfl)) (by first | exact Wk.gr _ _ | exact Wk.nil | exact Wk.clip _ | exact Wk.tip _ _ _) | exact Wk.aggs (by repeat (first | exact Wks.nil | refine Wks.cons (by first | exact Wk.refl _ | exact Wk.nil | exact Wk.clip _ | exact Wk.tip _ _ _ | exact Wk.gr _ _ | exact Wk.nil_gr) ?_)) rfl) | exact Wk.tups (by repeat (first | exact Wks.nil | refine Wks.cons (by first | exact Wk.refl _ | exact Wk.nil | exact Wk.clip _ | exact Wk.tip _ _ _ | exact Wk.opt _ _ (by first | assumption | rfl) | exact Wk.gr _ _ | exact Wk.nil_gr | exact Wk.trans (Wk.opt _ _ (by first | assumption | rfl)) (by first | exact Wk.gr _ _ | exact Wk.nil | exact Wk.clip _ | exact Wk.tip _ _ _) | exact Wk.aggs (by repeat (first | exact Wks.nil | refine Wks.cons (by first | exact Wk.refl _ | exact Wk.nil | exact Wk.clip _ | exact Wk.tip _ _ _ | exact Wk.gr _ _ | exact Wk.nil_gr) ?_)) rfl) ?_))), rfl⟩) (hs := (by repeat (first | exact List.Sublist.refl _ | apply List.Sublist.cons | apply Sl.gB)))

noncomputable def l_slices_Equal_string_string_b0 (a0 : List Txt) (a1 : List Txt) (s24 : Int) : Option ((Int) ⊕ (Int ⊕ Bool)) :=
cond (decide (s24 < (a0.length : Int))) (
(idxO a0 s24).bind fun x35 =>
(idxO a1 s24).bind fun x38 =>
cond (!decide (x35 = x38)) (
some (.inr (.inr false))) (
(ensure (-9223372036854775808 ≤ s24 + 1 ∧ s24 + 1 ≤ 9223372036854775807)).bind fun _ =>
some (.inl (s24 + 1)))) (
some (.inr (.inl s24)))
noncomputable def l_slices_Equal_string_string (a0 : List Txt) (a1 : List Txt) : Option (Bool) :=
cond ((a0.length : Int) != (a1.length : Int)) (
some false) (
Option.bind (loopF (τ := (Int ⊕ Bool)) (fun s : Int => l_slices_Equal_string_string_b0 a0 a1 s) 0) fun oo25 => (match oo25 with
| .inl e32 =>
some true
| .inr r30 => some r30))
theorem c_slices_Equal_string_string {a0 : List Txt} {a1 : List Txt} {r : Bool} (hF : l_slices_Equal_string_string a0 a1 = some r) : APure Try.prog 73 [.sl (a0.map strR), .sl (a1.map strR)] (bA r) := fun bs => by
  unfold l_slices_Equal_string_string at hF
  refine ACalls.wk ?_
  refine ACalls.in_ Try.func73 Try.ntmps73 (h := ?_)
  (repeat refine gc (h := ?_))
  refine AW.region ?_
  (repeat refine gl (h := ?_))
  (repeat refine gc (h := ?_))
  refine AW.region ?_
  (repeat refine gl (h := ?_))
  (repeat refine gc (h := ?_))
  refine AW.cond (b := ((a0.length : Int) != (a1.length : Int))) rfl (fun hc2 => ?_) (fun hc2 => ?_)
  · replace hF := cnd_t hc2 hF
    (repeat refine gc (h := ?_))
    (repeat refine gc (h := ?_))
    refine AW.region ?_
    (repeat refine gl (h := ?_))
    obtain rfl := some_inj hF
    (repeat refine gc (h := ?_))
    exact EndQ.fin (bs' := bs) (h := ⟨(by first | exact Wk.refl _ | exact (by first | exact Wk.refl _ | exact Wk.nil | exact Wk.clip _ | exact Wk.tip _ _ _ | exact Wk.opt _ _ (by first | assumption | rfl) | exact Wk.gr _ _ | exact Wk.nil_gr | exact Wk.trans (Wk.opt _ _ (by first | assumption | rfl)) (by first | exact Wk.gr _ _ | exact Wk.nil | exact Wk.clip _ | exact Wk.tip _ _ _) | exact Wk.aggs (by repeat (first | exact Wks.nil | refine Wks.cons (by first | exact Wk.refl _ | exact Wk.nil | exact Wk.clip _ | exact Wk.tip _ _ _ | exact Wk.gr _ _ | exact Wk.nil_gr) ?_)) rfl) | exact Wk.tups (by repeat (first | exact Wks.nil | refine Wks.cons (by first | exact Wk.refl _ | exact Wk.nil | exact Wk.clip _ | exact Wk.tip _ _ _ | exact Wk.opt _ _ (by first | assumption | rfl) | exact Wk.gr _ _ | exact Wk.nil_gr | exact Wk.trans (Wk.opt _ _ (by first | assumption | rfl)) (by first | exact Wk.gr _ _ | exact Wk.nil | exact Wk.clip _ | exact Wk.tip _ _ _) | exact Wk.aggs (by repeat (first | exact Wks.nil | refine Wks.cons (by first | exact Wk.refl _ | exact Wk.nil | exact Wk.clip _ | exact Wk.tip _ _ _ | exact Wk.gr _ _ | exact Wk.nil_gr) ?_)) rfl) ?_))), rfl⟩) (hs := (by repeat (first | exact List.Sublist.refl _ | apply List.Sublist.cons | apply Sl.gB)))
  · replace hF := cnd_f hc2 hF
    (repeat refine gc (h := ?_))
    (repeat refine gc (h := ?_))
    refine AW.region ?_
    (repeat refine gl (h := ?_))
    obtain ⟨oo25, hL26, hO27⟩ := bnd hF
    (repeat refine gc (h := ?_))
    refine AW.join1_0 (fun (e32 : Int) => [(0, .sl (a0.map strR)), (1, .sl (a1.map strR)), (4, bA false), (12, iA (a0.length : Int)), (13, iA e32)]) (fun (e32 : Int) => bs) (fun (e32 : Int) => oo25 = .inl e32) ?_ (fun e32 hs43 => ?_)
    · (repeat refine gc (h := ?_))
      refine AW.block ?_
      refine AW.loopF1_0 hL26 (fun (s24 : Int) => [(0, .sl (a0.map strR)), (1, .sl (a1.map strR)), (4, bA false), (12, iA (a0.length : Int)), (13, iA s24)]) (fun (s24 : Int) => bs) (fun (s24 : Int) => True)  trivial (by repeat (first | exact Sub.nil | refine Sub.cons (k := ?_))) rfl (fun s24 v28 hp29 hF => ?_)
      replace hF : l_slices_Equal_string_string_b0 a0 a1 s24 = some v28 := hF
      unfold l_slices_Equal_string_string_b0 at hF
      (repeat refine gc (h := ?_))
      (repeat refine gc (h := ?_))
      refine AW.region ?_
      (repeat refine gl (h := ?_))
      (repeat refine gc (h := ?_))
      refine AW.cond (b := (decide (s24 < (a0.length : Int)))) rfl (fun hc34 => ?_) (fun hc34 => ?_)
      · replace hF := cnd_t hc34 hF
        have hc34p := of_decide_eq_true hc34
        (repeat refine gc (h := ?_))
        (repeat refine gc (h := ?_))
        refine AW.block ?_
        (repeat refine gc (h := ?_))
        refine AW.region ?_
        (repeat refine gl (h := ?_))
        obtain ⟨x35, h36, h37, hF⟩ := idx_b hF
        obtain ⟨x38, h39, h40, hF⟩ := idx_b hF
        (repeat refine gc (h := ?_))
        (repeat refine goD (h := ?_))
        (repeat refine gc (h := ?_))
        refine AW.cond (b := (!decide (x35 = x38))) rfl (fun hc41 => ?_) (fun hc41 => ?_)
        · replace hF := cnd_t hc41 hF
          (repeat refine gc (h := ?_))
          (repeat refine gc (h := ?_))
          refine AW.region ?_
          (repeat refine gl (h := ?_))
          obtain rfl := some_inj hF
          (repeat refine gc (h := ?_))
          refine lpQ1_0.r _ rfl (fun ho31 => ?_)
          subst ho31
          replace hF := hO27
          (repeat refine gc (h := ?_))
          obtain rfl := some_inj hF
          (repeat refine gc (h := ?_))
          exact EndQ.fin (bs' := bs) (h := ⟨(by first | exact Wk.refl _ | exact (by first | exact Wk.refl _ | exact Wk.nil | exact Wk.clip _ | exact Wk.tip _ _ _ | exact Wk.opt _ _ (by first | assumption | rfl) | exact Wk.gr _ _ | exact Wk.nil_gr | exact Wk.trans (Wk.opt _ _ (by first | assumption | rfl)) (by first | exact Wk.gr _ _ | exact Wk.nil | exact Wk.clip _ | exact Wk.tip _ _ _) | exact Wk.aggs (by repeat (first | exact Wks.nil | refine Wks.cons (by first | exact Wk.refl _ | exact Wk.nil | exact Wk.clip _ | exact Wk.tip _ _ _ | exact Wk.gr _ _ | exact Wk.nil_gr) ?_)) rfl) | exact Wk.tups (by repeat (first | exact Wks.nil | refine Wks.cons (by first | exact Wk.refl _ | exact Wk.nil | exact Wk.clip _ | exact Wk.tip _ _ _ | exact Wk.opt _ _ (by first | assumption | rfl) | exact Wk.gr _ _ | exact Wk.nil_gr | exact Wk.trans (Wk.opt _ _ (by first | assumption | rfl)) (by first | exact Wk.gr _ _ | exact Wk.nil | exact Wk.clip _ | exact Wk.tip _ _ _) | exact Wk.aggs (by repeat (first | exact Wks.nil | refine Wks.cons (by first | exact Wk.refl _ | exact Wk.nil | exact Wk.clip _ | exact Wk.tip _ _ _ | exact Wk.gr _ _ | exact Wk.nil_gr) ?_)) rfl) ?_))), rfl⟩) (hs := (by repeat (first | exact List.Sublist.refl _ | apply List.Sublist.cons | apply Sl.gB)))
        · replace hF := cnd_f hc41 hF
          (repeat refine gc (h := ?_))
          obtain ⟨he42, hF⟩ := ens hF
          (repeat refine gc (h := ?_))
          refine AW.region ?_
          (repeat refine gl (h := ?_))
          (repeat refine gc (h := ?_))
          exact lpQ1_0.n (s24 + 1) (some_inj hF) trivial (by repeat (first | exact Sub.nil | refine Sub.cons (k := ?_))) (by repeat (first | exact List.Sublist.refl _ | apply List.Sublist.cons | apply Sl.gB))
      · replace hF := cnd_f hc34 hF
        have hc34p := of_decide_eq_false hc34
        (repeat refine gc (h := ?_))
        obtain rfl := some_inj hF
        (repeat refine gc (h := ?_))
        refine lpQ1_0.e _ rfl (fun ho31 => ?_)
        (repeat refine gc (h := ?_))
        exact jnQ1_0.n s24 ho31 (by repeat (first | exact Sub.nil | refine Sub.cons (k := ?_))) (by repeat (first | exact List.Sublist.refl _ | apply List.Sublist.cons | apply Sl.gB))
    · obtain rfl := hs43.symm
      replace hF := hO27
      try dsimp only at hF
      (repeat refine gc (h := ?_))
      (repeat refine gc (h := ?_))
      refine AW.region ?_
      (repeat refine gl (h := ?_))
      obtain rfl := some_inj hF
      (repeat refine gc (h := ?_))
      exact EndQ.fin (bs' := bs) (h := ⟨(by first | exact Wk.refl _ | exact (by first | exact Wk.refl _ | exact Wk.nil | exact Wk.clip _ | exact Wk.tip _ _ _ | exact Wk.opt _ _ (by first | assumption | rfl) | exact Wk.gr _ _ | exact Wk.nil_gr | exact Wk.trans (Wk.opt _ _ (by first | assumption | rfl)) (by first | exact Wk.gr _ _ | exact Wk.nil | exact Wk.clip _ | exact Wk.tip _ _ _) | exact Wk.aggs (by repeat (first | exact Wks.nil | refine Wks.cons (by first | exact Wk.refl _ | exact Wk.nil | exact Wk.clip _ | exact Wk.tip _ _ _ | exact Wk.gr _ _ | exact Wk.nil_gr) ?_)) rfl) | exact Wk.tups (by repeat (first | exact Wks.nil | refine Wks.cons (by first | exact Wk.refl _ | exact Wk.nil | exact Wk.clip _ | exact Wk.tip _ _ _ | exact Wk.opt _ _ (by first | assumption | rfl) | exact Wk.gr _ _ | exact Wk.nil_gr | exact Wk.trans (Wk.opt _ _ (by first | assumption | rfl)) (by first | exact Wk.gr _ _ | exact Wk.nil | exact Wk.clip _ | exact Wk.tip _ _ _) | exact Wk.aggs (by repeat (first | exact Wks.nil | refine Wks.cons (by first | exact Wk.refl _ | exact Wk.nil | exact Wk.clip _ | exact Wk.tip _ _ _ | exact Wk.gr _ _ | exact Wk.nil_gr) ?_)) rfl) ?_))), rfl⟩) (hs := (by repeat (first | exact List.Sublist.refl _ | apply List.Sublist.cons | apply Sl.gB)))

noncomputable def l_slices_Equal_api_Fund_api_Fund_b0 (a0 : List SFund) (a1 : List SFund) (s24 : Int) : Option ((Int) ⊕ (Int ⊕ Bool)) :=
cond (decide (s24 < (a0.length : Int))) (
(idxO a0 s24).bind fun x35 =>
(idxO a1 s24).bind fun x38 =>
cond (!(decide (x35.Account = x38.Account) && (decide (x35.Asset = x38.Asset) && ((x35.Amount == x38.Amount) && true)))) (
some (.inr (.inr false))) (
(ensure (-9223372036854775808 ≤ s24 + 1 ∧ s24 + 1 ≤ 9223372036854775807)).bind fun _ =>
some (.inl (s24 + 1)))) (
some (.inr (.inl s24)))
noncomputable def l_slices_Equal_api_Fund_api_Fund (a0 : List SFund) (a1 : List SFund) : Option (Bool) :=
cond ((a0.length : Int) != (a1.length : Int)) (
some false) (
Option.bind (loopF (τ := (Int ⊕ Bool)) (fun s : Int => l_slices_Equal_api_Fund_api_Fund_b0 a0 a1 s) 0) fun oo25 => (match oo25 with
| .inl e32 =>
some true
| .inr r30 => some r30))
theorem c_slices_Equal_api_Fund_api_Fund {a0 : List SFund} {a1 : List SFund} {r : Bool} (hF : l_slices_Equal_api_Fund_api_Fund a0 a1 = some r) : APure Try.prog 74 [.sl (a0.map rFund), .sl (a1.map rFund)] (bA r) := fun bs => by
  unfold l_slices_Equal_api_Fund_api_Fund at hF
  refine ACalls.wk ?_
  refine ACalls.in_ Try.func74 Try.ntmps74 (h := ?_)
  (repeat refine gc (h := ?_))
  refine AW.region ?_
  (repeat refine gl (h := ?_))
  (repeat refine gc (h := ?_))
  refine AW.region ?_
  (repeat refine gl (h := ?_))
  (repeat refine gc (h := ?_))
  refine AW.cond (b := ((a0.length : Int) != (a1.length : Int))) rfl (fun hc2 => ?_) (fun hc2 => ?_)
  · replace hF := cnd_t hc2 hF
    (repeat refine gc (h := ?_))
    (repeat refine gc (h := ?_))
    refine AW.region ?_
    (repeat refine gl (h := ?_))
    obtain rfl := some_inj hF
    (repeat refine gc (h := ?_))
    exact EndQ.fin (bs' := bs) (h := ⟨(by first | exact Wk.refl _ | exact (by first | exact Wk.refl _ | exact Wk.nil | exact Wk.clip _ | exact Wk.tip _ _ _ | exact Wk.opt _ _ (by first | assumption | rfl) | exact Wk.gr _ _ | exact Wk.nil_gr | exact Wk.trans (Wk.opt _ _ (by first | assumption | rfl)) (by first | exact Wk.gr _ _ | exact Wk.nil | exact Wk.clip _ | exact Wk.tip _ _ _) | exact Wk.aggs (by repeat (first | exact Wks.nil | refine Wks.cons (by first | exact Wk.refl _ | exact Wk.nil | exact Wk.clip _ | exact Wk.tip _ _ _ | exact Wk.gr _ _ | exact Wk.nil_gr) ?_)) rfl) | exact Wk.tups (by repeat (first | exact Wks.nil | refine Wks.cons (by first | exact Wk.refl _ | exact Wk.nil | exact Wk.clip _ | exact Wk.tip _ _ _ | exact Wk.opt _ _ (by first | assumption | rfl) | exact Wk.gr _ _ | exact Wk.nil_gr | exact Wk.trans (Wk.opt _ _ (by first | assumption | rfl)) (by first | exact Wk.gr _ _ | exact Wk.nil | exact Wk.clip _ | exact Wk.tip _ _ _) | exact Wk.aggs (by repeat (first | exact Wks.nil | refine Wks.cons (by first | exact Wk.refl _ | exact Wk.nil | exact Wk.clip _ | exact Wk.tip _ _ _ | exact Wk.gr _ _ | exact Wk.nil_gr) ?_)) rfl) ?_))), rfl⟩) (hs := (by repeat (first | exact List.Sublist.refl _ | apply List.Sublist.cons | apply Sl.gB)))
  · replace hF := cnd_f hc2 hF
    (repeat refine gc (h := ?_))
    (repeat refine gc (h := ?_))
    refine AW.region ?_
    (repeat refine gl (h := ?_))
    obtain ⟨oo25, hL26, hO27⟩ := bnd hF
    (repeat refine gc (h := ?_))
    refine AW.join1_0 (fun (e32 : Int) => [(0, .sl (a0.map rFund)), (1, .sl (a1.map rFund)), (4, bA false), (12, iA (a0.length : Int)), (13, iA e32)]) (fun (e32 : Int) => bs) (fun (e32 : Int) => oo25 = .inl e32) ?_ (fun e32 hs43 => ?_)
    · (repeat refine gc (h := ?_))
      refine AW.block ?_
      refine AW.loopF1_0 hL26 (fun (s24 : Int) => [(0, .sl (a0.map rFund)), (1, .sl (a1.map rFund)), (4, bA false), (12, iA (a0.length : Int)), (13, iA s24)]) (fun (s24 : Int) => bs) (fun (s24 : Int) => True)  trivial (by repeat (first | exact Sub.nil | refine Sub.cons (k := ?_))) rfl (fun s24 v28 hp29 hF => ?_)
      replace hF : l_slices_Equal_api_Fund_api_Fund_b0 a0 a1 s24 = some v28 := hF
      unfold l_slices_Equal_api_Fund_api_Fund_b0 at hF
      (repeat refine gc (h := ?_))
      (repeat refine gc (h := ?_))
      refine AW.region ?_
      (repeat refine gl (h := ?_))
      (repeat refine gc (h := ?_))
      refine AW.cond (b := (decide (s24 < (a0.length : Int)))) rfl (fun hc34 => ?_) (fun hc34 => ?_)
      · replace hF := cnd_t hc34 hF
        have hc34p := of_decide_eq_true hc34
        (repeat refine gc (h := ?_))
        (repeat refine gc (h := ?_))
        refine AW.block ?_
        (repeat refine gc (h := ?_))
        refine AW.region ?_
        (repeat refine gl (h := ?_))
        obtain ⟨x35, h36, h37, hF⟩ := idx_b hF
        obtain ⟨x38, h39, h40, hF⟩ := idx_b hF
        (repeat refine gc (h := ?_))
        (repeat refine goD (h := ?_))
        try (first | refine ADl.f (hq := fun _ => OpQ.neq_flat (r := (decide (x35.Account = x38.Account) && (decide (x35.Asset = x38.Asset) && ((x35.Amount == x38.Amount) && true)))) rfl (by first | exact Wk.refl _ | exact Wk.nil | exact Wk.clip _ | exact Wk.tip _ _ _ | exact Wk.opt _ _ (by first | assumption | rfl) | exact Wk.gr _ _ | exact Wk.nil_gr | exact Wk.trans (Wk.opt _ _ (by first | assumption | rfl)) (by first | exact Wk.gr _ _ | exact Wk.nil | exact Wk.clip _ | exact Wk.tip _ _ _) | exact Wk.aggs (by repeat (first | exact Wks.nil | refine Wks.cons (by first | exact Wk.refl _ | exact Wk.nil | exact Wk.clip _ | exact Wk.tip _ _ _ | exact Wk.gr _ _ | exact Wk.nil_gr) ?_)) rfl) (by first | exact Wk.refl _ | exact Wk.nil | exact Wk.clip _ | exact Wk.tip _ _ _ | exact Wk.opt _ _ (by first | assumption | rfl) | exact Wk.gr _ _ | exact Wk.nil_gr | exact Wk.trans (Wk.opt _ _ (by first | assumption | rfl)) (by first | exact Wk.gr _ _ | exact Wk.nil | exact Wk.clip _ | exact Wk.tip _ _ _) | exact Wk.aggs (by repeat (first | exact Wks.nil | refine Wks.cons (by first | exact Wk.refl _ | exact Wk.nil | exact Wk.clip _ | exact Wk.tip _ _ _ | exact Wk.gr _ _ | exact Wk.nil_gr) ?_)) rfl) (by repeat (first | exact EqF.nil | refine EqF.int (by decide) TI.und rfl rfl ?_ | refine EqF.str (by decide) TI.und rfl rfl ?_))) (h := ?_) | refine ADl.b (hq := OpQ.neq_flat (r := (decide (x35.Account = x38.Account) && (decide (x35.Asset = x38.Asset) && ((x35.Amount == x38.Amount) && true)))) rfl (by first | exact Wk.refl _ | exact Wk.nil | exact Wk.clip _ | exact Wk.tip _ _ _ | exact Wk.opt _ _ (by first | assumption | rfl) | exact Wk.gr _ _ | exact Wk.nil_gr | exact Wk.trans (Wk.opt _ _ (by first | assumption | rfl)) (by first | exact Wk.gr _ _ | exact Wk.nil | exact Wk.clip _ | exact Wk.tip _ _ _) | exact Wk.aggs (by repeat (first | exact Wks.nil | refine Wks.cons (by first | exact Wk.refl _ | exact Wk.nil | exact Wk.clip _ | exact Wk.tip _ _ _ | exact Wk.gr _ _ | exact Wk.nil_gr) ?_)) rfl) (by first | exact Wk.refl _ | exact Wk.nil | exact Wk.clip _ | exact Wk.tip _ _ _ | exact Wk.opt _ _ (by first | assumption | rfl) | exact Wk.gr _ _ | exact Wk.nil_gr | exact Wk.trans (Wk.opt _ _ (by first | assumption | rfl)) (by first | exact Wk.gr _ _ | exact Wk.nil | exact Wk.clip _ | exact Wk.tip _ _ _) | exact Wk.aggs (by repeat (first | exact Wks.nil | refine Wks.cons (by first | exact Wk.refl _ | exact Wk.nil | exact Wk.clip _ | exact Wk.tip _ _ _ | exact Wk.gr _ _ | exact Wk.nil_gr) ?_)) rfl) (by repeat (first | exact EqF.nil | refine EqF.int (by decide) TI.und rfl rfl ?_ | refine EqF.str (by decide) TI.und rfl rfl ?_))) (h := ?_))
        (repeat refine goD (h := ?_))
        (repeat refine gc (h := ?_))
        refine AW.cond (b := (!(decide (x35.Account = x38.Account) && (decide (x35.Asset = x38.Asset) && ((x35.Amount == x38.Amount) && true))))) rfl (fun hc41 => ?_) (fun hc41 => ?_)
        · replace hF := cnd_t hc41 hF
          (repeat refine gc (h := ?_))
          (repeat refine gc (h := ?_))
          refine AW.region ?_
          (repeat refine gl (h := ?_))
          obtain rfl := some_inj hF
          (repeat refine gc (h := ?_))
          refine lpQ1_0.r _ rfl (fun ho31 => ?_)
          subst ho31
          replace hF := hO27
          (repeat refine gc (h := ?_))
          obtain rfl := some_inj hF
          (repeat refine gc (h := ?_))
          exact EndQ.fin (bs' := bs) (h := ⟨(by first | exact Wk.refl _ | exact (by first | exact Wk.refl _ | exact Wk.nil | exact Wk.clip _ | exact Wk.tip _ _ _ | exact Wk.opt _ _ (by first | assumption | rfl) | exact Wk.gr _ _ | exact Wk.nil_gr | exact Wk.trans (Wk.opt _ _ (by first | assumption | rfl)) (by first | exact Wk.gr _ _ | exact Wk.nil | exact Wk.clip _ | exact Wk.tip _ _ _) | exact Wk.aggs (by repeat (first | exact Wks.nil | refine Wks.cons (by first | exact Wk.refl _ | exact Wk.nil | exact Wk.clip _ | exact Wk.tip _ _ _ | exact Wk.gr _ _ | exact Wk.nil_gr) ?_)) rfl) | exact Wk.tups (by repeat (first | exact Wks.nil | refine Wks.cons (by first | exact Wk.refl _ | exact Wk.nil | exact Wk.clip _ | exact Wk.tip _ _ _ | exact Wk.opt _ _ (by first | assumption | rfl) | exact Wk.gr _ _ | exact Wk.nil_gr | exact Wk.trans (Wk.opt _ _ (by first | assumption | rfl)) (by first | exact Wk.gr _ _ | exact Wk.nil | exact Wk.clip _ | exact Wk.tip _ _ _) | exact Wk.aggs (by repeat (first | exact Wks.nil | refine Wks.cons (by first | exact Wk.refl _ | exact Wk.nil | exact Wk.clip _ | exact Wk.tip _ _ _ | exact Wk.gr _ _ | exact Wk.nil_gr) ?_)) rfl) ?_))), rfl⟩) (hs := (by repeat (first | exact List.Sublist.refl _ | apply List.Sublist.cons | apply Sl.gB)))
        · replace hF := cnd_f hc41 hF
          (repeat refine gc (h := ?_))
          obtain ⟨he42, hF⟩ := ens hF
          (repeat refine gc (h := ?_))
          refine AW.region ?_
          (repeat refine gl (h := ?_))
          (repeat refine gc (h := ?_))
          exact lpQ1_0.n (s24 + 1) (some_inj hF) trivial (by repeat (first | exact Sub.nil | refine Sub.cons (k := ?_))) (by repeat (first | exact List.Sublist.refl _ | apply List.Sublist.cons | apply Sl.gB))
      · replace hF := cnd_f hc34 hF
        have hc34p := of_decide_eq_false hc34
        (repeat refine gc (h := ?_))
        obtain rfl := some_inj hF
        (repeat refine gc (h := ?_))
        refine lpQ1_0.e _ rfl (fun ho31 => ?_)
        (repeat refine gc (h := ?_))
        exact jnQ1_0.n s24 ho31 (by repeat (first | exact Sub.nil | refine Sub.cons (k := ?_))) (by repeat (first | exact List.Sublist.refl _ | apply List.Sublist.cons | apply Sl.gB))
    · obtain rfl := hs43.symm
      replace hF := hO27
      try dsimp only at hF
      (repeat refine gc (h := ?_))
      (repeat refine gc (h := ?_))
      refine AW.region ?_
      (repeat refine gl (h := ?_))
      obtain rfl := some_inj hF
      (repeat refine gc (h := ?_))
      exact EndQ.fin (bs' := bs) (h := ⟨(by first | exact Wk.refl _ | exact (by first | exact Wk.refl _ | exact Wk.nil | exact Wk.clip _ | exact Wk.tip _ _ _ | exact Wk.opt _ _ (by first | assumption | rfl) | exact Wk.gr _ _ | exact Wk.nil_gr | exact Wk.trans (Wk.opt _ _ (by first | assumption | rfl)) (by first | exact Wk.gr _ _ | exact Wk.nil | exact Wk.clip _ | exact Wk.tip _ _ _) | exact Wk.aggs (by repeat (first | exact Wks.nil | refine Wks.cons (by first | exact Wk.refl _ | exact Wk.nil | exact Wk.clip _ | exact Wk.tip _ _ _ | exact Wk.gr _ _ | exact Wk.nil_gr) ?_)) rfl) | exact Wk.tups (by repeat (first | exact Wks.nil | refine Wks.cons (by first | exact Wk.refl _ | exact Wk.nil | exact Wk.clip _ | exact Wk.tip _ _ _ | exact Wk.opt _ _ (by first | assumption | rfl) | exact Wk.gr _ _ | exact Wk.nil_gr | exact Wk.trans (Wk.opt _ _ (by first | assumption | rfl)) (by first | exact Wk.gr _ _ | exact Wk.nil | exact Wk.clip _ | exact Wk.tip _ _ _) | exact Wk.aggs (by repeat (first | exact Wks.nil | refine Wks.cons (by first | exact Wk.refl _ | exact Wk.nil | exact Wk.clip _ | exact Wk.tip _ _ _ | exact Wk.gr _ _ | exact Wk.nil_gr) ?_)) rfl) ?_))), rfl⟩) (hs := (by repeat (first | exact List.Sublist.refl _ | apply List.Sublist.cons | apply Sl.gB)))

noncomputable def l_spec_Same_1 (a0 : SParty) (a1 : SParty) : Option (Bool) :=
(grd ((decide (a0.Account = a1.Account))) (l_slices_Equal_string_string a0.Keys a1.Keys)).bind fun x3 =>
some ((decide (a0.Account = a1.Account)) && x3)
theorem c_spec_Same_1 {a0 : SParty} {a1 : SParty} {r : Bool} (hF : l_spec_Same_1 a0 a1 = some r) : APure Try.prog 85 [.agg (rParty a0), .agg (rParty a1)] (bA r) := fun bs => by
  unfold l_spec_Same_1 at hF
  refine ACalls.wk ?_
  refine ACalls.in_ Try.func85 Try.ntmps85 (h := ?_)
  (repeat refine gc (h := ?_))
  refine AW.region ?_
  (repeat refine gl (h := ?_))
  intro g1
  (repeat refine gl (h := ?_))
  intro g2
  (repeat refine gl (h := ?_))
  obtain ⟨x3, hc4, hF⟩ := grd_b hF
  (repeat refine gc (h := ?_))
  refine AW.region ?_
  (repeat refine gl (h := ?_))
  refine AL.gd (hq := fun hgb => OpQ.c (c_slices_Equal_string_string (hc4 hgb))) (h := ?_)
  (repeat refine gl (h := ?_))
  obtain rfl := some_inj hF
  (repeat refine gc (h := ?_))
  exact EndQ.fin (bs' := bs) (h := ⟨(by first | exact Wk.refl _ | exact (by first | exact Wk.refl _ | exact Wk.nil | exact Wk.clip _ | exact Wk.tip _ _ _ | exact Wk.opt _ _ (by first | assumption | rfl) | exact Wk.gr _ _ | exact Wk.nil_gr | exact Wk.trans (Wk.opt _ _ (by first | assumption | rfl)) (by first | exact Wk.gr _ _ | exact Wk.nil | exact Wk.clip _ | exact Wk.tip _ _ _) | exact Wk.aggs (by repeat (first | exact Wks.nil | refine Wks.cons (by first | exact Wk.refl _ | exact Wk.nil | exact Wk.clip _ | exact Wk.tip _ _ _ | exact Wk.gr _ _ | exact Wk.nil_gr) ?_)) rfl) | exact Wk.tups (by repeat (first | exact Wks.nil | refine Wks.cons (by first | exact Wk.refl _ | exact Wk.nil | exact Wk.clip _ | exact Wk.tip _ _ _ | exact Wk.opt _ _ (by first | assumption | rfl) | exact Wk.gr _ _ | exact Wk.nil_gr | exact Wk.trans (Wk.opt _ _ (by first | assumption | rfl)) (by first | exact Wk.gr _ _ | exact Wk.nil | exact Wk.clip _ | exact Wk.tip _ _ _) | exact Wk.aggs (by repeat (first | exact Wks.nil | refine Wks.cons (by first | exact Wk.refl _ | exact Wk.nil | exact Wk.clip _ | exact Wk.tip _ _ _ | exact Wk.gr _ _ | exact Wk.nil_gr) ?_)) rfl) ?_))), rfl⟩) (hs := (by repeat (first | exact List.Sublist.refl _ | apply List.Sublist.cons | apply Sl.gB)))

noncomputable def l_slices_EqualFunc_api_Party_api_Party_api_Party_api_Party__spec_Same_1_b0 (a0 : List SParty) (a1 : List SParty) (s32 : Int) : Option ((Int) ⊕ (Int ⊕ Bool)) :=
cond (decide (s32 < (a0.length : Int))) (
(idxO a0 s32).bind fun x43 =>
(idxO a1 s32).bind fun x47 =>
(l_spec_Same_1 x43 x47).bind fun x51 =>
cond (!x51) (
some (.inr (.inr false))) (
(ensure (-9223372036854775808 ≤ s32 + 1 ∧ s32 + 1 ≤ 9223372036854775807)).bind fun _ =>
some (.inl (s32 + 1)))) (
some (.inr (.inl s32)))
noncomputable def l_slices_EqualFunc_api_Party_api_Party_api_Party_api_Party__spec_Same_1 (a0 : List SParty) (a1 : List SParty) : Option (Bool) :=
cond ((a0.length : Int) != (a1.length : Int)) (
some false) (
Option.bind (loopF (τ := (Int ⊕ Bool)) (fun s : Int => l_slices_EqualFunc_api_Party_api_Party_api_Party_api_Party__spec_Same_1_b0 a0 a1 s) 0) fun oo33 => (match oo33 with
| .inl e40 =>
some true
| .inr r38 => some r38))
theorem c_slices_EqualFunc_api_Party_api_Party_api_Party_api_Party__spec_Same_1 {a0 : List SParty} {a1 : List SParty} {r : Bool} (hF : l_slices_EqualFunc_api_Party_api_Party_api_Party_api_Party__spec_Same_1 a0 a1 = some r) : APure Try.prog 86 [.sl (a0.map rParty), .sl (a1.map rParty), .fn (.func 85) [] []] (bA r) := fun bs => by
  unfold l_slices_EqualFunc_api_Party_api_Party_api_Party_api_Party__spec_Same_1 at hF
  refine ACalls.wk ?_
  refine ACalls.in_ Try.func86 Try.ntmps86 (h := ?_)
  (repeat refine gc (h := ?_))
  refine AW.region ?_
  (repeat refine gl (h := ?_))
  (repeat refine gc (h := ?_))
  refine AW.region ?_
  (repeat refine gl (h := ?_))
  (repeat refine gc (h := ?_))
  refine AW.cond (b := ((a0.length : Int) != (a1.length : Int))) rfl (fun hc2 => ?_) (fun hc2 => ?_)
  · replace hF := cnd_t hc2 hF
    (repeat refine gc (h := ?_))
    (repeat refine gc (h := ?_))
    refine AW.region ?_
    (repeat refine gl (h := ?_))
    obtain rfl := some_inj hF
    (repeat refine gc (h := ?_))
    exact EndQ.fin (bs' := bs) (h := ⟨(by first | exact Wk.refl _ | exact (by first | exact Wk.refl _ | exact Wk.nil | exact Wk.clip _ | exact Wk.tip _ _ _ | exact Wk.opt _ _ (by first | assumption | rfl) | exact Wk.gr _ _ | exact Wk.nil_gr | exact Wk.trans (Wk.opt _ _ (by first | assumption | rfl)) (by first | exact Wk.gr _ _ | exact Wk.nil | exact Wk.clip _ | exact Wk.tip _ _ _) | exact Wk.aggs (by repeat (first | exact Wks.nil | refine Wks.cons (by first | exact Wk.refl _ | exact Wk.nil | exact Wk.clip _ | exact Wk.tip _ _ _ | exact Wk.gr _ _ | exact Wk.nil_gr) ?_)) rfl) | exact Wk.tups (by repeat (first | exact Wks.nil | refine Wks.cons (by first | exact Wk.refl _ | exact Wk.nil | exact Wk.clip _ | exact Wk.tip _ _ _ | exact Wk.opt _ _ (by first | assumption | rfl) | exact Wk.gr _ _ | exact Wk.nil_gr | exact Wk.trans (Wk.opt _ _ (by first | assumption | rfl)) (by first | exact Wk.gr _ _ | exact Wk.nil | exact Wk.clip _ | exact Wk.tip _ _ _) | exact Wk.aggs (by repeat (first | exact Wks.nil | refine Wks.cons (by first | exact Wk.refl _ | exact Wk.nil | exact Wk.clip _ | exact Wk.tip _ _ _ | exact Wk.gr _ _ | exact Wk.nil_gr) ?_)) rfl) ?_))), rfl⟩) (hs := (by repeat (first | exact List.Sublist.refl _ | apply List.Sublist.cons | apply Sl.gB)))
  · replace hF := cnd_f hc2 hF
    (repeat refine gc (h := ?_))
    (repeat refine gc (h := ?_))
    refine AW.region ?_
    (repeat refine gl (h := ?_))
    obtain ⟨oo33, hL34, hO35⟩ := bnd hF
    (repeat refine gc (h := ?_))
    refine AW.join1_0 (fun (e40 : Int) => [(0, .sl (a0.map rParty)), (1, .sl (a1.map rParty)), (2, .fn (.func 85) [] []), (6, bA false), (15, .sl (a0.map rParty)), (16, iA (a0.length : Int)), (17, iA e40)]) (fun (e40 : Int) => bs) (fun (e40 : Int) => oo33 = .inl e40) ?_ (fun e40 hs55 => ?_)
    · (repeat refine gc (h := ?_))
      refine AW.block ?_
      refine AW.loopF1_0 hL34 (fun (s32 : Int) => [(0, .sl (a0.map rParty)), (1, .sl (a1.map rParty)), (2, .fn (.func 85) [] []), (6, bA false), (15, .sl (a0.map rParty)), (16, iA (a0.length : Int)), (17, iA s32)]) (fun (s32 : Int) => bs) (fun (s32 : Int) => True)  trivial (by repeat (first | exact Sub.nil | refine Sub.cons (k := ?_))) rfl (fun s32 v36 hp37 hF => ?_)
      replace hF : l_slices_EqualFunc_api_Party_api_Party_api_Party_api_Party__spec_Same_1_b0 a0 a1 s32 = some v36 := hF
      unfold l_slices_EqualFunc_api_Party_api_Party_api_Party_api_Party__spec_Same_1_b0 at hF
      (repeat refine gc (h := ?_))
      (repeat refine gc (h := ?_))
      refine AW.region ?_
      (repeat refine gl (h := ?_))
      (repeat refine gc (h := ?_))
      refine AW.cond (b := (decide (s32 < (a0.length : Int)))) rfl (fun hc42 => ?_) (fun hc42 => ?_)
      · replace hF := cnd_t hc42 hF
        have hc42p := of_decide_eq_true hc42
        (repeat refine gc (h := ?_))
        (repeat refine gc (h := ?_))
        refine AW.block ?_
        obtain ⟨x43, h44, h45, hF⟩ := idx_b hF
        (repeat refine gc (h := ?_))
        refine AW.region ?_
        (repeat refine gl (h := ?_))
        intro g46
        (repeat refine gl (h := ?_))
        obtain ⟨x47, h48, h49, hF⟩ := idx_b hF
        (repeat refine gc (h := ?_))
        refine AW.region ?_
        (repeat refine gl (h := ?_))
        intro g50
        (repeat refine gl (h := ?_))
        obtain ⟨x51, hc52, hF⟩ := bnd hF
        (repeat refine gc (h := ?_))
        refine AW.region ?_
        (repeat refine gl (h := ?_))
        refine AL.s (hq := OpQ.cv (c_spec_Same_1 hc52)) (h := ?_)
        (repeat refine gl (h := ?_))
        (repeat refine gc (h := ?_))
        refine AW.cond (b := (!x51)) rfl (fun hc53 => ?_) (fun hc53 => ?_)
        · replace hF := cnd_t hc53 hF
          (repeat refine gc (h := ?_))
          (repeat refine gc (h := ?_))
          refine AW.region ?_
          (repeat refine gl (h := ?_))
          obtain rfl := some_inj hF
          (repeat refine gc (h := ?_))
          refine lpQ1_0.r _ rfl (fun ho39 => ?_)
          subst ho39
          replace hF := hO35
          (repeat refine gc (h := ?_))
          obtain rfl := some_inj hF
          (repeat refine gc (h := ?_))
          exact EndQ.fin (bs' := bs) (h := ⟨(by first | exact Wk.refl _ | exact (by first | exact Wk.refl _ | exact Wk.nil | exact Wk.clip _ | exact Wk.tip _ _ _ | exact Wk.opt _ _ (by first | assumption | rfl) | exact Wk.gr _ _ | exact Wk.nil_gr | exact Wk.trans (Wk.opt _ _ (by first | assumption | rfl)) (by first | exact Wk.gr _ _ | exact Wk.nil | exact Wk.clip _ | exact Wk.tip _ _ _) | exact Wk.aggs (by repeat (first | exact Wks.nil | refine Wks.cons (by first | exact Wk.refl _ | exact Wk.nil | exact Wk.clip _ | exact Wk.tip _ _ _ | exact Wk.gr _ _ | exact Wk.nil_gr) ?_)) rfl) | exact Wk.tups (by repeat (first | exact Wks.nil | refine Wks.cons (by first | exact Wk.refl _ | exact Wk.nil | exact Wk.clip _ | exact Wk.tip _ _ _ | exact Wk.opt _ _ (by first | assumption | rfl) | exact Wk.gr _ _ | exact Wk.nil_gr | exact Wk.trans (Wk.opt _ _ (by first | assumption | rfl)) (by first | exact Wk.gr _ _ | exact Wk.nil | exact Wk.clip _ | exact Wk.tip _ _ _) | exact Wk.aggs (by repeat (first | exact Wks.nil | refine Wks.cons (by first | exact Wk.refl _ | exact Wk.nil | exact Wk.clip _ | exact Wk.tip _ _ _ | exact Wk.gr _ _ | exact Wk.nil_gr) ?_)) rfl) ?_))), rfl⟩) (hs := (by repeat (first | exact List.Sublist.refl _ | apply List.Sublist.cons | apply Sl.gB)))
        · replace hF := cnd_f hc53 hF
          (repeat refine gc (h := ?_))
          obtain ⟨he54, hF⟩ := ens hF
          (repeat refine gc (h := ?_))
          refine AW.region ?_
          (repeat refine gl (h := ?_))
          (repeat refine gc (h := ?_))
          exact lpQ1_0.n (s32 + 1) (some_inj hF) trivial (by repeat (first | exact Sub.nil | refine Sub.cons (k := ?_))) (by repeat (first | exact List.Sublist.refl _ | apply List.Sublist.cons | apply Sl.gB))
      · replace hF := cnd_f hc42 hF
        have hc42p := of_decide_eq_false hc42
        (repeat refine gc (h := ?_))
        obtain rfl := some_inj hF
        (repeat refine gc (h := ?_))
        refine lpQ1_0.e _ rfl (fun ho39 => ?_)
        (repeat refine gc (h := ?_))
        exact jnQ1_0.n s32 ho39 (by repeat (first | exact Sub.nil | refine Sub.cons (k := ?_))) (by repeat (first | exact List.Sublist.refl _ | apply List.Sublist.cons | apply Sl.gB))
    · obtain rfl := hs55.symm
      replace hF := hO35
      try dsimp only at hF
      (repeat refine gc (h := ?_))
      (repeat refine gc (h := ?_))
      refine AW.region ?_
      (repeat refine gl (h := ?_))
      obtain rfl := some_inj hF
      (repeat refine gc (h := ?_))
      exact EndQ.fin (bs' := bs) (h := ⟨(by first | exact Wk.refl _ | exact (by first | exact Wk.refl _ | exact Wk.nil | exact Wk.clip _ | exact Wk.tip _ _ _ | exact Wk.opt _ _ (by first | assumption | rfl) | exact Wk.gr _ _ | exact Wk.nil_gr | exact Wk.trans (Wk.opt _ _ (by first | assumption | rfl)) (by first | exact Wk.gr _ _ | exact Wk.nil | exact Wk.clip _ | exact Wk.tip _ _ _) | exact Wk.aggs (by repeat (first | exact Wks.nil | refine Wks.cons (by first | exact Wk.refl _ | exact Wk.nil | exact Wk.clip _ | exact Wk.tip _ _ _ | exact Wk.gr _ _ | exact Wk.nil_gr) ?_)) rfl) | exact Wk.tups (by repeat (first | exact Wks.nil | refine Wks.cons (by first | exact Wk.refl _ | exact Wk.nil | exact Wk.clip _ | exact Wk.tip _ _ _ | exact Wk.opt _ _ (by first | assumption | rfl) | exact Wk.gr _ _ | exact Wk.nil_gr | exact Wk.trans (Wk.opt _ _ (by first | assumption | rfl)) (by first | exact Wk.gr _ _ | exact Wk.nil | exact Wk.clip _ | exact Wk.tip _ _ _) | exact Wk.aggs (by repeat (first | exact Wks.nil | refine Wks.cons (by first | exact Wk.refl _ | exact Wk.nil | exact Wk.clip _ | exact Wk.tip _ _ _ | exact Wk.gr _ _ | exact Wk.nil_gr) ?_)) rfl) ?_))), rfl⟩) (hs := (by repeat (first | exact List.Sublist.refl _ | apply List.Sublist.cons | apply Sl.gB)))

noncomputable def l_slices_Equal_api_Arc_api_Arc_b0 (a0 : List SArc) (a1 : List SArc) (s24 : Int) : Option ((Int) ⊕ (Int ⊕ Bool)) :=
cond (decide (s24 < (a0.length : Int))) (
(idxO a0 s24).bind fun x35 =>
(idxO a1 s24).bind fun x38 =>
cond (!((x35.From == x38.From) && ((x35.To == x38.To) && ((x35.Ledger == x38.Ledger) && (decide (x35.Asset = x38.Asset) && ((x35.Amount == x38.Amount) && true)))))) (
some (.inr (.inr false))) (
(ensure (-9223372036854775808 ≤ s24 + 1 ∧ s24 + 1 ≤ 9223372036854775807)).bind fun _ =>
some (.inl (s24 + 1)))) (
some (.inr (.inl s24)))
noncomputable def l_slices_Equal_api_Arc_api_Arc (a0 : List SArc) (a1 : List SArc) : Option (Bool) :=
cond ((a0.length : Int) != (a1.length : Int)) (
some false) (
Option.bind (loopF (τ := (Int ⊕ Bool)) (fun s : Int => l_slices_Equal_api_Arc_api_Arc_b0 a0 a1 s) 0) fun oo25 => (match oo25 with
| .inl e32 =>
some true
| .inr r30 => some r30))
theorem c_slices_Equal_api_Arc_api_Arc {a0 : List SArc} {a1 : List SArc} {r : Bool} (hF : l_slices_Equal_api_Arc_api_Arc a0 a1 = some r) : APure Try.prog 87 [.sl (a0.map rArc), .sl (a1.map rArc)] (bA r) := fun bs => by
  unfold l_slices_Equal_api_Arc_api_Arc at hF
  refine ACalls.wk ?_
  refine ACalls.in_ Try.func87 Try.ntmps87 (h := ?_)
  (repeat refine gc (h := ?_))
  refine AW.region ?_
  (repeat refine gl (h := ?_))
  (repeat refine gc (h := ?_))
  refine AW.region ?_
  (repeat refine gl (h := ?_))
  (repeat refine gc (h := ?_))
  refine AW.cond (b := ((a0.length : Int) != (a1.length : Int))) rfl (fun hc2 => ?_) (fun hc2 => ?_)
  · replace hF := cnd_t hc2 hF
    (repeat refine gc (h := ?_))
    (repeat refine gc (h := ?_))
    refine AW.region ?_
    (repeat refine gl (h := ?_))
    obtain rfl := some_inj hF
    (repeat refine gc (h := ?_))
    exact EndQ.fin (bs' := bs) (h := ⟨(by first | exact Wk.refl _ | exact (by first | exact Wk.refl _ | exact Wk.nil | exact Wk.clip _ | exact Wk.tip _ _ _ | exact Wk.opt _ _ (by first | assumption | rfl) | exact Wk.gr _ _ | exact Wk.nil_gr | exact Wk.trans (Wk.opt _ _ (by first | assumption | rfl)) (by first | exact Wk.gr _ _ | exact Wk.nil | exact Wk.clip _ | exact Wk.tip _ _ _) | exact Wk.aggs (by repeat (first | exact Wks.nil | refine Wks.cons (by first | exact Wk.refl _ | exact Wk.nil | exact Wk.clip _ | exact Wk.tip _ _ _ | exact Wk.gr _ _ | exact Wk.nil_gr) ?_)) rfl) | exact Wk.tups (by repeat (first | exact Wks.nil | refine Wks.cons (by first | exact Wk.refl _ | exact Wk.nil | exact Wk.clip _ | exact Wk.tip _ _ _ | exact Wk.opt _ _ (by first | assumption | rfl) | exact Wk.gr _ _ | exact Wk.nil_gr | exact Wk.trans (Wk.opt _ _ (by first | assumption | rfl)) (by first | exact Wk.gr _ _ | exact Wk.nil | exact Wk.clip _ | exact Wk.tip _ _ _) | exact Wk.aggs (by repeat (first | exact Wks.nil | refine Wks.cons (by first | exact Wk.refl _ | exact Wk.nil | exact Wk.clip _ | exact Wk.tip _ _ _ | exact Wk.gr _ _ | exact Wk.nil_gr) ?_)) rfl) ?_))), rfl⟩) (hs := (by repeat (first | exact List.Sublist.refl _ | apply List.Sublist.cons | apply Sl.gB)))
  · replace hF := cnd_f hc2 hF
    (repeat refine gc (h := ?_))
    (repeat refine gc (h := ?_))
    refine AW.region ?_
    (repeat refine gl (h := ?_))
    obtain ⟨oo25, hL26, hO27⟩ := bnd hF
    (repeat refine gc (h := ?_))
    refine AW.join1_0 (fun (e32 : Int) => [(0, .sl (a0.map rArc)), (1, .sl (a1.map rArc)), (4, bA false), (12, iA (a0.length : Int)), (13, iA e32)]) (fun (e32 : Int) => bs) (fun (e32 : Int) => oo25 = .inl e32) ?_ (fun e32 hs43 => ?_)
    · (repeat refine gc (h := ?_))
      refine AW.block ?_
      refine AW.loopF1_0 hL26 (fun (s24 : Int) => [(0, .sl (a0.map rArc)), (1, .sl (a1.map rArc)), (4, bA false), (12, iA (a0.length : Int)), (13, iA s24)]) (fun (s24 : Int) => bs) (fun (s24 : Int) => True)  trivial (by repeat (first | exact Sub.nil | refine Sub.cons (k := ?_))) rfl (fun s24 v28 hp29 hF => ?_)
      replace hF : l_slices_Equal_api_Arc_api_Arc_b0 a0 a1 s24 = some v28 := hF
      unfold l_slices_Equal_api_Arc_api_Arc_b0 at hF
      (repeat refine gc (h := ?_))
      (repeat refine gc (h := ?_))
      refine AW.region ?_
      (repeat refine gl (h := ?_))
      (repeat refine gc (h := ?_))
      refine AW.cond (b := (decide (s24 < (a0.length : Int)))) rfl (fun hc34 => ?_) (fun hc34 => ?_)
      · replace hF := cnd_t hc34 hF
        have hc34p := of_decide_eq_true hc34
        (repeat refine gc (h := ?_))
        (repeat refine gc (h := ?_))
        refine AW.block ?_
        (repeat refine gc (h := ?_))
        refine AW.region ?_
        (repeat refine gl (h := ?_))
        obtain ⟨x35, h36, h37, hF⟩ := idx_b hF
        obtain ⟨x38, h39, h40, hF⟩ := idx_b hF
        (repeat refine gc (h := ?_))
        (repeat refine goD (h := ?_))
        try (first | refine ADl.f (hq := fun _ => OpQ.neq_flat (r := ((x35.From == x38.From) && ((x35.To == x38.To) && ((x35.Ledger == x38.Ledger) && (decide (x35.Asset = x38.Asset) && ((x35.Amount == x38.Amount) && true)))))) rfl (by first | exact Wk.refl _ | exact Wk.nil | exact Wk.clip _ | exact Wk.tip _ _ _ | exact Wk.opt _ _ (by first | assumption | rfl) | exact Wk.gr _ _ | exact Wk.nil_gr | exact Wk.trans (Wk.opt _ _ (by first | assumption | rfl)) (by first | exact Wk.gr _ _ | exact Wk.nil | exact Wk.clip _ | exact Wk.tip _ _ _) | exact Wk.aggs (by repeat (first | exact Wks.nil | refine Wks.cons (by first | exact Wk.refl _ | exact Wk.nil | exact Wk.clip _ | exact Wk.tip _ _ _ | exact Wk.gr _ _ | exact Wk.nil_gr) ?_)) rfl) (by first | exact Wk.refl _ | exact Wk.nil | exact Wk.clip _ | exact Wk.tip _ _ _ | exact Wk.opt _ _ (by first | assumption | rfl) | exact Wk.gr _ _ | exact Wk.nil_gr | exact Wk.trans (Wk.opt _ _ (by first | assumption | rfl)) (by first | exact Wk.gr _ _ | exact Wk.nil | exact Wk.clip _ | exact Wk.tip _ _ _) | exact Wk.aggs (by repeat (first | exact Wks.nil | refine Wks.cons (by first | exact Wk.refl _ | exact Wk.nil | exact Wk.clip _ | exact Wk.tip _ _ _ | exact Wk.gr _ _ | exact Wk.nil_gr) ?_)) rfl) (by repeat (first | exact EqF.nil | refine EqF.int (by decide) TI.und rfl rfl ?_ | refine EqF.str (by decide) TI.und rfl rfl ?_))) (h := ?_) | refine ADl.b (hq := OpQ.neq_flat (r := ((x35.From == x38.From) && ((x35.To == x38.To) && ((x35.Ledger == x38.Ledger) && (decide (x35.Asset = x38.Asset) && ((x35.Amount == x38.Amount) && true)))))) rfl (by first | exact Wk.refl _ | exact Wk.nil | exact Wk.clip _ | exact Wk.tip _ _ _ | exact Wk.opt _ _ (by first | assumption | rfl) | exact Wk.gr _ _ | exact Wk.nil_gr | exact Wk.trans (Wk.opt _ _ (by first | assumption | rfl)) (by first | exact Wk.gr _ _ | exact Wk.nil | exact Wk.clip _ | exact Wk.tip _ _ _) | exact Wk.aggs (by repeat (first | exact Wks.nil | refine Wks.cons (by first | exact Wk.refl _ | exact Wk.nil | exact Wk.clip _ | exact Wk.tip _ _ _ | exact Wk.gr _ _ | exact Wk.nil_gr) ?_)) rfl) (by first | exact Wk.refl _ | exact Wk.nil | exact Wk.clip _ | exact Wk.tip _ _ _ | exact Wk.opt _ _ (by first | assumption | rfl) | exact Wk.gr _ _ | exact Wk.nil_gr | exact Wk.trans (Wk.opt _ _ (by first | assumption | rfl)) (by first | exact Wk.gr _ _ | exact Wk.nil | exact Wk.clip _ | exact Wk.tip _ _ _) | exact Wk.aggs (by repeat (first | exact Wks.nil | refine Wks.cons (by first | exact Wk.refl _ | exact Wk.nil | exact Wk.clip _ | exact Wk.tip _ _ _ | exact Wk.gr _ _ | exact Wk.nil_gr) ?_)) rfl) (by repeat (first | exact EqF.nil | refine EqF.int (by decide) TI.und rfl rfl ?_ | refine EqF.str (by decide) TI.und rfl rfl ?_))) (h := ?_))
        (repeat refine goD (h := ?_))
        (repeat refine gc (h := ?_))
        refine AW.cond (b := (!((x35.From == x38.From) && ((x35.To == x38.To) && ((x35.Ledger == x38.Ledger) && (decide (x35.Asset = x38.Asset) && ((x35.Amount == x38.Amount) && true))))))) rfl (fun hc41 => ?_) (fun hc41 => ?_)
        · replace hF := cnd_t hc41 hF
          (repeat refine gc (h := ?_))
          (repeat refine gc (h := ?_))
          refine AW.region ?_
          (repeat refine gl (h := ?_))
          obtain rfl := some_inj hF
          (repeat refine gc (h := ?_))
          refine lpQ1_0.r _ rfl (fun ho31 => ?_)
          subst ho31
          replace hF := hO27
          (repeat refine gc (h := ?_))
          obtain rfl := some_inj hF
          (repeat refine gc (h := ?_))
          exact EndQ.fin (bs' := bs) (h := ⟨(by first | exact Wk.refl _ | exact (by first | exact Wk.refl _ | exact Wk.nil | exact Wk.clip _ | exact Wk.tip _ _ _ | exact Wk.opt _ _ (by first | assumption | rfl) | exact Wk.gr _ _ | exact Wk.nil_gr | exact Wk.trans (Wk.opt _ _ (by first | assumption | rfl)) (by first | exact Wk.gr _ _ | exact Wk.nil | exact Wk.clip _ | exact Wk.tip _ _ _) | exact Wk.aggs (by repeat (first | exact Wks.nil | refine Wks.cons (by first | exact Wk.refl _ | exact Wk.nil | exact Wk.clip _ | exact Wk.tip _ _ _ | exact Wk.gr _ _ | exact Wk.nil_gr) ?_)) rfl) | exact Wk.tups (by repeat (first | exact Wks.nil | refine Wks.cons (by first | exact Wk.refl _ | exact Wk.nil | exact Wk.clip _ | exact Wk.tip _ _ _ | exact Wk.opt _ _ (by first | assumption | rfl) | exact Wk.gr _ _ | exact Wk.nil_gr | exact Wk.trans (Wk.opt _ _ (by first | assumption | rfl)) (by first | exact Wk.gr _ _ | exact Wk.nil | exact Wk.clip _ | exact Wk.tip _ _ _) | exact Wk.aggs (by repeat (first | exact Wks.nil | refine Wks.cons (by first | exact Wk.refl _ | exact Wk.nil | exact Wk.clip _ | exact Wk.tip _ _ _ | exact Wk.gr _ _ | exact Wk.nil_gr) ?_)) rfl) ?_))), rfl⟩) (hs := (by repeat (first | exact List.Sublist.refl _ | apply List.Sublist.cons | apply Sl.gB)))
        · replace hF := cnd_f hc41 hF
          (repeat refine gc (h := ?_))
          obtain ⟨he42, hF⟩ := ens hF
          (repeat refine gc (h := ?_))
          refine AW.region ?_
          (repeat refine gl (h := ?_))
          (repeat refine gc (h := ?_))
          exact lpQ1_0.n (s24 + 1) (some_inj hF) trivial (by repeat (first | exact Sub.nil | refine Sub.cons (k := ?_))) (by repeat (first | exact List.Sublist.refl _ | apply List.Sublist.cons | apply Sl.gB))
      · replace hF := cnd_f hc34 hF
        have hc34p := of_decide_eq_false hc34
        (repeat refine gc (h := ?_))
        obtain rfl := some_inj hF
        (repeat refine gc (h := ?_))
        refine lpQ1_0.e _ rfl (fun ho31 => ?_)
        (repeat refine gc (h := ?_))
        exact jnQ1_0.n s24 ho31 (by repeat (first | exact Sub.nil | refine Sub.cons (k := ?_))) (by repeat (first | exact List.Sublist.refl _ | apply List.Sublist.cons | apply Sl.gB))
    · obtain rfl := hs43.symm
      replace hF := hO27
      try dsimp only at hF
      (repeat refine gc (h := ?_))
      (repeat refine gc (h := ?_))
      refine AW.region ?_
      (repeat refine gl (h := ?_))
      obtain rfl := some_inj hF
      (repeat refine gc (h := ?_))
      exact EndQ.fin (bs' := bs) (h := ⟨(by first | exact Wk.refl _ | exact (by first | exact Wk.refl _ | exact Wk.nil | exact Wk.clip _ | exact Wk.tip _ _ _ | exact Wk.opt _ _ (by first | assumption | rfl) | exact Wk.gr _ _ | exact Wk.nil_gr | exact Wk.trans (Wk.opt _ _ (by first | assumption | rfl)) (by first | exact Wk.gr _ _ | exact Wk.nil | exact Wk.clip _ | exact Wk.tip _ _ _) | exact Wk.aggs (by repeat (first | exact Wks.nil | refine Wks.cons (by first | exact Wk.refl _ | exact Wk.nil | exact Wk.clip _ | exact Wk.tip _ _ _ | exact Wk.gr _ _ | exact Wk.nil_gr) ?_)) rfl) | exact Wk.tups (by repeat (first | exact Wks.nil | refine Wks.cons (by first | exact Wk.refl _ | exact Wk.nil | exact Wk.clip _ | exact Wk.tip _ _ _ | exact Wk.opt _ _ (by first | assumption | rfl) | exact Wk.gr _ _ | exact Wk.nil_gr | exact Wk.trans (Wk.opt _ _ (by first | assumption | rfl)) (by first | exact Wk.gr _ _ | exact Wk.nil | exact Wk.clip _ | exact Wk.tip _ _ _) | exact Wk.aggs (by repeat (first | exact Wks.nil | refine Wks.cons (by first | exact Wk.refl _ | exact Wk.nil | exact Wk.clip _ | exact Wk.tip _ _ _ | exact Wk.gr _ _ | exact Wk.nil_gr) ?_)) rfl) ?_))), rfl⟩) (hs := (by repeat (first | exact List.Sublist.refl _ | apply List.Sublist.cons | apply Sl.gB)))

noncomputable def l_slices_Equal_int_int_b0 (a0 : List Int) (a1 : List Int) (s24 : Int) : Option ((Int) ⊕ (Int ⊕ Bool)) :=
cond (decide (s24 < (a0.length : Int))) (
(idxO a0 s24).bind fun x35 =>
(idxO a1 s24).bind fun x38 =>
cond (x35 != x38) (
some (.inr (.inr false))) (
(ensure (-9223372036854775808 ≤ s24 + 1 ∧ s24 + 1 ≤ 9223372036854775807)).bind fun _ =>
some (.inl (s24 + 1)))) (
some (.inr (.inl s24)))
noncomputable def l_slices_Equal_int_int (a0 : List Int) (a1 : List Int) : Option (Bool) :=
cond ((a0.length : Int) != (a1.length : Int)) (
some false) (
Option.bind (loopF (τ := (Int ⊕ Bool)) (fun s : Int => l_slices_Equal_int_int_b0 a0 a1 s) 0) fun oo25 => (match oo25 with
| .inl e32 =>
some true
| .inr r30 => some r30))
theorem c_slices_Equal_int_int {a0 : List Int} {a1 : List Int} {r : Bool} (hF : l_slices_Equal_int_int a0 a1 = some r) : APure Try.prog 88 [.sl (a0.map intR), .sl (a1.map intR)] (bA r) := fun bs => by
  unfold l_slices_Equal_int_int at hF
  refine ACalls.wk ?_
  refine ACalls.in_ Try.func88 Try.ntmps88 (h := ?_)
  (repeat refine gc (h := ?_))
  refine AW.region ?_
  (repeat refine gl (h := ?_))
  (repeat refine gc (h := ?_))
  refine AW.region ?_
  (repeat refine gl (h := ?_))
  (repeat refine gc (h := ?_))
  refine AW.cond (b := ((a0.length : Int) != (a1.length : Int))) rfl (fun hc2 => ?_) (fun hc2 => ?_)
  · replace hF := cnd_t hc2 hF
    (repeat refine gc (h := ?_))
    (repeat refine gc (h := ?_))
    refine AW.region ?_
    (repeat refine gl (h := ?_))
    obtain rfl := some_inj hF
    (repeat refine gc (h := ?_))
    exact EndQ.fin (bs' := bs) (h := ⟨(by first | exact Wk.refl _ | exact (by first | exact Wk.refl _ | exact Wk.nil | exact Wk.clip _ | exact Wk.tip _ _ _ | exact Wk.opt _ _ (by first | assumption | rfl) | exact Wk.gr _ _ | exact Wk.nil_gr | exact Wk.trans (Wk.opt _ _ (by first | assumption | rfl)) (by first | exact Wk.gr _ _ | exact Wk.nil | exact Wk.clip _ | exact Wk.tip _ _ _) | exact Wk.aggs (by repeat (first | exact Wks.nil | refine Wks.cons (by first | exact Wk.refl _ | exact Wk.nil | exact Wk.clip _ | exact Wk.tip _ _ _ | exact Wk.gr _ _ | exact Wk.nil_gr) ?_)) rfl) | exact Wk.tups (by repeat (first | exact Wks.nil | refine Wks.cons (by first | exact Wk.refl _ | exact Wk.nil | exact Wk.clip _ | exact Wk.tip _ _ _ | exact Wk.opt _ _ (by first | assumption | rfl) | exact Wk.gr _ _ | exact Wk.nil_gr | exact Wk.trans (Wk.opt _ _ (by first | assumption | rfl)) (by first | exact Wk.gr _ _ | exact Wk.nil | exact Wk.clip _ | exact Wk.tip _ _ _) | exact Wk.aggs (by repeat (first | exact Wks.nil | refine Wks.cons (by first | exact Wk.refl _ | exact Wk.nil | exact Wk.clip _ | exact Wk.tip _ _ _ | exact Wk.gr _ _ | exact Wk.nil_gr) ?_)) rfl) ?_))), rfl⟩) (hs := (by repeat (first | exact List.Sublist.refl _ | apply List.Sublist.cons | apply Sl.gB)))
  · replace hF := cnd_f hc2 hF
    (repeat refine gc (h := ?_))
    (repeat refine gc (h := ?_))
    refine AW.region ?_
    (repeat refine gl (h := ?_))
    obtain ⟨oo25, hL26, hO27⟩ := bnd hF
    (repeat refine gc (h := ?_))
    refine AW.join1_0 (fun (e32 : Int) => [(0, .sl (a0.map intR)), (1, .sl (a1.map intR)), (4, bA false), (12, iA (a0.length : Int)), (13, iA e32)]) (fun (e32 : Int) => bs) (fun (e32 : Int) => oo25 = .inl e32) ?_ (fun e32 hs43 => ?_)
    · (repeat refine gc (h := ?_))
      refine AW.block ?_
      refine AW.loopF1_0 hL26 (fun (s24 : Int) => [(0, .sl (a0.map intR)), (1, .sl (a1.map intR)), (4, bA false), (12, iA (a0.length : Int)), (13, iA s24)]) (fun (s24 : Int) => bs) (fun (s24 : Int) => True)  trivial (by repeat (first | exact Sub.nil | refine Sub.cons (k := ?_))) rfl (fun s24 v28 hp29 hF => ?_)
      replace hF : l_slices_Equal_int_int_b0 a0 a1 s24 = some v28 := hF
      unfold l_slices_Equal_int_int_b0 at hF
      (repeat refine gc (h := ?_))
      (repeat refine gc (h := ?_))
      refine AW.region ?_
      (repeat refine gl (h := ?_))
      (repeat refine gc (h := ?_))
      refine AW.cond (b := (decide (s24 < (a0.length : Int)))) rfl (fun hc34 => ?_) (fun hc34 => ?_)
      · replace hF := cnd_t hc34 hF
        have hc34p := of_decide_eq_true hc34
        (repeat refine gc (h := ?_))
        (repeat refine gc (h := ?_))
        refine AW.block ?_
        (repeat refine gc (h := ?_))
        refine AW.region ?_
        (repeat refine gl (h := ?_))
        obtain ⟨x35, h36, h37, hF⟩ := idx_b hF
        obtain ⟨x38, h39, h40, hF⟩ := idx_b hF
        (repeat refine gc (h := ?_))
        (repeat refine goD (h := ?_))
        (repeat refine gc (h := ?_))
        refine AW.cond (b := (x35 != x38)) rfl (fun hc41 => ?_) (fun hc41 => ?_)
        · replace hF := cnd_t hc41 hF
          (repeat refine gc (h := ?_))
          (repeat refine gc (h := ?_))
          refine AW.region ?_
          (repeat refine gl (h := ?_))
          obtain rfl := some_inj hF
          (repeat refine gc (h := ?_))
          refine lpQ1_0.r _ rfl (fun ho31 => ?_)
          subst ho31
          replace hF := hO27
          (repeat refine gc (h := ?_))
          obtain rfl := some_inj hF
          (repeat refine gc (h := ?_))
          exact EndQ.fin (bs' := bs) (h := ⟨(by first | exact Wk.refl _ | exact (by first | exact Wk.refl _ | exact Wk.nil | exact Wk.clip _ | exact Wk.tip _ _ _ | exact Wk.opt _ _ (by first | assumption | rfl) | exact Wk.gr _ _ | exact Wk.nil_gr | exact Wk.trans (Wk.opt _ _ (by first | assumption | rfl)) (by first | exact Wk.gr _ _ | exact Wk.nil | exact Wk.clip _ | exact Wk.tip _ _ _) | exact Wk.aggs (by repeat (first | exact Wks.nil | refine Wks.cons (by first | exact Wk.refl _ | exact Wk.nil | exact Wk.clip _ | exact Wk.tip _ _ _ | exact Wk.gr _ _ | exact Wk.nil_gr) ?_)) rfl) | exact Wk.tups (by repeat (first | exact Wks.nil | refine Wks.cons (by first | exact Wk.refl _ | exact Wk.nil | exact Wk.clip _ | exact Wk.tip _ _ _ | exact Wk.opt _ _ (by first | assumption | rfl) | exact Wk.gr _ _ | exact Wk.nil_gr | exact Wk.trans (Wk.opt _ _ (by first | assumption | rfl)) (by first | exact Wk.gr _ _ | exact Wk.nil | exact Wk.clip _ | exact Wk.tip _ _ _) | exact Wk.aggs (by repeat (first | exact Wks.nil | refine Wks.cons (by first | exact Wk.refl _ | exact Wk.nil | exact Wk.clip _ | exact Wk.tip _ _ _ | exact Wk.gr _ _ | exact Wk.nil_gr) ?_)) rfl) ?_))), rfl⟩) (hs := (by repeat (first | exact List.Sublist.refl _ | apply List.Sublist.cons | apply Sl.gB)))
        · replace hF := cnd_f hc41 hF
          (repeat refine gc (h := ?_))
          obtain ⟨he42, hF⟩ := ens hF
          (repeat refine gc (h := ?_))
          refine AW.region ?_
          (repeat refine gl (h := ?_))
          (repeat refine gc (h := ?_))
          exact lpQ1_0.n (s24 + 1) (some_inj hF) trivial (by repeat (first | exact Sub.nil | refine Sub.cons (k := ?_))) (by repeat (first | exact List.Sublist.refl _ | apply List.Sublist.cons | apply Sl.gB))
      · replace hF := cnd_f hc34 hF
        have hc34p := of_decide_eq_false hc34
        (repeat refine gc (h := ?_))
        obtain rfl := some_inj hF
        (repeat refine gc (h := ?_))
        refine lpQ1_0.e _ rfl (fun ho31 => ?_)
        (repeat refine gc (h := ?_))
        exact jnQ1_0.n s24 ho31 (by repeat (first | exact Sub.nil | refine Sub.cons (k := ?_))) (by repeat (first | exact List.Sublist.refl _ | apply List.Sublist.cons | apply Sl.gB))
    · obtain rfl := hs43.symm
      replace hF := hO27
      try dsimp only at hF
      (repeat refine gc (h := ?_))
      (repeat refine gc (h := ?_))
      refine AW.region ?_
      (repeat refine gl (h := ?_))
      obtain rfl := some_inj hF
      (repeat refine gc (h := ?_))
      exact EndQ.fin (bs' := bs) (h := ⟨(by first | exact Wk.refl _ | exact (by first | exact Wk.refl _ | exact Wk.nil | exact Wk.clip _ | exact Wk.tip _ _ _ | exact Wk.opt _ _ (by first | assumption | rfl) | exact Wk.gr _ _ | exact Wk.nil_gr | exact Wk.trans (Wk.opt _ _ (by first | assumption | rfl)) (by first | exact Wk.gr _ _ | exact Wk.nil | exact Wk.clip _ | exact Wk.tip _ _ _) | exact Wk.aggs (by repeat (first | exact Wks.nil | refine Wks.cons (by first | exact Wk.refl _ | exact Wk.nil | exact Wk.clip _ | exact Wk.tip _ _ _ | exact Wk.gr _ _ | exact Wk.nil_gr) ?_)) rfl) | exact Wk.tups (by repeat (first | exact Wks.nil | refine Wks.cons (by first | exact Wk.refl _ | exact Wk.nil | exact Wk.clip _ | exact Wk.tip _ _ _ | exact Wk.opt _ _ (by first | assumption | rfl) | exact Wk.gr _ _ | exact Wk.nil_gr | exact Wk.trans (Wk.opt _ _ (by first | assumption | rfl)) (by first | exact Wk.gr _ _ | exact Wk.nil | exact Wk.clip _ | exact Wk.tip _ _ _) | exact Wk.aggs (by repeat (first | exact Wks.nil | refine Wks.cons (by first | exact Wk.refl _ | exact Wk.nil | exact Wk.clip _ | exact Wk.tip _ _ _ | exact Wk.gr _ _ | exact Wk.nil_gr) ?_)) rfl) ?_))), rfl⟩) (hs := (by repeat (first | exact List.Sublist.refl _ | apply List.Sublist.cons | apply Sl.gB)))

noncomputable def l_spec_Same (a0 : SSpec) (a1 : SSpec) : Option (Bool) :=
(grd ((decide (a0.ID = a1.ID))) (l_slices_EqualFunc_api_Party_api_Party_api_Party_api_Party__spec_Same_1 a0.Parties a1.Parties)).bind fun x3 =>
(grd (((decide (a0.ID = a1.ID)) && x3)) (l_slices_Equal_api_Arc_api_Arc a0.Arcs a1.Arcs)).bind fun x5 =>
(grd ((((decide (a0.ID = a1.ID)) && x3) && x5)) (l_slices_Equal_int_int a0.Leaders a1.Leaders)).bind fun x7 =>
(grd (((((decide (a0.ID = a1.ID)) && x3) && x5) && x7)) (l_slices_Equal_string_string a0.Locks a1.Locks)).bind fun x9 =>
some (((((((decide (a0.ID = a1.ID)) && x3) && x5) && x7) && x9) && (a0.Start == a1.Start)) && (a0.Delta == a1.Delta))
theorem c_spec_Same {a0 : SSpec} {a1 : SSpec} {r : Bool} (hF : l_spec_Same a0 a1 = some r) : APure Try.prog 70 [.agg (rSpec a0), .agg (rSpec a1)] (bA r) := fun bs => by
  unfold l_spec_Same at hF
  refine ACalls.wk ?_
  refine ACalls.in_ Try.func70 Try.ntmps70 (h := ?_)
  (repeat refine gc (h := ?_))
  refine AW.region ?_
  (repeat refine gl (h := ?_))
  intro g1
  (repeat refine gl (h := ?_))
  intro g2
  (repeat refine gl (h := ?_))
  (repeat refine gc (h := ?_))
  refine AW.region ?_
  (repeat refine gl (h := ?_))
  obtain ⟨x3, hc4, hF⟩ := grd_b hF
  obtain ⟨x5, hc6, hF⟩ := grd_b hF
  obtain ⟨x7, hc8, hF⟩ := grd_b hF
  obtain ⟨x9, hc10, hF⟩ := grd_b hF
  (repeat refine gc (h := ?_))
  refine AW.region ?_
  show AL _ _ _ _ (_ :: _) _ _
  ((repeat (show AL _ _ _ _ (_ :: _) _ _; refine gl (h := ?_))); try show AL _ _ _ _ (_ :: _) _ _)
  refine AL.gd (hq := fun hgb => OpQ.c (c_slices_EqualFunc_api_Party_api_Party_api_Party_api_Party__spec_Same_1 (hc4 hgb))) (h := ?_)
  ((repeat (show AL _ _ _ _ (_ :: _) _ _; refine gl (h := ?_))); try show AL _ _ _ _ (_ :: _) _ _)
  refine AL.gd (hq := fun hgb => OpQ.c (c_slices_Equal_api_Arc_api_Arc (hc6 hgb))) (h := ?_)
  ((repeat (show AL _ _ _ _ (_ :: _) _ _; refine gl (h := ?_))); try show AL _ _ _ _ (_ :: _) _ _)
  refine AL.gd (hq := fun hgb => OpQ.c (c_slices_Equal_int_int (hc8 hgb))) (h := ?_)
  ((repeat (show AL _ _ _ _ (_ :: _) _ _; refine gl (h := ?_))); try show AL _ _ _ _ (_ :: _) _ _)
  refine AL.gd (hq := fun hgb => OpQ.c (c_slices_Equal_string_string (hc10 hgb))) (h := ?_)
  ((repeat (show AL _ _ _ _ (_ :: _) _ _; refine gl (h := ?_))); try show AL _ _ _ _ (_ :: _) _ _)
  (repeat refine gl (h := ?_))
  obtain rfl := some_inj hF
  (repeat refine gc (h := ?_))
  exact EndQ.fin (bs' := bs) (h := ⟨(by first | exact Wk.refl _ | exact (by first | exact Wk.refl _ | exact Wk.nil | exact Wk.clip _ | exact Wk.tip _ _ _ | exact Wk.opt _ _ (by first | assumption | rfl) | exact Wk.gr _ _ | exact Wk.nil_gr | exact Wk.trans (Wk.opt _ _ (by first | assumption | rfl)) (by first | exact Wk.gr _ _ | exact Wk.nil | exact Wk.clip _ | exact Wk.tip _ _ _) | exact Wk.aggs (by repeat (first | exact Wks.nil | refine Wks.cons (by first | exact Wk.refl _ | exact Wk.nil | exact Wk.clip _ | exact Wk.tip _ _ _ | exact Wk.gr _ _ | exact Wk.nil_gr) ?_)) rfl) | exact Wk.tups (by repeat (first | exact Wks.nil | refine Wks.cons (by first | exact Wk.refl _ | exact Wk.nil | exact Wk.clip _ | exact Wk.tip _ _ _ | exact Wk.opt _ _ (by first | assumption | rfl) | exact Wk.gr _ _ | exact Wk.nil_gr | exact Wk.trans (Wk.opt _ _ (by first | assumption | rfl)) (by first | exact Wk.gr _ _ | exact Wk.nil | exact Wk.clip _ | exact Wk.tip _ _ _) | exact Wk.aggs (by repeat (first | exact Wks.nil | refine Wks.cons (by first | exact Wk.refl _ | exact Wk.nil | exact Wk.clip _ | exact Wk.tip _ _ _ | exact Wk.gr _ _ | exact Wk.nil_gr) ?_)) rfl) ?_))), rfl⟩) (hs := (by repeat (first | exact List.Sublist.refl _ | apply List.Sublist.cons | apply Sl.gB)))

noncomputable def l_bank_key (a0 : SHashkey) (a1 : SHashkey) : Option (Bool) :=
(grd (((a0.Lock == a1.Lock) && (decide (a0.Secret = a1.Secret)))) (l_slices_Equal_int_int a0.Path a1.Path)).bind fun x3 =>
(grd ((((a0.Lock == a1.Lock) && (decide (a0.Secret = a1.Secret))) && x3)) (l_slices_Equal_string_string a0.Sigs a1.Sigs)).bind fun x5 =>
some ((((a0.Lock == a1.Lock) && (decide (a0.Secret = a1.Secret))) && x3) && x5)
theorem c_bank_key {a0 : SHashkey} {a1 : SHashkey} {r : Bool} (hF : l_bank_key a0 a1 = some r) : APure Try.prog 72 [.agg (rHashkey a0), .agg (rHashkey a1)] (bA r) := fun bs => by
  unfold l_bank_key at hF
  refine ACalls.wk ?_
  refine ACalls.in_ Try.func72 Try.ntmps72 (h := ?_)
  (repeat refine gc (h := ?_))
  refine AW.region ?_
  (repeat refine gl (h := ?_))
  intro g1
  (repeat refine gl (h := ?_))
  intro g2
  (repeat refine gl (h := ?_))
  obtain ⟨x3, hc4, hF⟩ := grd_b hF
  obtain ⟨x5, hc6, hF⟩ := grd_b hF
  (repeat refine gc (h := ?_))
  refine AW.region ?_
  show AL _ _ _ _ (_ :: _) _ _
  ((repeat (show AL _ _ _ _ (_ :: _) _ _; refine gl (h := ?_))); try show AL _ _ _ _ (_ :: _) _ _)
  refine AL.gd (hq := fun hgb => OpQ.c (c_slices_Equal_int_int (hc4 hgb))) (h := ?_)
  ((repeat (show AL _ _ _ _ (_ :: _) _ _; refine gl (h := ?_))); try show AL _ _ _ _ (_ :: _) _ _)
  refine AL.gd (hq := fun hgb => OpQ.c (c_slices_Equal_string_string (hc6 hgb))) (h := ?_)
  ((repeat (show AL _ _ _ _ (_ :: _) _ _; refine gl (h := ?_))); try show AL _ _ _ _ (_ :: _) _ _)
  (repeat refine gl (h := ?_))
  obtain rfl := some_inj hF
  (repeat refine gc (h := ?_))
  exact EndQ.fin (bs' := bs) (h := ⟨(by first | exact Wk.refl _ | exact (by first | exact Wk.refl _ | exact Wk.nil | exact Wk.clip _ | exact Wk.tip _ _ _ | exact Wk.opt _ _ (by first | assumption | rfl) | exact Wk.gr _ _ | exact Wk.nil_gr | exact Wk.trans (Wk.opt _ _ (by first | assumption | rfl)) (by first | exact Wk.gr _ _ | exact Wk.nil | exact Wk.clip _ | exact Wk.tip _ _ _) | exact Wk.aggs (by repeat (first | exact Wks.nil | refine Wks.cons (by first | exact Wk.refl _ | exact Wk.nil | exact Wk.clip _ | exact Wk.tip _ _ _ | exact Wk.gr _ _ | exact Wk.nil_gr) ?_)) rfl) | exact Wk.tups (by repeat (first | exact Wks.nil | refine Wks.cons (by first | exact Wk.refl _ | exact Wk.nil | exact Wk.clip _ | exact Wk.tip _ _ _ | exact Wk.opt _ _ (by first | assumption | rfl) | exact Wk.gr _ _ | exact Wk.nil_gr | exact Wk.trans (Wk.opt _ _ (by first | assumption | rfl)) (by first | exact Wk.gr _ _ | exact Wk.nil | exact Wk.clip _ | exact Wk.tip _ _ _) | exact Wk.aggs (by repeat (first | exact Wks.nil | refine Wks.cons (by first | exact Wk.refl _ | exact Wk.nil | exact Wk.clip _ | exact Wk.tip _ _ _ | exact Wk.gr _ _ | exact Wk.nil_gr) ?_)) rfl) ?_))), rfl⟩) (hs := (by repeat (first | exact List.Sublist.refl _ | apply List.Sublist.cons | apply Sl.gB)))

noncomputable def l_slices_EqualFunc_api_Hashkey_api_Hashkey_api_Hashkey_api_Hashkey__bank_key_b0 (a0 : List SHashkey) (a1 : List SHashkey) (s32 : Int) : Option ((Int) ⊕ (Int ⊕ Bool)) :=
cond (decide (s32 < (a0.length : Int))) (
(idxO a0 s32).bind fun x43 =>
(idxO a1 s32).bind fun x47 =>
(l_bank_key x43 x47).bind fun x51 =>
cond (!x51) (
some (.inr (.inr false))) (
(ensure (-9223372036854775808 ≤ s32 + 1 ∧ s32 + 1 ≤ 9223372036854775807)).bind fun _ =>
some (.inl (s32 + 1)))) (
some (.inr (.inl s32)))
noncomputable def l_slices_EqualFunc_api_Hashkey_api_Hashkey_api_Hashkey_api_Hashkey__bank_key (a0 : List SHashkey) (a1 : List SHashkey) : Option (Bool) :=
cond ((a0.length : Int) != (a1.length : Int)) (
some false) (
Option.bind (loopF (τ := (Int ⊕ Bool)) (fun s : Int => l_slices_EqualFunc_api_Hashkey_api_Hashkey_api_Hashkey_api_Hashkey__bank_key_b0 a0 a1 s) 0) fun oo33 => (match oo33 with
| .inl e40 =>
some true
| .inr r38 => some r38))
theorem c_slices_EqualFunc_api_Hashkey_api_Hashkey_api_Hashkey_api_Hashkey__bank_key {a0 : List SHashkey} {a1 : List SHashkey} {r : Bool} (hF : l_slices_EqualFunc_api_Hashkey_api_Hashkey_api_Hashkey_api_Hashkey__bank_key a0 a1 = some r) : APure Try.prog 71 [.sl (a0.map rHashkey), .sl (a1.map rHashkey), .fn (.func 72) [] []] (bA r) := fun bs => by
  unfold l_slices_EqualFunc_api_Hashkey_api_Hashkey_api_Hashkey_api_Hashkey__bank_key at hF
  refine ACalls.wk ?_
  refine ACalls.in_ Try.func71 Try.ntmps71 (h := ?_)
  (repeat refine gc (h := ?_))
  refine AW.region ?_
  (repeat refine gl (h := ?_))
  (repeat refine gc (h := ?_))
  refine AW.region ?_
  (repeat refine gl (h := ?_))
  (repeat refine gc (h := ?_))
  refine AW.cond (b := ((a0.length : Int) != (a1.length : Int))) rfl (fun hc2 => ?_) (fun hc2 => ?_)
  · replace hF := cnd_t hc2 hF
    (repeat refine gc (h := ?_))
    (repeat refine gc (h := ?_))
    refine AW.region ?_
    (repeat refine gl (h := ?_))
    obtain rfl := some_inj hF
    (repeat refine gc (h := ?_))
    exact EndQ.fin (bs' := bs) (h := ⟨(by first | exact Wk.refl _ | exact (by first | exact Wk.refl _ | exact Wk.nil | exact Wk.clip _ | exact Wk.tip _ _ _ | exact Wk.opt _ _ (by first | assumption | rfl) | exact Wk.gr _ _ | exact Wk.nil_gr | exact Wk.trans (Wk.opt _ _ (by first | assumption | rfl)) (by first | exact Wk.gr _ _ | exact Wk.nil | exact Wk.clip _ | exact Wk.tip _ _ _) | exact Wk.aggs (by repeat (first | exact Wks.nil | refine Wks.cons (by first | exact Wk.refl _ | exact Wk.nil | exact Wk.clip _ | exact Wk.tip _ _ _ | exact Wk.gr _ _ | exact Wk.nil_gr) ?_)) rfl) | exact Wk.tups (by repeat (first | exact Wks.nil | refine Wks.cons (by first | exact Wk.refl _ | exact Wk.nil | exact Wk.clip _ | exact Wk.tip _ _ _ | exact Wk.opt _ _ (by first | assumption | rfl) | exact Wk.gr _ _ | exact Wk.nil_gr | exact Wk.trans (Wk.opt _ _ (by first | assumption | rfl)) (by first | exact Wk.gr _ _ | exact Wk.nil | exact Wk.clip _ | exact Wk.tip _ _ _) | exact Wk.aggs (by repeat (first | exact Wks.nil | refine Wks.cons (by first | exact Wk.refl _ | exact Wk.nil | exact Wk.clip _ | exact Wk.tip _ _ _ | exact Wk.gr _ _ | exact Wk.nil_gr) ?_)) rfl) ?_))), rfl⟩) (hs := (by repeat (first | exact List.Sublist.refl _ | apply List.Sublist.cons | apply Sl.gB)))
  · replace hF := cnd_f hc2 hF
    (repeat refine gc (h := ?_))
    (repeat refine gc (h := ?_))
    refine AW.region ?_
    (repeat refine gl (h := ?_))
    obtain ⟨oo33, hL34, hO35⟩ := bnd hF
    (repeat refine gc (h := ?_))
    refine AW.join1_0 (fun (e40 : Int) => [(0, .sl (a0.map rHashkey)), (1, .sl (a1.map rHashkey)), (2, .fn (.func 72) [] []), (6, bA false), (15, .sl (a0.map rHashkey)), (16, iA (a0.length : Int)), (17, iA e40)]) (fun (e40 : Int) => bs) (fun (e40 : Int) => oo33 = .inl e40) ?_ (fun e40 hs55 => ?_)
    · (repeat refine gc (h := ?_))
      refine AW.block ?_
      refine AW.loopF1_0 hL34 (fun (s32 : Int) => [(0, .sl (a0.map rHashkey)), (1, .sl (a1.map rHashkey)), (2, .fn (.func 72) [] []), (6, bA false), (15, .sl (a0.map rHashkey)), (16, iA (a0.length : Int)), (17, iA s32)]) (fun (s32 : Int) => bs) (fun (s32 : Int) => True)  trivial (by repeat (first | exact Sub.nil | refine Sub.cons (k := ?_))) rfl (fun s32 v36 hp37 hF => ?_)
      replace hF : l_slices_EqualFunc_api_Hashkey_api_Hashkey_api_Hashkey_api_Hashkey__bank_key_b0 a0 a1 s32 = some v36 := hF
      unfold l_slices_EqualFunc_api_Hashkey_api_Hashkey_api_Hashkey_api_Hashkey__bank_key_b0 at hF
      (repeat refine gc (h := ?_))
      (repeat refine gc (h := ?_))
      refine AW.region ?_
      (repeat refine gl (h := ?_))
      (repeat refine gc (h := ?_))
      refine AW.cond (b := (decide (s32 < (a0.length : Int)))) rfl (fun hc42 => ?_) (fun hc42 => ?_)
      · replace hF := cnd_t hc42 hF
        have hc42p := of_decide_eq_true hc42
        (repeat refine gc (h := ?_))
        (repeat refine gc (h := ?_))
        refine AW.block ?_
        obtain ⟨x43, h44, h45, hF⟩ := idx_b hF
        (repeat refine gc (h := ?_))
        refine AW.region ?_
        (repeat refine gl (h := ?_))
        intro g46
        (repeat refine gl (h := ?_))
        obtain ⟨x47, h48, h49, hF⟩ := idx_b hF
        (repeat refine gc (h := ?_))
        refine AW.region ?_
        (repeat refine gl (h := ?_))
        intro g50
        (repeat refine gl (h := ?_))
        obtain ⟨x51, hc52, hF⟩ := bnd hF
        (repeat refine gc (h := ?_))
        refine AW.region ?_
        (repeat refine gl (h := ?_))
        refine AL.s (hq := OpQ.cv (c_bank_key hc52)) (h := ?_)
        (repeat refine gl (h := ?_))
        (repeat refine gc (h := ?_))
        refine AW.cond (b := (!x51)) rfl (fun hc53 => ?_) (fun hc53 => ?_)
        · replace hF := cnd_t hc53 hF
          (repeat refine gc (h := ?_))
          (repeat refine gc (h := ?_))
          refine AW.region ?_
          (repeat refine gl (h := ?_))
          obtain rfl := some_inj hF
          (repeat refine gc (h := ?_))
          refine lpQ1_0.r _ rfl (fun ho39 => ?_)
          subst ho39
          replace hF := hO35
          (repeat refine gc (h := ?_))
          obtain rfl := some_inj hF
          (repeat refine gc (h := ?_))
          exact EndQ.fin (bs' := bs) (h := ⟨(by first | exact Wk.refl _ | exact (by first | exact Wk.refl _ | exact Wk.nil | exact Wk.clip _ | exact Wk.tip _ _ _ | exact Wk.opt _ _ (by first | assumption | rfl) | exact Wk.gr _ _ | exact Wk.nil_gr | exact Wk.trans (Wk.opt _ _ (by first | assumption | rfl)) (by first | exact Wk.gr _ _ | exact Wk.nil | exact Wk.clip _ | exact Wk.tip _ _ _) | exact Wk.aggs (by repeat (first | exact Wks.nil | refine Wks.cons (by first | exact Wk.refl _ | exact Wk.nil | exact Wk.clip _ | exact Wk.tip _ _ _ | exact Wk.gr _ _ | exact Wk.nil_gr) ?_)) rfl) | exact Wk.tups (by repeat (first | exact Wks.nil | refine Wks.cons (by first | exact Wk.refl _ | exact Wk.nil | exact Wk.clip _ | exact Wk.tip _ _ _ | exact Wk.opt _ _ (by first | assumption | rfl) | exact Wk.gr _ _ | exact Wk.nil_gr | exact Wk.trans (Wk.opt _ _ (by first | assumption | rfl)) (by first | exact Wk.gr _ _ | exact Wk.nil | exact Wk.clip _ | exact Wk.tip _ _ _) | exact Wk.aggs (by repeat (first | exact Wks.nil | refine Wks.cons (by first | exact Wk.refl _ | exact Wk.nil | exact Wk.clip _ | exact Wk.tip _ _ _ | exact Wk.gr _ _ | exact Wk.nil_gr) ?_)) rfl) ?_))), rfl⟩) (hs := (by repeat (first | exact List.Sublist.refl _ | apply List.Sublist.cons | apply Sl.gB)))
        · replace hF := cnd_f hc53 hF
          (repeat refine gc (h := ?_))
          obtain ⟨he54, hF⟩ := ens hF
          (repeat refine gc (h := ?_))
          refine AW.region ?_
          (repeat refine gl (h := ?_))
          (repeat refine gc (h := ?_))
          exact lpQ1_0.n (s32 + 1) (some_inj hF) trivial (by repeat (first | exact Sub.nil | refine Sub.cons (k := ?_))) (by repeat (first | exact List.Sublist.refl _ | apply List.Sublist.cons | apply Sl.gB))
      · replace hF := cnd_f hc42 hF
        have hc42p := of_decide_eq_false hc42
        (repeat refine gc (h := ?_))
        obtain rfl := some_inj hF
        (repeat refine gc (h := ?_))
        refine lpQ1_0.e _ rfl (fun ho39 => ?_)
        (repeat refine gc (h := ?_))
        exact jnQ1_0.n s32 ho39 (by repeat (first | exact Sub.nil | refine Sub.cons (k := ?_))) (by repeat (first | exact List.Sublist.refl _ | apply List.Sublist.cons | apply Sl.gB))
    · obtain rfl := hs55.symm
      replace hF := hO35
      try dsimp only at hF
      (repeat refine gc (h := ?_))
      (repeat refine gc (h := ?_))
      refine AW.region ?_
      (repeat refine gl (h := ?_))
      obtain rfl := some_inj hF
      (repeat refine gc (h := ?_))
      exact EndQ.fin (bs' := bs) (h := ⟨(by first | exact Wk.refl _ | exact (by first | exact Wk.refl _ | exact Wk.nil | exact Wk.clip _ | exact Wk.tip _ _ _ | exact Wk.opt _ _ (by first | assumption | rfl) | exact Wk.gr _ _ | exact Wk.nil_gr | exact Wk.trans (Wk.opt _ _ (by first | assumption | rfl)) (by first | exact Wk.gr _ _ | exact Wk.nil | exact Wk.clip _ | exact Wk.tip _ _ _) | exact Wk.aggs (by repeat (first | exact Wks.nil | refine Wks.cons (by first | exact Wk.refl _ | exact Wk.nil | exact Wk.clip _ | exact Wk.tip _ _ _ | exact Wk.gr _ _ | exact Wk.nil_gr) ?_)) rfl) | exact Wk.tups (by repeat (first | exact Wks.nil | refine Wks.cons (by first | exact Wk.refl _ | exact Wk.nil | exact Wk.clip _ | exact Wk.tip _ _ _ | exact Wk.opt _ _ (by first | assumption | rfl) | exact Wk.gr _ _ | exact Wk.nil_gr | exact Wk.trans (Wk.opt _ _ (by first | assumption | rfl)) (by first | exact Wk.gr _ _ | exact Wk.nil | exact Wk.clip _ | exact Wk.tip _ _ _) | exact Wk.aggs (by repeat (first | exact Wks.nil | refine Wks.cons (by first | exact Wk.refl _ | exact Wk.nil | exact Wk.clip _ | exact Wk.tip _ _ _ | exact Wk.gr _ _ | exact Wk.nil_gr) ?_)) rfl) ?_))), rfl⟩) (hs := (by repeat (first | exact List.Sublist.refl _ | apply List.Sublist.cons | apply Sl.gB)))

noncomputable def l_bank_Same_1 (a0 : SEscrow) (a1 : SEscrow) : Option (Bool) :=
(l_spec_Same a0.Spec a1.Spec).bind fun x3 =>
(grd (((x3 && (a0.Arc == a1.Arc)) && (a0.State == a1.State))) (l_slices_EqualFunc_api_Hashkey_api_Hashkey_api_Hashkey_api_Hashkey__bank_key a0.Keys a1.Keys)).bind fun x5 =>
some (((x3 && (a0.Arc == a1.Arc)) && (a0.State == a1.State)) && x5)
theorem c_bank_Same_1 {a0 : SEscrow} {a1 : SEscrow} {r : Bool} (hF : l_bank_Same_1 a0 a1 = some r) : APure Try.prog 69 [.agg (rEscrow a0), .agg (rEscrow a1)] (bA r) := fun bs => by
  unfold l_bank_Same_1 at hF
  refine ACalls.wk ?_
  refine ACalls.in_ Try.func69 Try.ntmps69 (h := ?_)
  (repeat refine gc (h := ?_))
  refine AW.region ?_
  (repeat refine gl (h := ?_))
  intro g1
  (repeat refine gl (h := ?_))
  intro g2
  (repeat refine gl (h := ?_))
  obtain ⟨x3, hc4, hF⟩ := bnd hF
  obtain ⟨x5, hc6, hF⟩ := grd_b hF
  (repeat refine gc (h := ?_))
  refine AW.region ?_
  show AL _ _ _ _ (_ :: _) _ _
  ((repeat (show AL _ _ _ _ (_ :: _) _ _; refine gl (h := ?_))); try show AL _ _ _ _ (_ :: _) _ _)
  refine AL.call (c_spec_Same hc4) (h := ?_)
  ((repeat (show AL _ _ _ _ (_ :: _) _ _; refine gl (h := ?_))); try show AL _ _ _ _ (_ :: _) _ _)
  refine AL.gd (hq := fun hgb => OpQ.c (c_slices_EqualFunc_api_Hashkey_api_Hashkey_api_Hashkey_api_Hashkey__bank_key (hc6 hgb))) (h := ?_)
  ((repeat (show AL _ _ _ _ (_ :: _) _ _; refine gl (h := ?_))); try show AL _ _ _ _ (_ :: _) _ _)
  (repeat refine gl (h := ?_))
  obtain rfl := some_inj hF
  (repeat refine gc (h := ?_))
  exact EndQ.fin (bs' := bs) (h := ⟨(by first | exact Wk.refl _ | exact (by first | exact Wk.refl _ | exact Wk.nil | exact Wk.clip _ | exact Wk.tip _ _ _ | exact Wk.opt _ _ (by first | assumption | rfl) | exact Wk.gr _ _ | exact Wk.nil_gr | exact Wk.trans (Wk.opt _ _ (by first | assumption | rfl)) (by first | exact Wk.gr _ _ | exact Wk.nil | exact Wk.clip _ | exact Wk.tip _ _ _) | exact Wk.aggs (by repeat (first | exact Wks.nil | refine Wks.cons (by first | exact Wk.refl _ | exact Wk.nil | exact Wk.clip _ | exact Wk.tip _ _ _ | exact Wk.gr _ _ | exact Wk.nil_gr) ?_)) rfl) | exact Wk.tups (by repeat (first | exact Wks.nil | refine Wks.cons (by first | exact Wk.refl _ | exact Wk.nil | exact Wk.clip _ | exact Wk.tip _ _ _ | exact Wk.opt _ _ (by first | assumption | rfl) | exact Wk.gr _ _ | exact Wk.nil_gr | exact Wk.trans (Wk.opt _ _ (by first | assumption | rfl)) (by first | exact Wk.gr _ _ | exact Wk.nil | exact Wk.clip _ | exact Wk.tip _ _ _) | exact Wk.aggs (by repeat (first | exact Wks.nil | refine Wks.cons (by first | exact Wk.refl _ | exact Wk.nil | exact Wk.clip _ | exact Wk.tip _ _ _ | exact Wk.gr _ _ | exact Wk.nil_gr) ?_)) rfl) ?_))), rfl⟩) (hs := (by repeat (first | exact List.Sublist.refl _ | apply List.Sublist.cons | apply Sl.gB)))

noncomputable def l_slices_EqualFunc_api_Escrow_api_Escrow_api_Escrow_api_Escrow__bank_Same_1_b0 (a0 : List SEscrow) (a1 : List SEscrow) (s32 : Int) : Option ((Int) ⊕ (Int ⊕ Bool)) :=
cond (decide (s32 < (a0.length : Int))) (
(idxO a0 s32).bind fun x43 =>
(idxO a1 s32).bind fun x47 =>
(l_bank_Same_1 x43 x47).bind fun x51 =>
cond (!x51) (
some (.inr (.inr false))) (
(ensure (-9223372036854775808 ≤ s32 + 1 ∧ s32 + 1 ≤ 9223372036854775807)).bind fun _ =>
some (.inl (s32 + 1)))) (
some (.inr (.inl s32)))
noncomputable def l_slices_EqualFunc_api_Escrow_api_Escrow_api_Escrow_api_Escrow__bank_Same_1 (a0 : List SEscrow) (a1 : List SEscrow) : Option (Bool) :=
cond ((a0.length : Int) != (a1.length : Int)) (
some false) (
Option.bind (loopF (τ := (Int ⊕ Bool)) (fun s : Int => l_slices_EqualFunc_api_Escrow_api_Escrow_api_Escrow_api_Escrow__bank_Same_1_b0 a0 a1 s) 0) fun oo33 => (match oo33 with
| .inl e40 =>
some true
| .inr r38 => some r38))
theorem c_slices_EqualFunc_api_Escrow_api_Escrow_api_Escrow_api_Escrow__bank_Same_1 {a0 : List SEscrow} {a1 : List SEscrow} {r : Bool} (hF : l_slices_EqualFunc_api_Escrow_api_Escrow_api_Escrow_api_Escrow__bank_Same_1 a0 a1 = some r) : APure Try.prog 75 [.sl (a0.map rEscrow), .sl (a1.map rEscrow), .fn (.func 69) [] []] (bA r) := fun bs => by
  unfold l_slices_EqualFunc_api_Escrow_api_Escrow_api_Escrow_api_Escrow__bank_Same_1 at hF
  refine ACalls.wk ?_
  refine ACalls.in_ Try.func75 Try.ntmps75 (h := ?_)
  (repeat refine gc (h := ?_))
  refine AW.region ?_
  (repeat refine gl (h := ?_))
  (repeat refine gc (h := ?_))
  refine AW.region ?_
  (repeat refine gl (h := ?_))
  (repeat refine gc (h := ?_))
  refine AW.cond (b := ((a0.length : Int) != (a1.length : Int))) rfl (fun hc2 => ?_) (fun hc2 => ?_)
  · replace hF := cnd_t hc2 hF
    (repeat refine gc (h := ?_))
    (repeat refine gc (h := ?_))
    refine AW.region ?_
    (repeat refine gl (h := ?_))
    obtain rfl := some_inj hF
    (repeat refine gc (h := ?_))
    exact EndQ.fin (bs' := bs) (h := ⟨(by first | exact Wk.refl _ | exact (by first | exact Wk.refl _ | exact Wk.nil | exact Wk.clip _ | exact Wk.tip _ _ _ | exact Wk.opt _ _ (by first | assumption | rfl) | exact Wk.gr _ _ | exact Wk.nil_gr | exact Wk.trans (Wk.opt _ _ (by first | assumption | rfl)) (by first | exact Wk.gr _ _ | exact Wk.nil | exact Wk.clip _ | exact Wk.tip _ _ _) | exact Wk.aggs (by repeat (first | exact Wks.nil | refine Wks.cons (by first | exact Wk.refl _ | exact Wk.nil | exact Wk.clip _ | exact Wk.tip _ _ _ | exact Wk.gr _ _ | exact Wk.nil_gr) ?_)) rfl) | exact Wk.tups (by repeat (first | exact Wks.nil | refine Wks.cons (by first | exact Wk.refl _ | exact Wk.nil | exact Wk.clip _ | exact Wk.tip _ _ _ | exact Wk.opt _ _ (by first | assumption | rfl) | exact Wk.gr _ _ | exact Wk.nil_gr | exact Wk.trans (Wk.opt _ _ (by first | assumption | rfl)) (by first | exact Wk.gr _ _ | exact Wk.nil | exact Wk.clip _ | exact Wk.tip _ _ _) | exact Wk.aggs (by repeat (first | exact Wks.nil | refine Wks.cons (by first | exact Wk.refl _ | exact Wk.nil | exact Wk.clip _ | exact Wk.tip _ _ _ | exact Wk.gr _ _ | exact Wk.nil_gr) ?_)) rfl) ?_))), rfl⟩) (hs := (by repeat (first | exact List.Sublist.refl _ | apply List.Sublist.cons | apply Sl.gB)))
  · replace hF := cnd_f hc2 hF
    (repeat refine gc (h := ?_))
    (repeat refine gc (h := ?_))
    refine AW.region ?_
    (repeat refine gl (h := ?_))
    obtain ⟨oo33, hL34, hO35⟩ := bnd hF
    (repeat refine gc (h := ?_))
    refine AW.join1_0 (fun (e40 : Int) => [(0, .sl (a0.map rEscrow)), (1, .sl (a1.map rEscrow)), (2, .fn (.func 69) [] []), (6, bA false), (15, .sl (a0.map rEscrow)), (16, iA (a0.length : Int)), (17, iA e40)]) (fun (e40 : Int) => bs) (fun (e40 : Int) => oo33 = .inl e40) ?_ (fun e40 hs55 => ?_)
    · (repeat refine gc (h := ?_))
      refine AW.block ?_
      refine AW.loopF1_0 hL34 (fun (s32 : Int) => [(0, .sl (a0.map rEscrow)), (1, .sl (a1.map rEscrow)), (2, .fn (.func 69) [] []), (6, bA false), (15, .sl (a0.map rEscrow)), (16, iA (a0.length : Int)), (17, iA s32)]) (fun (s32 : Int) => bs) (fun (s32 : Int) => True)  trivial (by repeat (first | exact Sub.nil | refine Sub.cons (k := ?_))) rfl (fun s32 v36 hp37 hF => ?_)
      replace hF : l_slices_EqualFunc_api_Escrow_api_Escrow_api_Escrow_api_Escrow__bank_Same_1_b0 a0 a1 s32 = some v36 := hF
      unfold l_slices_EqualFunc_api_Escrow_api_Escrow_api_Escrow_api_Escrow__bank_Same_1_b0 at hF
      (repeat refine gc (h := ?_))
      (repeat refine gc (h := ?_))
      refine AW.region ?_
      (repeat refine gl (h := ?_))
      (repeat refine gc (h := ?_))
      refine AW.cond (b := (decide (s32 < (a0.length : Int)))) rfl (fun hc42 => ?_) (fun hc42 => ?_)
      · replace hF := cnd_t hc42 hF
        have hc42p := of_decide_eq_true hc42
        (repeat refine gc (h := ?_))
        (repeat refine gc (h := ?_))
        refine AW.block ?_
        obtain ⟨x43, h44, h45, hF⟩ := idx_b hF
        (repeat refine gc (h := ?_))
        refine AW.region ?_
        (repeat refine gl (h := ?_))
        intro g46
        (repeat refine gl (h := ?_))
        obtain ⟨x47, h48, h49, hF⟩ := idx_b hF
        (repeat refine gc (h := ?_))
        refine AW.region ?_
        (repeat refine gl (h := ?_))
        intro g50
        (repeat refine gl (h := ?_))
        obtain ⟨x51, hc52, hF⟩ := bnd hF
        (repeat refine gc (h := ?_))
        refine AW.region ?_
        (repeat refine gl (h := ?_))
        refine AL.s (hq := OpQ.cv (c_bank_Same_1 hc52)) (h := ?_)
        (repeat refine gl (h := ?_))
        (repeat refine gc (h := ?_))
        refine AW.cond (b := (!x51)) rfl (fun hc53 => ?_) (fun hc53 => ?_)
        · replace hF := cnd_t hc53 hF
          (repeat refine gc (h := ?_))
          (repeat refine gc (h := ?_))
          refine AW.region ?_
          (repeat refine gl (h := ?_))
          obtain rfl := some_inj hF
          (repeat refine gc (h := ?_))
          refine lpQ1_0.r _ rfl (fun ho39 => ?_)
          subst ho39
          replace hF := hO35
          (repeat refine gc (h := ?_))
          obtain rfl := some_inj hF
          (repeat refine gc (h := ?_))
          exact EndQ.fin (bs' := bs) (h := ⟨(by first | exact Wk.refl _ | exact (by first | exact Wk.refl _ | exact Wk.nil | exact Wk.clip _ | exact Wk.tip _ _ _ | exact Wk.opt _ _ (by first | assumption | rfl) | exact Wk.gr _ _ | exact Wk.nil_gr | exact Wk.trans (Wk.opt _ _ (by first | assumption | rfl)) (by first | exact Wk.gr _ _ | exact Wk.nil | exact Wk.clip _ | exact Wk.tip _ _ _) | exact Wk.aggs (by repeat (first | exact Wks.nil | refine Wks.cons (by first | exact Wk.refl _ | exact Wk.nil | exact Wk.clip _ | exact Wk.tip _ _ _ | exact Wk.gr _ _ | exact Wk.nil_gr) ?_)) rfl) | exact Wk.tups (by repeat (first | exact Wks.nil | refine Wks.cons (by first | exact Wk.refl _ | exact Wk.nil | exact Wk.clip _ | exact Wk.tip _ _ _ | exact Wk.opt _ _ (by first | assumption | rfl) | exact Wk.gr _ _ | exact Wk.nil_gr | exact Wk.trans (Wk.opt _ _ (by first | assumption | rfl)) (by first | exact Wk.gr _ _ | exact Wk.nil | exact Wk.clip _ | exact Wk.tip _ _ _) | exact Wk.aggs (by repeat (first | exact Wks.nil | refine Wks.cons (by first | exact Wk.refl _ | exact Wk.nil | exact Wk.clip _ | exact Wk.tip _ _ _ | exact Wk.gr _ _ | exact Wk.nil_gr) ?_)) rfl) ?_))), rfl⟩) (hs := (by repeat (first | exact List.Sublist.refl _ | apply List.Sublist.cons | apply Sl.gB)))
        · replace hF := cnd_f hc53 hF
          (repeat refine gc (h := ?_))
          obtain ⟨he54, hF⟩ := ens hF
          (repeat refine gc (h := ?_))
          refine AW.region ?_
          (repeat refine gl (h := ?_))
          (repeat refine gc (h := ?_))
          exact lpQ1_0.n (s32 + 1) (some_inj hF) trivial (by repeat (first | exact Sub.nil | refine Sub.cons (k := ?_))) (by repeat (first | exact List.Sublist.refl _ | apply List.Sublist.cons | apply Sl.gB))
      · replace hF := cnd_f hc42 hF
        have hc42p := of_decide_eq_false hc42
        (repeat refine gc (h := ?_))
        obtain rfl := some_inj hF
        (repeat refine gc (h := ?_))
        refine lpQ1_0.e _ rfl (fun ho39 => ?_)
        (repeat refine gc (h := ?_))
        exact jnQ1_0.n s32 ho39 (by repeat (first | exact Sub.nil | refine Sub.cons (k := ?_))) (by repeat (first | exact List.Sublist.refl _ | apply List.Sublist.cons | apply Sl.gB))
    · obtain rfl := hs55.symm
      replace hF := hO35
      try dsimp only at hF
      (repeat refine gc (h := ?_))
      (repeat refine gc (h := ?_))
      refine AW.region ?_
      (repeat refine gl (h := ?_))
      obtain rfl := some_inj hF
      (repeat refine gc (h := ?_))
      exact EndQ.fin (bs' := bs) (h := ⟨(by first | exact Wk.refl _ | exact (by first | exact Wk.refl _ | exact Wk.nil | exact Wk.clip _ | exact Wk.tip _ _ _ | exact Wk.opt _ _ (by first | assumption | rfl) | exact Wk.gr _ _ | exact Wk.nil_gr | exact Wk.trans (Wk.opt _ _ (by first | assumption | rfl)) (by first | exact Wk.gr _ _ | exact Wk.nil | exact Wk.clip _ | exact Wk.tip _ _ _) | exact Wk.aggs (by repeat (first | exact Wks.nil | refine Wks.cons (by first | exact Wk.refl _ | exact Wk.nil | exact Wk.clip _ | exact Wk.tip _ _ _ | exact Wk.gr _ _ | exact Wk.nil_gr) ?_)) rfl) | exact Wk.tups (by repeat (first | exact Wks.nil | refine Wks.cons (by first | exact Wk.refl _ | exact Wk.nil | exact Wk.clip _ | exact Wk.tip _ _ _ | exact Wk.opt _ _ (by first | assumption | rfl) | exact Wk.gr _ _ | exact Wk.nil_gr | exact Wk.trans (Wk.opt _ _ (by first | assumption | rfl)) (by first | exact Wk.gr _ _ | exact Wk.nil | exact Wk.clip _ | exact Wk.tip _ _ _) | exact Wk.aggs (by repeat (first | exact Wks.nil | refine Wks.cons (by first | exact Wk.refl _ | exact Wk.nil | exact Wk.clip _ | exact Wk.tip _ _ _ | exact Wk.gr _ _ | exact Wk.nil_gr) ?_)) rfl) ?_))), rfl⟩) (hs := (by repeat (first | exact List.Sublist.refl _ | apply List.Sublist.cons | apply Sl.gB)))

noncomputable def l_bank_Same (a0 : SBook) (a1 : SBook) : Option (Bool) :=
(grd (((a0.Number == a1.Number) && (a0.Time == a1.Time))) (l_slices_Equal_string_string a0.Accounts a1.Accounts)).bind fun x3 =>
(grd ((((a0.Number == a1.Number) && (a0.Time == a1.Time)) && x3)) (l_slices_Equal_api_Fund_api_Fund a0.Funds a1.Funds)).bind fun x5 =>
(grd (((((a0.Number == a1.Number) && (a0.Time == a1.Time)) && x3) && x5)) (l_slices_EqualFunc_api_Escrow_api_Escrow_api_Escrow_api_Escrow__bank_Same_1 a0.Escrows a1.Escrows)).bind fun x7 =>
some (((((a0.Number == a1.Number) && (a0.Time == a1.Time)) && x3) && x5) && x7)
theorem c_bank_Same {a0 : SBook} {a1 : SBook} {r : Bool} (hF : l_bank_Same a0 a1 = some r) : APure Try.prog 51 [.agg (rBook a0), .agg (rBook a1)] (bA r) := fun bs => by
  unfold l_bank_Same at hF
  refine ACalls.wk ?_
  refine ACalls.in_ Try.func51 Try.ntmps51 (h := ?_)
  (repeat refine gc (h := ?_))
  refine AW.region ?_
  (repeat refine gl (h := ?_))
  intro g1
  (repeat refine gl (h := ?_))
  intro g2
  (repeat refine gl (h := ?_))
  (repeat refine gc (h := ?_))
  refine AW.region ?_
  (repeat refine gl (h := ?_))
  obtain ⟨x3, hc4, hF⟩ := grd_b hF
  obtain ⟨x5, hc6, hF⟩ := grd_b hF
  obtain ⟨x7, hc8, hF⟩ := grd_b hF
  (repeat refine gc (h := ?_))
  refine AW.region ?_
  show AL _ _ _ _ (_ :: _) _ _
  ((repeat (show AL _ _ _ _ (_ :: _) _ _; refine gl (h := ?_))); try show AL _ _ _ _ (_ :: _) _ _)
  refine AL.gd (hq := fun hgb => OpQ.c (c_slices_Equal_string_string (hc4 hgb))) (h := ?_)
  ((repeat (show AL _ _ _ _ (_ :: _) _ _; refine gl (h := ?_))); try show AL _ _ _ _ (_ :: _) _ _)
  refine AL.gd (hq := fun hgb => OpQ.c (c_slices_Equal_api_Fund_api_Fund (hc6 hgb))) (h := ?_)
  ((repeat (show AL _ _ _ _ (_ :: _) _ _; refine gl (h := ?_))); try show AL _ _ _ _ (_ :: _) _ _)
  refine AL.gd (hq := fun hgb => OpQ.c (c_slices_EqualFunc_api_Escrow_api_Escrow_api_Escrow_api_Escrow__bank_Same_1 (hc8 hgb))) (h := ?_)
  ((repeat (show AL _ _ _ _ (_ :: _) _ _; refine gl (h := ?_))); try show AL _ _ _ _ (_ :: _) _ _)
  (repeat refine gl (h := ?_))
  obtain rfl := some_inj hF
  (repeat refine gc (h := ?_))
  exact EndQ.fin (bs' := bs) (h := ⟨(by first | exact Wk.refl _ | exact (by first | exact Wk.refl _ | exact Wk.nil | exact Wk.clip _ | exact Wk.tip _ _ _ | exact Wk.opt _ _ (by first | assumption | rfl) | exact Wk.gr _ _ | exact Wk.nil_gr | exact Wk.trans (Wk.opt _ _ (by first | assumption | rfl)) (by first | exact Wk.gr _ _ | exact Wk.nil | exact Wk.clip _ | exact Wk.tip _ _ _) | exact Wk.aggs (by repeat (first | exact Wks.nil | refine Wks.cons (by first | exact Wk.refl _ | exact Wk.nil | exact Wk.clip _ | exact Wk.tip _ _ _ | exact Wk.gr _ _ | exact Wk.nil_gr) ?_)) rfl) | exact Wk.tups (by repeat (first | exact Wks.nil | refine Wks.cons (by first | exact Wk.refl _ | exact Wk.nil | exact Wk.clip _ | exact Wk.tip _ _ _ | exact Wk.opt _ _ (by first | assumption | rfl) | exact Wk.gr _ _ | exact Wk.nil_gr | exact Wk.trans (Wk.opt _ _ (by first | assumption | rfl)) (by first | exact Wk.gr _ _ | exact Wk.nil | exact Wk.clip _ | exact Wk.tip _ _ _) | exact Wk.aggs (by repeat (first | exact Wks.nil | refine Wks.cons (by first | exact Wk.refl _ | exact Wk.nil | exact Wk.clip _ | exact Wk.tip _ _ _ | exact Wk.gr _ _ | exact Wk.nil_gr) ?_)) rfl) ?_))), rfl⟩) (hs := (by repeat (first | exact List.Sublist.refl _ | apply List.Sublist.cons | apply Sl.gB)))

end Go.Proofs.Ytnkkfmnpkgjabaa.X
