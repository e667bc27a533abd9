/- The same logic: steps on rows that turn. -/
import Derived.Test.YtnkkfmnpkgjabaaGreatZw0d
import Derived.Test.YtnkkfmnpkgjabaaGreatZw0c
namespace Go.Proofs.YtnkkfmnpkgjabaaGreat.X
open Go.RowKit
set_option linter.unusedVariables false
set_option linter.unusedSimpArgs false
theorem BUpd.mid0 {bs bs' : BS} {g g' : Nat} {b b2 : Blk} (h : BUpd bs g b g' b2 bs') (b1 : Blk) : ∃ bs1, BUpd bs g b g b1 bs1 ∧ BUpd bs1 g b1 g' b2 bs' := by
  induction h with
  | head => exact ⟨_, .head, .head⟩
  | tail _ ih => obtain ⟨q, h1, h2⟩ := ih; exact ⟨_, .tail h1, .tail h2⟩
theorem BUpd.mid {bs bs' : BS} {g : Nat} {b b2 : Blk} (h : BUpd bs g b g b2 bs') (b1 : Blk) : ∃ bs1, BUpd bs g b g b1 bs1 ∧ BUpd bs1 g b1 g b2 bs' := h.mid0 b1
theorem BUpd.fn {bs : BS} {g : Nat} {b : Blk} (h : (g, b) ∈ bs) : ∃ B : Nat → Blk → BS, ∀ g' b', BUpd bs g b g' b' (B g' b') := by
  induction bs with
  | nil => cases h
  | cons x r ih =>
    rcases List.mem_cons.1 h with rfl | h
    · exact ⟨fun g' b' => (g', b') :: r, fun _ _ => .head⟩
    · obtain ⟨B, hB⟩ := ih h
      exact ⟨fun g' b' => x :: B g' b', fun g' b' => .tail (hB g' b')⟩
theorem BUpd.stay {bs bs' : BS} {g g' h : Nat} {b b' x : Blk} (hu : BUpd bs g b g' b' bs') (hm : (h, x) ∈ bs) (hne : h ≠ g) : (h, x) ∈ bs' := by
  induction hu with
  | head =>
    rcases List.mem_cons.1 hm with e | hm
    · injection e with e1 e2; exact absurd e1 hne
    · exact List.mem_cons_of_mem _ hm
  | tail _ ih =>
    rcases List.mem_cons.1 hm with rfl | hm
    · exact List.mem_cons_self
    · exact List.mem_cons_of_mem _ (ih hm hne)
section
variable {P : Program} {N : Nat} {ops : Array Oper} {Q : Exit → T → BS → Prop} {o : Oper} {rest : List Oper} {t : T} {bs : BS} {cl : List Clm} {n m' d : Nat} {idx : Idx}
theorem AL.app_in {ty e : TypeId} {x z : Operand} {s1 b1 s2 b2 g off i j k n2 c cap : Nat} {d2 : TypeDesc} {rs ys rs' : List (List A)} {bs' : BS} (ho : o.op = .call { callee := .builtin .append, args := #[x, z], argTypes := #[ty, ty] } := by rfl) (h1 : TI P ty (.slice e) s1 b1 := by infer_instance) (h2 : TI P e d2 s2 b2 := by infer_instance)
    (hx : Wk (evA t x) (.ms g off j c) := by exact (by first | exact Wk.refl _ | exact Wk.nil | exact Wk.clip _ | exact Wk.tip _ _ _ | exact Wk.opt _ _ (by first | assumption | rfl) | exact Wk.gr _ _ | exact Wk.nil_gr | exact Wk.trans (Wk.opt _ _ (by first | assumption | rfl)) (by first | exact Wk.gr _ _ | exact Wk.nil | exact Wk.clip _ | exact Wk.tip _ _ _) | exact Wk.aggs (by repeat (first | exact Wks.nil | refine Wks.cons (by first | exact Wk.refl _ | exact Wk.nil | exact Wk.clip _ | exact Wk.tip _ _ _ | exact Wk.gr _ _ | exact Wk.nil_gr | exact Wk.nil_ow | exact Wk.ms_ow _ _ _) ?_)) rfl | exact Wk.nil_ow | exact Wk.ms_ow _ _ _ | exact Wk.ow_ms _ _ _)) (hoff : off = i * s2 := by exact (by first | rfl | omega | exact (Nat.zero_mul _).symm)) (hy : Src t bs s2 z n2 ys := by exact (by first | exact Src.all (by first | exact Wk.refl _ | exact Wk.nil | exact Wk.clip _ | exact Wk.tip _ _ _ | exact Wk.opt _ _ (by first | assumption | rfl) | exact Wk.gr _ _ | exact Wk.nil_gr | exact Wk.trans (Wk.opt _ _ (by first | assumption | rfl)) (by first | exact Wk.gr _ _ | exact Wk.nil | exact Wk.clip _ | exact Wk.tip _ _ _) | exact Wk.aggs (by repeat (first | exact Wks.nil | refine Wks.cons (by first | exact Wk.refl _ | exact Wk.nil | exact Wk.clip _ | exact Wk.tip _ _ _ | exact Wk.gr _ _ | exact Wk.nil_gr | exact Wk.nil_ow | exact Wk.ms_ow _ _ _) ?_)) rfl | exact Wk.nil_ow | exact Wk.ms_ow _ _ _ | exact Wk.ow_ms _ _ _) (by first | rfl | omega | exact (Nat.zero_mul _).symm) (by repeat (first | exact List.mem_cons_self | assumption | refine List.mem_cons_of_mem _ ?_ | refine mem_gB ?_ | refine mem_gO ?_)) (by first | rfl | (simp; done) | (simp only [List.length_map]; omega) | (simp; omega) | omega) rfl | exact Src.sl (by first | exact Wk.refl _ | exact Wk.nil | exact Wk.clip _ | exact Wk.tip _ _ _ | exact Wk.opt _ _ (by first | assumption | rfl) | exact Wk.gr _ _ | exact Wk.nil_gr | exact Wk.trans (Wk.opt _ _ (by first | assumption | rfl)) (by first | exact Wk.gr _ _ | exact Wk.nil | exact Wk.clip _ | exact Wk.tip _ _ _) | exact Wk.aggs (by repeat (first | exact Wks.nil | refine Wks.cons (by first | exact Wk.refl _ | exact Wk.nil | exact Wk.clip _ | exact Wk.tip _ _ _ | exact Wk.gr _ _ | exact Wk.nil_gr | exact Wk.nil_ow | exact Wk.ms_ow _ _ _) ?_)) rfl | exact Wk.nil_ow | exact Wk.ms_ow _ _ _ | exact Wk.ow_ms _ _ _) rfl (by first | assumption | (intro r hr; simp at hr; done) | (intro r hr; simp at hr; subst hr; rfl) | (intro r hr; simp at hr; (rcases hr with ⟨_, _, rfl⟩ | rfl) <;> rfl) | (intro r hr; simp at hr; (obtain ⟨_, _, rfl⟩ := hr); rfl)))) (hyl : ys.length = n2 := by exact (by first | rfl | (simp; done) | (simp only [List.length_map]; omega) | (simp; omega) | omega)) (hu : BUpd bs g (.rows rs cap s2 e) g (.rows rs' cap s2 e) bs' := by exact (by repeat (first | exact BUpd.head | apply BUpd.tail | apply BUpd.gB | apply BUpd.gO))) (hrs : over rs (i + j) ys = rs' := by rfl) (hn : i + j ≤ rs.length := by exact (by first | rfl | (simp; done) | (simp only [List.length_map]; omega) | (simp; omega) | omega)) (hk1 : j + ys.length = k := by exact (by first | rfl | (simp; done) | (simp only [List.length_map]; omega) | (simp; omega) | omega)) (hroom : k ≤ c := by exact (by first | rfl | (simp; done) | (simp only [List.length_map]; omega) | (simp; omega) | omega)) (hcap : i + c ≤ cap := by exact (by first | rfl | (simp; done) | (simp only [List.length_map]; omega) | (simp; omega) | omega)) (hg : o.guard = none := by rfl) (hk : okOps o = true := by rfl) (hd : o.dst = some d := by rfl) (hN : Nat.blt d N = true := by rfl)
    (h : AL P N ops Q rest ((d, .ms g off k c) :: t) bs') : AL P N ops Q (o :: rest) t bs := by
  subst hk1; subst hyl; exact .w (OpW.app_in ho hx hoff hy hrs hu hn hroom hcap) hg hk (by rw [hd]; exact hN) fun _ _ ⟨e1, e2⟩ => by subst e1; subst e2; rw [hd]; exact h
theorem ADl.app_in {ty e : TypeId} {x z : Operand} {s1 b1 s2 b2 g off i j k n2 c cap : Nat} {d2 : TypeDesc} {rs ys rs' : List (List A)} {bs' : BS} (ho : o.op = .call { callee := .builtin .append, args := #[x, z], argTypes := #[ty, ty] } := by rfl) (h1 : TI P ty (.slice e) s1 b1 := by infer_instance) (h2 : TI P e d2 s2 b2 := by infer_instance)
    (hx : Wk (evA t x) (.ms g off j c) := by exact (by first | exact Wk.refl _ | exact Wk.nil | exact Wk.clip _ | exact Wk.tip _ _ _ | exact Wk.opt _ _ (by first | assumption | rfl) | exact Wk.gr _ _ | exact Wk.nil_gr | exact Wk.trans (Wk.opt _ _ (by first | assumption | rfl)) (by first | exact Wk.gr _ _ | exact Wk.nil | exact Wk.clip _ | exact Wk.tip _ _ _) | exact Wk.aggs (by repeat (first | exact Wks.nil | refine Wks.cons (by first | exact Wk.refl _ | exact Wk.nil | exact Wk.clip _ | exact Wk.tip _ _ _ | exact Wk.gr _ _ | exact Wk.nil_gr | exact Wk.nil_ow | exact Wk.ms_ow _ _ _) ?_)) rfl | exact Wk.nil_ow | exact Wk.ms_ow _ _ _ | exact Wk.ow_ms _ _ _)) (hoff : off = i * s2 := by exact (by first | rfl | omega | exact (Nat.zero_mul _).symm)) (hy : Src t bs s2 z n2 ys := by exact (by first | exact Src.all (by first | exact Wk.refl _ | exact Wk.nil | exact Wk.clip _ | exact Wk.tip _ _ _ | exact Wk.opt _ _ (by first | assumption | rfl) | exact Wk.gr _ _ | exact Wk.nil_gr | exact Wk.trans (Wk.opt _ _ (by first | assumption | rfl)) (by first | exact Wk.gr _ _ | exact Wk.nil | exact Wk.clip _ | exact Wk.tip _ _ _) | exact Wk.aggs (by repeat (first | exact Wks.nil | refine Wks.cons (by first | exact Wk.refl _ | exact Wk.nil | exact Wk.clip _ | exact Wk.tip _ _ _ | exact Wk.gr _ _ | exact Wk.nil_gr | exact Wk.nil_ow | exact Wk.ms_ow _ _ _) ?_)) rfl | exact Wk.nil_ow | exact Wk.ms_ow _ _ _ | exact Wk.ow_ms _ _ _) (by first | rfl | omega | exact (Nat.zero_mul _).symm) (by repeat (first | exact List.mem_cons_self | assumption | refine List.mem_cons_of_mem _ ?_ | refine mem_gB ?_ | refine mem_gO ?_)) (by first | rfl | (simp; done) | (simp only [List.length_map]; omega) | (simp; omega) | omega) rfl | exact Src.sl (by first | exact Wk.refl _ | exact Wk.nil | exact Wk.clip _ | exact Wk.tip _ _ _ | exact Wk.opt _ _ (by first | assumption | rfl) | exact Wk.gr _ _ | exact Wk.nil_gr | exact Wk.trans (Wk.opt _ _ (by first | assumption | rfl)) (by first | exact Wk.gr _ _ | exact Wk.nil | exact Wk.clip _ | exact Wk.tip _ _ _) | exact Wk.aggs (by repeat (first | exact Wks.nil | refine Wks.cons (by first | exact Wk.refl _ | exact Wk.nil | exact Wk.clip _ | exact Wk.tip _ _ _ | exact Wk.gr _ _ | exact Wk.nil_gr | exact Wk.nil_ow | exact Wk.ms_ow _ _ _) ?_)) rfl | exact Wk.nil_ow | exact Wk.ms_ow _ _ _ | exact Wk.ow_ms _ _ _) rfl (by first | assumption | (intro r hr; simp at hr; done) | (intro r hr; simp at hr; subst hr; rfl) | (intro r hr; simp at hr; (rcases hr with ⟨_, _, rfl⟩ | rfl) <;> rfl) | (intro r hr; simp at hr; (obtain ⟨_, _, rfl⟩ := hr); rfl)))) (hyl : ys.length = n2 := by exact (by first | rfl | (simp; done) | (simp only [List.length_map]; omega) | (simp; omega) | omega)) (hu : BUpd bs g (.rows rs cap s2 e) g (.rows rs' cap s2 e) bs' := by exact (by repeat (first | exact BUpd.head | apply BUpd.tail | apply BUpd.gB | apply BUpd.gO))) (hrs : over rs (i + j) ys = rs' := by rfl) (hn : i + j ≤ rs.length := by exact (by first | rfl | (simp; done) | (simp only [List.length_map]; omega) | (simp; omega) | omega)) (hk1 : j + ys.length = k := by exact (by first | rfl | (simp; done) | (simp only [List.length_map]; omega) | (simp; omega) | omega)) (hroom : k ≤ c := by exact (by first | rfl | (simp; done) | (simp only [List.length_map]; omega) | (simp; omega) | omega)) (hcap : i + c ≤ cap := by exact (by first | rfl | (simp; done) | (simp only [List.length_map]; omega) | (simp; omega) | omega)) (hg : o.guard = none := by rfl) (hd : o.dst = some d := by rfl) (hN : Nat.blt d N = true := by rfl) (hk : okOps o = true := by rfl) (hdp : depsI ops idx n = true := by decide +kernel) (hld : loudI ops idx n = true := by decide +kernel) (hm : n + 1 = m' := by exact (by (conv => lhs; whnf) <;> rfl))
    (h : ADl P N ops Q m' ((n, true) :: idx) rest (⟨n, .ms g off k c, some []⟩ :: cl) ((d, .ms g off k c) :: t) bs') : ADl P N ops Q n idx (o :: rest) cl t bs := by
  subst hk1; subst hyl; exact .w (OpW.app_in ho hx hoff hy hrs hu hn hroom hcap) hg (by rw [hd]; exact hN) hk hdp hld hm (.inr fun y b' ⟨_, e2⟩ c hc L hL hn x hx => e2 ▸ hu.keeps (by intro cs h; cases h) _ _ (hn x hx)) fun _ _ ⟨e1, e2⟩ => by subst e1; subst e2; rw [hd]; exact h
theorem AL.copy {ty e : TypeId} {x z : Operand} {s1 b1 s2 b2 g off i j m n2 c cap : Nat} {d2 : TypeDesc} {rs ys rs' : List (List A)} {bs' : BS} (ho : o.op = .call { callee := .builtin .copy, args := #[x, z], argTypes := #[ty, ty] } := by rfl) (h1 : TI P ty (.slice e) s1 b1 := by infer_instance) (h2 : TI P e d2 s2 b2 := by infer_instance)
    (hx : Wk (evA t x) (.ms g off j c) := by exact (by first | exact Wk.refl _ | exact Wk.nil | exact Wk.clip _ | exact Wk.tip _ _ _ | exact Wk.opt _ _ (by first | assumption | rfl) | exact Wk.gr _ _ | exact Wk.nil_gr | exact Wk.trans (Wk.opt _ _ (by first | assumption | rfl)) (by first | exact Wk.gr _ _ | exact Wk.nil | exact Wk.clip _ | exact Wk.tip _ _ _) | exact Wk.aggs (by repeat (first | exact Wks.nil | refine Wks.cons (by first | exact Wk.refl _ | exact Wk.nil | exact Wk.clip _ | exact Wk.tip _ _ _ | exact Wk.gr _ _ | exact Wk.nil_gr | exact Wk.nil_ow | exact Wk.ms_ow _ _ _) ?_)) rfl | exact Wk.nil_ow | exact Wk.ms_ow _ _ _ | exact Wk.ow_ms _ _ _)) (hoff : off = i * s2 := by exact (by first | rfl | omega | exact (Nat.zero_mul _).symm)) (hy : Src t bs s2 z n2 ys := by exact (by first | exact Src.all (by first | exact Wk.refl _ | exact Wk.nil | exact Wk.clip _ | exact Wk.tip _ _ _ | exact Wk.opt _ _ (by first | assumption | rfl) | exact Wk.gr _ _ | exact Wk.nil_gr | exact Wk.trans (Wk.opt _ _ (by first | assumption | rfl)) (by first | exact Wk.gr _ _ | exact Wk.nil | exact Wk.clip _ | exact Wk.tip _ _ _) | exact Wk.aggs (by repeat (first | exact Wks.nil | refine Wks.cons (by first | exact Wk.refl _ | exact Wk.nil | exact Wk.clip _ | exact Wk.tip _ _ _ | exact Wk.gr _ _ | exact Wk.nil_gr | exact Wk.nil_ow | exact Wk.ms_ow _ _ _) ?_)) rfl | exact Wk.nil_ow | exact Wk.ms_ow _ _ _ | exact Wk.ow_ms _ _ _) (by first | rfl | omega | exact (Nat.zero_mul _).symm) (by repeat (first | exact List.mem_cons_self | assumption | refine List.mem_cons_of_mem _ ?_ | refine mem_gB ?_ | refine mem_gO ?_)) (by first | rfl | (simp; done) | (simp only [List.length_map]; omega) | (simp; omega) | omega) rfl | exact Src.sl (by first | exact Wk.refl _ | exact Wk.nil | exact Wk.clip _ | exact Wk.tip _ _ _ | exact Wk.opt _ _ (by first | assumption | rfl) | exact Wk.gr _ _ | exact Wk.nil_gr | exact Wk.trans (Wk.opt _ _ (by first | assumption | rfl)) (by first | exact Wk.gr _ _ | exact Wk.nil | exact Wk.clip _ | exact Wk.tip _ _ _) | exact Wk.aggs (by repeat (first | exact Wks.nil | refine Wks.cons (by first | exact Wk.refl _ | exact Wk.nil | exact Wk.clip _ | exact Wk.tip _ _ _ | exact Wk.gr _ _ | exact Wk.nil_gr | exact Wk.nil_ow | exact Wk.ms_ow _ _ _) ?_)) rfl | exact Wk.nil_ow | exact Wk.ms_ow _ _ _ | exact Wk.ow_ms _ _ _) rfl (by first | assumption | (intro r hr; simp at hr; done) | (intro r hr; simp at hr; subst hr; rfl) | (intro r hr; simp at hr; (rcases hr with ⟨_, _, rfl⟩ | rfl) <;> rfl) | (intro r hr; simp at hr; (obtain ⟨_, _, rfl⟩ := hr); rfl)))) (hu : BUpd bs g (.rows rs cap s2 e) g (.rows rs' cap s2 e) bs' := by exact (by repeat (first | exact BUpd.head | apply BUpd.tail | apply BUpd.gB | apply BUpd.gO))) (hm0 : min n2 j = m := by exact (by first | rfl | (simp; done) | (simp only [List.length_map]; omega) | (simp; omega) | omega)) (hmy : m ≤ ys.length := by exact (by first | rfl | (simp; done) | (simp only [List.length_map]; omega) | (simp; omega) | omega)) (hrs : over rs i (ys.take m) = rs' := by rfl) (hi : i ≤ rs.length := by exact (by first | rfl | (simp; done) | (simp only [List.length_map]; omega) | (simp; omega) | omega)) (hcap : i + m ≤ cap := by exact (by first | rfl | (simp; done) | (simp only [List.length_map]; omega) | (simp; omega) | omega)) (hg : o.guard = none := by rfl) (hk : okOps o = true := by rfl) (hd : o.dst = some d := by rfl) (hN : Nat.blt d N = true := by rfl)
    (h : AL P N ops Q rest ((d, .v (.int .i64 m)) :: t) bs') : AL P N ops Q (o :: rest) t bs := by
  exact .w (OpW.copy ho hx hoff hy hm0 hmy hrs hu hi hcap) hg hk (by rw [hd]; exact hN) fun _ _ ⟨e1, e2⟩ => by subst e1; subst e2; rw [hd]; exact h
theorem ADl.copy {ty e : TypeId} {x z : Operand} {s1 b1 s2 b2 g off i j m n2 c cap : Nat} {d2 : TypeDesc} {rs ys rs' : List (List A)} {bs' : BS} (ho : o.op = .call { callee := .builtin .copy, args := #[x, z], argTypes := #[ty, ty] } := by rfl) (h1 : TI P ty (.slice e) s1 b1 := by infer_instance) (h2 : TI P e d2 s2 b2 := by infer_instance)
    (hx : Wk (evA t x) (.ms g off j c) := by exact (by first | exact Wk.refl _ | exact Wk.nil | exact Wk.clip _ | exact Wk.tip _ _ _ | exact Wk.opt _ _ (by first | assumption | rfl) | exact Wk.gr _ _ | exact Wk.nil_gr | exact Wk.trans (Wk.opt _ _ (by first | assumption | rfl)) (by first | exact Wk.gr _ _ | exact Wk.nil | exact Wk.clip _ | exact Wk.tip _ _ _) | exact Wk.aggs (by repeat (first | exact Wks.nil | refine Wks.cons (by first | exact Wk.refl _ | exact Wk.nil | exact Wk.clip _ | exact Wk.tip _ _ _ | exact Wk.gr _ _ | exact Wk.nil_gr | exact Wk.nil_ow | exact Wk.ms_ow _ _ _) ?_)) rfl | exact Wk.nil_ow | exact Wk.ms_ow _ _ _ | exact Wk.ow_ms _ _ _)) (hoff : off = i * s2 := by exact (by first | rfl | omega | exact (Nat.zero_mul _).symm)) (hy : Src t bs s2 z n2 ys := by exact (by first | exact Src.all (by first | exact Wk.refl _ | exact Wk.nil | exact Wk.clip _ | exact Wk.tip _ _ _ | exact Wk.opt _ _ (by first | assumption | rfl) | exact Wk.gr _ _ | exact Wk.nil_gr | exact Wk.trans (Wk.opt _ _ (by first | assumption | rfl)) (by first | exact Wk.gr _ _ | exact Wk.nil | exact Wk.clip _ | exact Wk.tip _ _ _) | exact Wk.aggs (by repeat (first | exact Wks.nil | refine Wks.cons (by first | exact Wk.refl _ | exact Wk.nil | exact Wk.clip _ | exact Wk.tip _ _ _ | exact Wk.gr _ _ | exact Wk.nil_gr | exact Wk.nil_ow | exact Wk.ms_ow _ _ _) ?_)) rfl | exact Wk.nil_ow | exact Wk.ms_ow _ _ _ | exact Wk.ow_ms _ _ _) (by first | rfl | omega | exact (Nat.zero_mul _).symm) (by repeat (first | exact List.mem_cons_self | assumption | refine List.mem_cons_of_mem _ ?_ | refine mem_gB ?_ | refine mem_gO ?_)) (by first | rfl | (simp; done) | (simp only [List.length_map]; omega) | (simp; omega) | omega) rfl | exact Src.sl (by first | exact Wk.refl _ | exact Wk.nil | exact Wk.clip _ | exact Wk.tip _ _ _ | exact Wk.opt _ _ (by first | assumption | rfl) | exact Wk.gr _ _ | exact Wk.nil_gr | exact Wk.trans (Wk.opt _ _ (by first | assumption | rfl)) (by first | exact Wk.gr _ _ | exact Wk.nil | exact Wk.clip _ | exact Wk.tip _ _ _) | exact Wk.aggs (by repeat (first | exact Wks.nil | refine Wks.cons (by first | exact Wk.refl _ | exact Wk.nil | exact Wk.clip _ | exact Wk.tip _ _ _ | exact Wk.gr _ _ | exact Wk.nil_gr | exact Wk.nil_ow | exact Wk.ms_ow _ _ _) ?_)) rfl | exact Wk.nil_ow | exact Wk.ms_ow _ _ _ | exact Wk.ow_ms _ _ _) rfl (by first | assumption | (intro r hr; simp at hr; done) | (intro r hr; simp at hr; subst hr; rfl) | (intro r hr; simp at hr; (rcases hr with ⟨_, _, rfl⟩ | rfl) <;> rfl) | (intro r hr; simp at hr; (obtain ⟨_, _, rfl⟩ := hr); rfl)))) (hu : BUpd bs g (.rows rs cap s2 e) g (.rows rs' cap s2 e) bs' := by exact (by repeat (first | exact BUpd.head | apply BUpd.tail | apply BUpd.gB | apply BUpd.gO))) (hm0 : min n2 j = m := by exact (by first | rfl | (simp; done) | (simp only [List.length_map]; omega) | (simp; omega) | omega)) (hmy : m ≤ ys.length := by exact (by first | rfl | (simp; done) | (simp only [List.length_map]; omega) | (simp; omega) | omega)) (hrs : over rs i (ys.take m) = rs' := by rfl) (hi : i ≤ rs.length := by exact (by first | rfl | (simp; done) | (simp only [List.length_map]; omega) | (simp; omega) | omega)) (hcap : i + m ≤ cap := by exact (by first | rfl | (simp; done) | (simp only [List.length_map]; omega) | (simp; omega) | omega)) (hg : o.guard = none := by rfl) (hd : o.dst = some d := by rfl) (hN : Nat.blt d N = true := by rfl) (hk : okOps o = true := by rfl) (hdp : depsI ops idx n = true := by decide +kernel) (hld : loudI ops idx n = true := by decide +kernel) (hm : n + 1 = m' := by exact (by (conv => lhs; whnf) <;> rfl))
    (h : ADl P N ops Q m' ((n, true) :: idx) rest (⟨n, .v (.int .i64 m), some []⟩ :: cl) ((d, .v (.int .i64 m)) :: t) bs') : ADl P N ops Q n idx (o :: rest) cl t bs := by
  exact .w (OpW.copy ho hx hoff hy hm0 hmy hrs hu hi hcap) hg (by rw [hd]; exact hN) hk hdp hld hm (.inr fun y b' ⟨_, e2⟩ c hc L hL hn x hx => e2 ▸ hu.keeps (by intro cs h; cases h) _ _ (hn x hx)) fun _ _ ⟨e1, e2⟩ => by subst e1; subst e2; rw [hd]; exact h
theorem AL.copy0 {ty e : TypeId} {x z : Operand} {s1 b1 s2 b2 g off i j m n2 c cap : Nat} {d2 : TypeDesc} {rs ys rs' : List (List A)} {bs' : BS} (ho : o.op = .call { callee := .builtin .copy, args := #[x, z], argTypes := #[ty, ty] } := by rfl) (h1 : TI P ty (.slice e) s1 b1 := by infer_instance) (h2 : TI P e d2 s2 b2 := by infer_instance)
    (hx : Wk (evA t x) (.ms g off j c) := by exact (by first | exact Wk.refl _ | exact Wk.nil | exact Wk.clip _ | exact Wk.tip _ _ _ | exact Wk.opt _ _ (by first | assumption | rfl) | exact Wk.gr _ _ | exact Wk.nil_gr | exact Wk.trans (Wk.opt _ _ (by first | assumption | rfl)) (by first | exact Wk.gr _ _ | exact Wk.nil | exact Wk.clip _ | exact Wk.tip _ _ _) | exact Wk.aggs (by repeat (first | exact Wks.nil | refine Wks.cons (by first | exact Wk.refl _ | exact Wk.nil | exact Wk.clip _ | exact Wk.tip _ _ _ | exact Wk.gr _ _ | exact Wk.nil_gr | exact Wk.nil_ow | exact Wk.ms_ow _ _ _) ?_)) rfl | exact Wk.nil_ow | exact Wk.ms_ow _ _ _ | exact Wk.ow_ms _ _ _)) (hoff : off = i * s2 := by exact (by first | rfl | omega | exact (Nat.zero_mul _).symm)) (hy : Src t bs s2 z n2 ys := by exact (by first | exact Src.all (by first | exact Wk.refl _ | exact Wk.nil | exact Wk.clip _ | exact Wk.tip _ _ _ | exact Wk.opt _ _ (by first | assumption | rfl) | exact Wk.gr _ _ | exact Wk.nil_gr | exact Wk.trans (Wk.opt _ _ (by first | assumption | rfl)) (by first | exact Wk.gr _ _ | exact Wk.nil | exact Wk.clip _ | exact Wk.tip _ _ _) | exact Wk.aggs (by repeat (first | exact Wks.nil | refine Wks.cons (by first | exact Wk.refl _ | exact Wk.nil | exact Wk.clip _ | exact Wk.tip _ _ _ | exact Wk.gr _ _ | exact Wk.nil_gr | exact Wk.nil_ow | exact Wk.ms_ow _ _ _) ?_)) rfl | exact Wk.nil_ow | exact Wk.ms_ow _ _ _ | exact Wk.ow_ms _ _ _) (by first | rfl | omega | exact (Nat.zero_mul _).symm) (by repeat (first | exact List.mem_cons_self | assumption | refine List.mem_cons_of_mem _ ?_ | refine mem_gB ?_ | refine mem_gO ?_)) (by first | rfl | (simp; done) | (simp only [List.length_map]; omega) | (simp; omega) | omega) rfl | exact Src.sl (by first | exact Wk.refl _ | exact Wk.nil | exact Wk.clip _ | exact Wk.tip _ _ _ | exact Wk.opt _ _ (by first | assumption | rfl) | exact Wk.gr _ _ | exact Wk.nil_gr | exact Wk.trans (Wk.opt _ _ (by first | assumption | rfl)) (by first | exact Wk.gr _ _ | exact Wk.nil | exact Wk.clip _ | exact Wk.tip _ _ _) | exact Wk.aggs (by repeat (first | exact Wks.nil | refine Wks.cons (by first | exact Wk.refl _ | exact Wk.nil | exact Wk.clip _ | exact Wk.tip _ _ _ | exact Wk.gr _ _ | exact Wk.nil_gr | exact Wk.nil_ow | exact Wk.ms_ow _ _ _) ?_)) rfl | exact Wk.nil_ow | exact Wk.ms_ow _ _ _ | exact Wk.ow_ms _ _ _) rfl (by first | assumption | (intro r hr; simp at hr; done) | (intro r hr; simp at hr; subst hr; rfl) | (intro r hr; simp at hr; (rcases hr with ⟨_, _, rfl⟩ | rfl) <;> rfl) | (intro r hr; simp at hr; (obtain ⟨_, _, rfl⟩ := hr); rfl)))) (hu : BUpd bs g (.rows rs cap s2 e) g (.rows rs' cap s2 e) bs' := by exact (by repeat (first | exact BUpd.head | apply BUpd.tail | apply BUpd.gB | apply BUpd.gO))) (hm0 : min n2 j = m := by exact (by first | rfl | (simp; done) | (simp only [List.length_map]; omega) | (simp; omega) | omega)) (hmy : m ≤ ys.length := by exact (by first | rfl | (simp; done) | (simp only [List.length_map]; omega) | (simp; omega) | omega)) (hrs : over rs i (ys.take m) = rs' := by rfl) (hi : i ≤ rs.length := by exact (by first | rfl | (simp; done) | (simp only [List.length_map]; omega) | (simp; omega) | omega)) (hcap : i + m ≤ cap := by exact (by first | rfl | (simp; done) | (simp only [List.length_map]; omega) | (simp; omega) | omega)) (hg : o.guard = none := by rfl) (hk : okOps o = true := by rfl) (hd : o.dst = none := by rfl)
    (h : AL P N ops Q rest t bs') : AL P N ops Q (o :: rest) t bs := by
  exact .w (OpW.copy ho hx hoff hy hm0 hmy hrs hu hi hcap) hg hk (by rw [hd]; rfl) fun _ _ ⟨e1, e2⟩ => by subst e1; subst e2; rw [hd]; exact h
theorem ADl.copy0 {ty e : TypeId} {x z : Operand} {s1 b1 s2 b2 g off i j m n2 c cap : Nat} {d2 : TypeDesc} {rs ys rs' : List (List A)} {bs' : BS} (ho : o.op = .call { callee := .builtin .copy, args := #[x, z], argTypes := #[ty, ty] } := by rfl) (h1 : TI P ty (.slice e) s1 b1 := by infer_instance) (h2 : TI P e d2 s2 b2 := by infer_instance)
    (hx : Wk (evA t x) (.ms g off j c) := by exact (by first | exact Wk.refl _ | exact Wk.nil | exact Wk.clip _ | exact Wk.tip _ _ _ | exact Wk.opt _ _ (by first | assumption | rfl) | exact Wk.gr _ _ | exact Wk.nil_gr | exact Wk.trans (Wk.opt _ _ (by first | assumption | rfl)) (by first | exact Wk.gr _ _ | exact Wk.nil | exact Wk.clip _ | exact Wk.tip _ _ _) | exact Wk.aggs (by repeat (first | exact Wks.nil | refine Wks.cons (by first | exact Wk.refl _ | exact Wk.nil | exact Wk.clip _ | exact Wk.tip _ _ _ | exact Wk.gr _ _ | exact Wk.nil_gr | exact Wk.nil_ow | exact Wk.ms_ow _ _ _) ?_)) rfl | exact Wk.nil_ow | exact Wk.ms_ow _ _ _ | exact Wk.ow_ms _ _ _)) (hoff : off = i * s2 := by exact (by first | rfl | omega | exact (Nat.zero_mul _).symm)) (hy : Src t bs s2 z n2 ys := by exact (by first | exact Src.all (by first | exact Wk.refl _ | exact Wk.nil | exact Wk.clip _ | exact Wk.tip _ _ _ | exact Wk.opt _ _ (by first | assumption | rfl) | exact Wk.gr _ _ | exact Wk.nil_gr | exact Wk.trans (Wk.opt _ _ (by first | assumption | rfl)) (by first | exact Wk.gr _ _ | exact Wk.nil | exact Wk.clip _ | exact Wk.tip _ _ _) | exact Wk.aggs (by repeat (first | exact Wks.nil | refine Wks.cons (by first | exact Wk.refl _ | exact Wk.nil | exact Wk.clip _ | exact Wk.tip _ _ _ | exact Wk.gr _ _ | exact Wk.nil_gr | exact Wk.nil_ow | exact Wk.ms_ow _ _ _) ?_)) rfl | exact Wk.nil_ow | exact Wk.ms_ow _ _ _ | exact Wk.ow_ms _ _ _) (by first | rfl | omega | exact (Nat.zero_mul _).symm) (by repeat (first | exact List.mem_cons_self | assumption | refine List.mem_cons_of_mem _ ?_ | refine mem_gB ?_ | refine mem_gO ?_)) (by first | rfl | (simp; done) | (simp only [List.length_map]; omega) | (simp; omega) | omega) rfl | exact Src.sl (by first | exact Wk.refl _ | exact Wk.nil | exact Wk.clip _ | exact Wk.tip _ _ _ | exact Wk.opt _ _ (by first | assumption | rfl) | exact Wk.gr _ _ | exact Wk.nil_gr | exact Wk.trans (Wk.opt _ _ (by first | assumption | rfl)) (by first | exact Wk.gr _ _ | exact Wk.nil | exact Wk.clip _ | exact Wk.tip _ _ _) | exact Wk.aggs (by repeat (first | exact Wks.nil | refine Wks.cons (by first | exact Wk.refl _ | exact Wk.nil | exact Wk.clip _ | exact Wk.tip _ _ _ | exact Wk.gr _ _ | exact Wk.nil_gr | exact Wk.nil_ow | exact Wk.ms_ow _ _ _) ?_)) rfl | exact Wk.nil_ow | exact Wk.ms_ow _ _ _ | exact Wk.ow_ms _ _ _) rfl (by first | assumption | (intro r hr; simp at hr; done) | (intro r hr; simp at hr; subst hr; rfl) | (intro r hr; simp at hr; (rcases hr with ⟨_, _, rfl⟩ | rfl) <;> rfl) | (intro r hr; simp at hr; (obtain ⟨_, _, rfl⟩ := hr); rfl)))) (hu : BUpd bs g (.rows rs cap s2 e) g (.rows rs' cap s2 e) bs' := by exact (by repeat (first | exact BUpd.head | apply BUpd.tail | apply BUpd.gB | apply BUpd.gO))) (hm0 : min n2 j = m := by exact (by first | rfl | (simp; done) | (simp only [List.length_map]; omega) | (simp; omega) | omega)) (hmy : m ≤ ys.length := by exact (by first | rfl | (simp; done) | (simp only [List.length_map]; omega) | (simp; omega) | omega)) (hrs : over rs i (ys.take m) = rs' := by rfl) (hi : i ≤ rs.length := by exact (by first | rfl | (simp; done) | (simp only [List.length_map]; omega) | (simp; omega) | omega)) (hcap : i + m ≤ cap := by exact (by first | rfl | (simp; done) | (simp only [List.length_map]; omega) | (simp; omega) | omega)) (hg : o.guard = none := by rfl) (hd : o.dst = none := by rfl) (hk : okOps o = true := by rfl) (hdp : depsI ops idx n = true := by decide +kernel) (hld : loudI ops idx n = true := by decide +kernel) (hm : n + 1 = m' := by exact (by (conv => lhs; whnf) <;> rfl))
    (h : ADl P N ops Q m' ((n, true) :: idx) rest (⟨n, .v (.int .i64 m), some []⟩ :: cl) t bs') : ADl P N ops Q n idx (o :: rest) cl t bs := by
  exact .w (OpW.copy ho hx hoff hy hm0 hmy hrs hu hi hcap) hg (by rw [hd]; rfl) hk hdp hld hm (.inr fun y b' ⟨_, e2⟩ c hc L hL hn x hx => e2 ▸ hu.keeps (by intro cs h; cases h) _ _ (hn x hx)) fun _ _ ⟨e1, e2⟩ => by subst e1; subst e2; rw [hd]; exact h
theorem AL.clear {ty e : TypeId} {x : Operand} {s1 b1 s2 b2 g off i j c cap : Nat} {d2 : TypeDesc} {zs : List Value} {cs : List A} {rs rs' : List (List A)} {bs' : BS} (ho : o.op = .call { callee := .builtin .clear, args := #[x], argTypes := #[ty] } := by rfl) (h1 : TI P ty (.slice e) s1 b1 := by infer_instance) (h2 : TI P e d2 s2 b2 := by infer_instance) (hz : TC P e zs cs := by infer_instance)
    (hx : Wk (evA t x) (.ms g off j c) := by exact (by first | exact Wk.refl _ | exact Wk.nil | exact Wk.clip _ | exact Wk.tip _ _ _ | exact Wk.opt _ _ (by first | assumption | rfl) | exact Wk.gr _ _ | exact Wk.nil_gr | exact Wk.trans (Wk.opt _ _ (by first | assumption | rfl)) (by first | exact Wk.gr _ _ | exact Wk.nil | exact Wk.clip _ | exact Wk.tip _ _ _) | exact Wk.aggs (by repeat (first | exact Wks.nil | refine Wks.cons (by first | exact Wk.refl _ | exact Wk.nil | exact Wk.clip _ | exact Wk.tip _ _ _ | exact Wk.gr _ _ | exact Wk.nil_gr | exact Wk.nil_ow | exact Wk.ms_ow _ _ _) ?_)) rfl | exact Wk.nil_ow | exact Wk.ms_ow _ _ _ | exact Wk.ow_ms _ _ _)) (hoff : off = i * s2 := by exact (by first | rfl | omega | exact (Nat.zero_mul _).symm)) (hu : BUpd bs g (.rows rs cap s2 e) g (.rows rs' cap s2 e) bs' := by exact (by repeat (first | exact BUpd.head | apply BUpd.tail | apply BUpd.gB | apply BUpd.gO))) (hrs : over rs i (List.replicate j cs) = rs' := by rfl) (hi : i ≤ rs.length := by exact (by first | rfl | (simp; done) | (simp only [List.length_map]; omega) | (simp; omega) | omega)) (hcap : i + j ≤ cap := by exact (by first | rfl | (simp; done) | (simp only [List.length_map]; omega) | (simp; omega) | omega)) (hzl : cs.length = s2 := by rfl) (hpos : 0 < s2 := by decide) (hg : o.guard = none := by rfl) (hk : okOps o = true := by rfl) (hd : o.dst = none := by rfl)
    (h : AL P N ops Q rest t bs') : AL P N ops Q (o :: rest) t bs := by
  exact .w (OpW.clear ho hx hoff hrs hu hi hcap hzl hpos) hg hk (by rw [hd]; rfl) fun _ _ ⟨e1, e2⟩ => by subst e1; subst e2; rw [hd]; exact h
theorem ADl.clear {ty e : TypeId} {x : Operand} {s1 b1 s2 b2 g off i j c cap : Nat} {d2 : TypeDesc} {zs : List Value} {cs : List A} {rs rs' : List (List A)} {bs' : BS} (ho : o.op = .call { callee := .builtin .clear, args := #[x], argTypes := #[ty] } := by rfl) (h1 : TI P ty (.slice e) s1 b1 := by infer_instance) (h2 : TI P e d2 s2 b2 := by infer_instance) (hz : TC P e zs cs := by infer_instance)
    (hx : Wk (evA t x) (.ms g off j c) := by exact (by first | exact Wk.refl _ | exact Wk.nil | exact Wk.clip _ | exact Wk.tip _ _ _ | exact Wk.opt _ _ (by first | assumption | rfl) | exact Wk.gr _ _ | exact Wk.nil_gr | exact Wk.trans (Wk.opt _ _ (by first | assumption | rfl)) (by first | exact Wk.gr _ _ | exact Wk.nil | exact Wk.clip _ | exact Wk.tip _ _ _) | exact Wk.aggs (by repeat (first | exact Wks.nil | refine Wks.cons (by first | exact Wk.refl _ | exact Wk.nil | exact Wk.clip _ | exact Wk.tip _ _ _ | exact Wk.gr _ _ | exact Wk.nil_gr | exact Wk.nil_ow | exact Wk.ms_ow _ _ _) ?_)) rfl | exact Wk.nil_ow | exact Wk.ms_ow _ _ _ | exact Wk.ow_ms _ _ _)) (hoff : off = i * s2 := by exact (by first | rfl | omega | exact (Nat.zero_mul _).symm)) (hu : BUpd bs g (.rows rs cap s2 e) g (.rows rs' cap s2 e) bs' := by exact (by repeat (first | exact BUpd.head | apply BUpd.tail | apply BUpd.gB | apply BUpd.gO))) (hrs : over rs i (List.replicate j cs) = rs' := by rfl) (hi : i ≤ rs.length := by exact (by first | rfl | (simp; done) | (simp only [List.length_map]; omega) | (simp; omega) | omega)) (hcap : i + j ≤ cap := by exact (by first | rfl | (simp; done) | (simp only [List.length_map]; omega) | (simp; omega) | omega)) (hzl : cs.length = s2 := by rfl) (hpos : 0 < s2 := by decide) (hg : o.guard = none := by rfl) (hd : o.dst = none := by rfl) (hk : okOps o = true := by rfl) (hdp : depsI ops idx n = true := by decide +kernel) (hld : loudI ops idx n = true := by decide +kernel) (hm : n + 1 = m' := by exact (by (conv => lhs; whnf) <;> rfl))
    (h : ADl P N ops Q m' ((n, true) :: idx) rest (⟨n, .tup [], some []⟩ :: cl) t bs') : ADl P N ops Q n idx (o :: rest) cl t bs := by
  exact .w (OpW.clear ho hx hoff hrs hu hi hcap hzl hpos) hg (by rw [hd]; rfl) hk hdp hld hm (.inr fun y b' ⟨_, e2⟩ c hc L hL hn x hx => e2 ▸ hu.keeps (by intro cs h; cases h) _ _ (hn x hx)) fun _ _ ⟨e1, e2⟩ => by subst e1; subst e2; rw [hd]; exact h
theorem AL.nil_any {e : TypeId} {rows : List (List A)} {ty ty2 : TypeId} {x : Operand} {s1 b1 : Nat} (ho : o.op = .binOp .eql ty x (.const (.slice none 0 0)) ty2 := by rfl) (h1 : TI P ty (.slice e) s1 b1 := by infer_instance) (hx : Wk (evA t x) (.sl rows) := by exact (by first | exact Wk.refl _ | exact Wk.nil | exact Wk.clip _ | exact Wk.tip _ _ _ | exact Wk.opt _ _ (by first | assumption | rfl) | exact Wk.gr _ _ | exact Wk.nil_gr | exact Wk.trans (Wk.opt _ _ (by first | assumption | rfl)) (by first | exact Wk.gr _ _ | exact Wk.nil | exact Wk.clip _ | exact Wk.tip _ _ _) | exact Wk.aggs (by repeat (first | exact Wks.nil | refine Wks.cons (by first | exact Wk.refl _ | exact Wk.nil | exact Wk.clip _ | exact Wk.tip _ _ _ | exact Wk.gr _ _ | exact Wk.nil_gr | exact Wk.nil_ow | exact Wk.ms_ow _ _ _) ?_)) rfl | exact Wk.nil_ow | exact Wk.ms_ow _ _ _ | exact Wk.ow_ms _ _ _)) (hg : o.guard = none := by rfl) (hk : okOps o = true := by rfl) (hd : o.dst = some d := by rfl) (hN : Nat.blt d N = true := by rfl)
    (h : ∀ b : Bool, (b = true → rows = []) → AL P N ops Q rest ((d, .v (.bool b)) :: t) bs) : AL P N ops Q (o :: rest) t bs :=
  .w (OpW.nil_any ho hx) hg hk (by rw [hd]; exact hN) fun _ _ ⟨b, e1, e2, e3⟩ => by subst e1; subst e2; rw [hd]; exact h b e3
theorem AL.lits_own {ty e : TypeId} {s1 b1 s2 b2 k : Nat} {d2 : TypeDesc} {zs : List Value} {cs : List A} {parts : Array (Nat × Operand)} {r : List Operand} {ys : List A} {rows : List (List A)} (ho : o.op = .buildSlice ty k parts := by rfl) (h1 : TI P ty (.slice e) s1 b1 := by infer_instance) (h2 : TI P e d2 s2 b2 := by infer_instance) (hz : TC P e zs cs := by infer_instance) (hr0 : parts.toList.map (·.2) = r := by (simp only [List.map_cons, List.map_nil] <;> rfl))
    (hp : parts = (r.zipIdx.map fun p => (p.2, p.1)).toArray := by rfl) (hr : Rows_ t r ys := by exact (by repeat (first | exact Rows_.nil | (apply Rows_.cons; exact Wk.of_eq (by (conv => lhs; whnf) <;> rfl); exact (by first | exact .inl rfl | exact .inr ⟨_, rfl⟩))))) (hn : r.length = k := by rfl) (hs : ys.all (fun y => (cellsOf y).length == s2) = true := by exact (by first | rfl | (simp [cellsOf]; done) | (simp only [List.map_cons, List.map_nil, cellsOf]) <;> rfl)) (hrows : ys.map cellsOf = rows := by exact (by first | ((simp only [List.map_cons, List.map_nil, cellsOf]) <;> rfl) | rfl)) (hlim : k * s2 ≤ 16777216 := by decide) (hpos : 0 < s2 := by decide)
    (hg : o.guard = none := by rfl) (hk : okOps o = true := by rfl) (hd : o.dst = some d := by rfl) (hN : Nat.blt d N = true := by rfl)
    (h : ∀ g, AL P N ops Q rest ((d, .ms g 0 k k) :: t) ((g, .rows rows k s2 e) :: bs)) : AL P N ops Q (o :: rest) t bs :=
  .w (OpW.lits ho hr0 hp hr hn hs hrows hlim hpos) hg hk (by rw [hd]; exact hN) fun _ _ ⟨g, e1, e2⟩ => by subst e1; subst e2; rw [hd]; exact h g
theorem AL.app_zeros {ty tn e : TypeId} {x z : Operand} {kq kn : IntKind} {s1 b1 s2 b2 s3 b3 g i k c cap : Nat} {d2 : TypeDesc} {zs : List Value} {cs : List A} {rs rs' : List (List A)} (ho : o.op = .call { callee := .builtin .append, args := #[x, z], argTypes := #[ty, tn] } := by rfl) (h1 : TI P ty (.slice e) s1 b1 := by infer_instance) (h2 : TI P e d2 s2 b2 := by infer_instance) (h3 : TI P tn (.int kn) s3 b3 := by infer_instance) (hz : TC P e zs cs := by infer_instance)
    (hx : Wk (evA t x) (.ms g 0 i c) := by exact (by first | exact Wk.refl _ | exact Wk.nil | exact Wk.clip _ | exact Wk.tip _ _ _ | exact Wk.opt _ _ (by first | assumption | rfl) | exact Wk.gr _ _ | exact Wk.nil_gr | exact Wk.trans (Wk.opt _ _ (by first | assumption | rfl)) (by first | exact Wk.gr _ _ | exact Wk.nil | exact Wk.clip _ | exact Wk.tip _ _ _) | exact Wk.aggs (by repeat (first | exact Wks.nil | refine Wks.cons (by first | exact Wk.refl _ | exact Wk.nil | exact Wk.clip _ | exact Wk.tip _ _ _ | exact Wk.gr _ _ | exact Wk.nil_gr | exact Wk.nil_ow | exact Wk.ms_ow _ _ _) ?_)) rfl | exact Wk.nil_ow | exact Wk.ms_ow _ _ _ | exact Wk.ow_ms _ _ _)) (hk : Wk (evA t z) (.v (.int kq (k : Nat))) := by exact (by first | exact Wk.refl _ | exact Wk.nil | exact Wk.clip _ | exact Wk.tip _ _ _ | exact Wk.opt _ _ (by first | assumption | rfl) | exact Wk.gr _ _ | exact Wk.nil_gr | exact Wk.trans (Wk.opt _ _ (by first | assumption | rfl)) (by first | exact Wk.gr _ _ | exact Wk.nil | exact Wk.clip _ | exact Wk.tip _ _ _) | exact Wk.aggs (by repeat (first | exact Wks.nil | refine Wks.cons (by first | exact Wk.refl _ | exact Wk.nil | exact Wk.clip _ | exact Wk.tip _ _ _ | exact Wk.gr _ _ | exact Wk.nil_gr | exact Wk.nil_ow | exact Wk.ms_ow _ _ _) ?_)) rfl | exact Wk.nil_ow | exact Wk.ms_ow _ _ _ | exact Wk.ow_ms _ _ _)) (hm : (g, .rows rs cap s2 e) ∈ bs := by exact (by repeat (first | exact List.mem_cons_self | assumption | refine List.mem_cons_of_mem _ ?_ | refine mem_gB ?_ | refine mem_gO ?_))) (hi : i ≤ rs.length := by exact (by first | rfl | (simp; done) | (simp only [List.length_map]; omega) | (simp; omega) | omega)) (hrs : rs.take i ++ List.replicate k cs = rs' := by rfl) (h0 : 0 < k := by omega) (hc : c < i + k := by omega) (hzl : cs.length = s2 := by rfl) (hpos : 0 < s2 := by decide) (hb2 : 0 < b2 := by decide) (hbd : (i + k) * b2 ≤ 140737488355328 := by omega)
    (hg : o.guard = none := by rfl) (hok : okOps o = true := by rfl) (hd : o.dst = some d := by rfl) (hN : Nat.blt d N = true := by rfl)
    (h : ∀ g' c', i + k ≤ c' → AL P N ops Q rest ((d, .ms g' 0 (i + k) c') :: t) ((g', .rows rs' c' s2 e) :: bs)) : AL P N ops Q (o :: rest) t bs :=
  .w (OpW.app_zeros ho hx hk hm hi hrs h0 hc hzl hpos hb2 hbd) hg hok (by rw [hd]; exact hN) fun _ _ ⟨g, c, e1, e2, e3⟩ => by subst e1; subst e2; rw [hd]; exact h g c e3
/-- No two blocks are one. -/
theorem AL.nodup (h : (bs.map (·.1)).Nodup → AL P N ops Q rest t bs) : AL P N ops Q rest t bs := fun w0 Z0 a w hG hE => h hG.bs.nodup w0 Z0 a w hG hE
theorem AW.nodup {x : Code} (h : (bs.map (·.1)).Nodup → AW P N x Q t bs) : AW P N x Q t bs := fun w0 Z0 a w hG hE => h hG.bs.nodup w0 Z0 a w hG hE
end
end Go.Proofs.YtnkkfmnpkgjabaaGreat.X

/- Facts on this seat's types and functions, printed by a program of this repo (gen_ty.py). -/
namespace Go.Proofs.YtnkkfmnpkgjabaaGreat.X
open Go.RowKit
instance : TI Tryz.prog 1 (Go.TypeDesc.func #[] #[] false) 1 8 := ⟨by kernel_rfl, by kernel_rfl⟩
instance : TC Tryz.prog 1 [.nilFunc] [.v .nilFunc] := ⟨⟨.nilFunc, by kernel_rfl, rfl⟩, rfl, rfl⟩
instance : TI Tryz.prog 2 (Go.TypeDesc.int (Go.IntKind.i64)) 1 8 := ⟨by kernel_rfl, by kernel_rfl⟩
instance : TC Tryz.prog 2 [(.int .i64 0)] [.v (.int .i64 0)] := ⟨⟨(.int .i64 0), by kernel_rfl, rfl⟩, rfl, rfl⟩
instance : TI Tryz.prog 3 (Go.TypeDesc.int (Go.IntKind.i64)) 1 8 := ⟨by kernel_rfl, by kernel_rfl⟩
instance : TC Tryz.prog 3 [(.int .i64 0)] [.v (.int .i64 0)] := ⟨⟨(.int .i64 0), by kernel_rfl, rfl⟩, rfl, rfl⟩
instance : TI Tryz.prog 4 (Go.TypeDesc.bool) 1 1 := ⟨by kernel_rfl, by kernel_rfl⟩
instance : TC Tryz.prog 4 [(.bool false)] [.v (.bool false)] := ⟨⟨(.bool false), by kernel_rfl, rfl⟩, rfl, rfl⟩
instance : TI Tryz.prog 5 (Go.TypeDesc.int (Go.IntKind.u8)) 1 1 := ⟨by kernel_rfl, by kernel_rfl⟩
instance : TC Tryz.prog 5 [(.int .u8 0)] [.v (.int .u8 0)] := ⟨⟨(.int .u8 0), by kernel_rfl, rfl⟩, rfl, rfl⟩
instance : TI Tryz.prog 6 (Go.TypeDesc.int (Go.IntKind.u8)) 1 1 := ⟨by kernel_rfl, by kernel_rfl⟩
instance : TC Tryz.prog 6 [(.int .u8 0)] [.v (.int .u8 0)] := ⟨⟨(.int .u8 0), by kernel_rfl, rfl⟩, rfl, rfl⟩
instance : TI Tryz.prog 7 (Go.TypeDesc.struct #[{ name := "x", type := 2, offset := 0, embedded := false, tag := "", pkgPath := "runtime", byteOffset := 0 }, { name := "y", type := 3, offset := 1, embedded := false, tag := "", pkgPath := "runtime", byteOffset := 8 }, { name := "signed", type := 4, offset := 2, embedded := false, tag := "", pkgPath := "runtime", byteOffset := 16 }, { name := "code", type := 6, offset := 3, embedded := false, tag := "", pkgPath := "runtime", byteOffset := 17 }]) 4 24 := ⟨by kernel_rfl, by kernel_rfl⟩
instance : TS Tryz.prog 7 [(0, 1), (1, 1), (2, 1), (3, 1)] := ⟨by kernel_rfl⟩
instance : TC Tryz.prog 7 [(.int .i64 0), (.int .i64 0), (.bool false), (.int .u8 0)] [.v (.int .i64 0), .v (.int .i64 0), .v (.bool false), .v (.int .u8 0)] := ⟨⟨.agg #[(.int .i64 0), (.int .i64 0), (.bool false), (.int .u8 0)], by kernel_rfl, rfl⟩, rfl, rfl⟩
instance : TI Tryz.prog 8 (Go.TypeDesc.struct #[{ name := "x", type := 2, offset := 0, embedded := false, tag := "", pkgPath := "runtime", byteOffset := 0 }, { name := "y", type := 3, offset := 1, embedded := false, tag := "", pkgPath := "runtime", byteOffset := 8 }, { name := "signed", type := 4, offset := 2, embedded := false, tag := "", pkgPath := "runtime", byteOffset := 16 }, { name := "code", type := 6, offset := 3, embedded := false, tag := "", pkgPath := "runtime", byteOffset := 17 }]) 4 24 := ⟨by kernel_rfl, by kernel_rfl⟩
instance : TS Tryz.prog 8 [(0, 1), (1, 1), (2, 1), (3, 1)] := ⟨by kernel_rfl⟩
instance : TC Tryz.prog 8 [(.int .i64 0), (.int .i64 0), (.bool false), (.int .u8 0)] [.v (.int .i64 0), .v (.int .i64 0), .v (.bool false), .v (.int .u8 0)] := ⟨⟨.agg #[(.int .i64 0), (.int .i64 0), (.bool false), (.int .u8 0)], by kernel_rfl, rfl⟩, rfl, rfl⟩
instance : TI Tryz.prog 9 (Go.TypeDesc.string) 1 16 := ⟨by kernel_rfl, by kernel_rfl⟩
instance : TC Tryz.prog 9 [(.string ⟨#[]⟩)] [.v (.string ⟨#[]⟩)] := ⟨⟨(.string ⟨#[]⟩), by kernel_rfl, rfl⟩, rfl, rfl⟩
instance : TI Tryz.prog 10 (Go.TypeDesc.string) 1 16 := ⟨by kernel_rfl, by kernel_rfl⟩
instance : TC Tryz.prog 10 [(.string ⟨#[]⟩)] [.v (.string ⟨#[]⟩)] := ⟨⟨(.string ⟨#[]⟩), by kernel_rfl, rfl⟩, rfl, rfl⟩
instance : TI Tryz.prog 11 (Go.TypeDesc.string) 1 16 := ⟨by kernel_rfl, by kernel_rfl⟩
instance : TC Tryz.prog 11 [(.string ⟨#[]⟩)] [.v (.string ⟨#[]⟩)] := ⟨⟨(.string ⟨#[]⟩), by kernel_rfl, rfl⟩, rfl, rfl⟩
instance : TI Tryz.prog 12 (Go.TypeDesc.int (Go.IntKind.u64)) 1 8 := ⟨by kernel_rfl, by kernel_rfl⟩
instance : TC Tryz.prog 12 [(.int .u64 0)] [.v (.int .u64 0)] := ⟨⟨(.int .u64 0), by kernel_rfl, rfl⟩, rfl, rfl⟩
instance : TI Tryz.prog 13 (Go.TypeDesc.struct #[{ name := "msg", type := 9, offset := 0, embedded := false, tag := "", pkgPath := "runtime", byteOffset := 0 }, { name := "addr", type := 12, offset := 1, embedded := false, tag := "", pkgPath := "runtime", byteOffset := 16 }]) 2 24 := ⟨by kernel_rfl, by kernel_rfl⟩
instance : TS Tryz.prog 13 [(0, 1), (1, 1)] := ⟨by kernel_rfl⟩
instance : TC Tryz.prog 13 [(.string ⟨#[]⟩), (.int .u64 0)] [.v (.string ⟨#[]⟩), .v (.int .u64 0)] := ⟨⟨.agg #[(.string ⟨#[]⟩), (.int .u64 0)], by kernel_rfl, rfl⟩, rfl, rfl⟩
instance : TI Tryz.prog 14 (Go.TypeDesc.struct #[{ name := "msg", type := 9, offset := 0, embedded := false, tag := "", pkgPath := "runtime", byteOffset := 0 }, { name := "addr", type := 12, offset := 1, embedded := false, tag := "", pkgPath := "runtime", byteOffset := 16 }]) 2 24 := ⟨by kernel_rfl, by kernel_rfl⟩
instance : TS Tryz.prog 14 [(0, 1), (1, 1)] := ⟨by kernel_rfl⟩
instance : TC Tryz.prog 14 [(.string ⟨#[]⟩), (.int .u64 0)] [.v (.string ⟨#[]⟩), .v (.int .u64 0)] := ⟨⟨.agg #[(.string ⟨#[]⟩), (.int .u64 0)], by kernel_rfl, rfl⟩, rfl, rfl⟩
instance : TI Tryz.prog 15 (Go.TypeDesc.pointer 224) 1 8 := ⟨by kernel_rfl, by kernel_rfl⟩
instance : TC Tryz.prog 15 [(.pointer none)] [.v (.pointer none)] := ⟨⟨(.pointer none), by kernel_rfl, rfl⟩, rfl, rfl⟩
instance : TI Tryz.prog 16 (Go.TypeDesc.pointer 227) 1 8 := ⟨by kernel_rfl, by kernel_rfl⟩
instance : TC Tryz.prog 16 [(.pointer none)] [.v (.pointer none)] := ⟨⟨(.pointer none), by kernel_rfl, rfl⟩, rfl, rfl⟩
instance : TI Tryz.prog 17 (Go.TypeDesc.pointer 234) 1 8 := ⟨by kernel_rfl, by kernel_rfl⟩
instance : TC Tryz.prog 17 [(.pointer none)] [.v (.pointer none)] := ⟨⟨(.pointer none), by kernel_rfl, rfl⟩, rfl, rfl⟩
instance : TI Tryz.prog 18 (Go.TypeDesc.struct #[{ name := "typ", type := 17, offset := 0, embedded := false, tag := "", pkgPath := "internal/runtime/maps", byteOffset := 0 }]) 1 8 := ⟨by kernel_rfl, by kernel_rfl⟩
instance : TS Tryz.prog 18 [(0, 1)] := ⟨by kernel_rfl⟩
instance : TC Tryz.prog 18 [(.pointer none)] [.v (.pointer none)] := ⟨⟨.agg #[(.pointer none)], by kernel_rfl, rfl⟩, rfl, rfl⟩
instance : TI Tryz.prog 19 (Go.TypeDesc.struct #[{ name := "typ", type := 17, offset := 0, embedded := false, tag := "", pkgPath := "internal/runtime/maps", byteOffset := 0 }]) 1 8 := ⟨by kernel_rfl, by kernel_rfl⟩
instance : TS Tryz.prog 19 [(0, 1)] := ⟨by kernel_rfl⟩
instance : TC Tryz.prog 19 [(.pointer none)] [.v (.pointer none)] := ⟨⟨.agg #[(.pointer none)], by kernel_rfl, rfl⟩, rfl, rfl⟩
instance : TI Tryz.prog 20 (Go.TypeDesc.interface #[]) 1 16 := ⟨by kernel_rfl, by kernel_rfl⟩
instance : TC Tryz.prog 20 [.nilIface] [.v .nilIface] := ⟨⟨.nilIface, by kernel_rfl, rfl⟩, rfl, rfl⟩
instance : TI Tryz.prog 21 (Go.TypeDesc.int (Go.IntKind.i32)) 1 4 := ⟨by kernel_rfl, by kernel_rfl⟩
instance : TC Tryz.prog 21 [(.int .i32 0)] [.v (.int .i32 0)] := ⟨⟨(.int .i32 0), by kernel_rfl, rfl⟩, rfl, rfl⟩
instance : TI Tryz.prog 22 (Go.TypeDesc.func #[3, 3] #[3] false) 1 8 := ⟨by kernel_rfl, by kernel_rfl⟩
instance : TC Tryz.prog 22 [.nilFunc] [.v .nilFunc] := ⟨⟨.nilFunc, by kernel_rfl, rfl⟩, rfl, rfl⟩
instance : TI Tryz.prog 23 (Go.TypeDesc.slice 41) 1 24 := ⟨by kernel_rfl, by kernel_rfl⟩
instance : TC Tryz.prog 23 [(.slice none 0 0)] [.nil] := ⟨⟨(.slice none 0 0), by kernel_rfl, rfl⟩, rfl, rfl⟩
instance : TI Tryz.prog 24 (Go.TypeDesc.slice 37) 1 24 := ⟨by kernel_rfl, by kernel_rfl⟩
instance : TC Tryz.prog 24 [(.slice none 0 0)] [.nil] := ⟨⟨(.slice none 0 0), by kernel_rfl, rfl⟩, rfl, rfl⟩
instance : TI Tryz.prog 25 (Go.TypeDesc.slice 3) 1 24 := ⟨by kernel_rfl, by kernel_rfl⟩
instance : TC Tryz.prog 25 [(.slice none 0 0)] [.nil] := ⟨⟨(.slice none 0 0), by kernel_rfl, rfl⟩, rfl, rfl⟩
instance : TI Tryz.prog 26 (Go.TypeDesc.slice 9) 1 24 := ⟨by kernel_rfl, by kernel_rfl⟩
instance : TC Tryz.prog 26 [(.slice none 0 0)] [.nil] := ⟨⟨(.slice none 0 0), by kernel_rfl, rfl⟩, rfl, rfl⟩
instance : TI Tryz.prog 27 (Go.TypeDesc.struct #[{ name := "ID", type := 9, offset := 0, embedded := false, tag := "", pkgPath := "", byteOffset := 0 }, { name := "Parties", type := 23, offset := 1, embedded := false, tag := "", pkgPath := "", byteOffset := 16 }, { name := "Arcs", type := 24, offset := 2, embedded := false, tag := "", pkgPath := "", byteOffset := 40 }, { name := "Leaders", type := 25, offset := 3, embedded := false, tag := "", pkgPath := "", byteOffset := 64 }, { name := "Locks", type := 26, offset := 4, embedded := false, tag := "", pkgPath := "", byteOffset := 88 }, { name := "Start", type := 3, offset := 5, embedded := false, tag := "", pkgPath := "", byteOffset := 112 }, { name := "Delta", type := 3, offset := 6, embedded := false, tag := "", pkgPath := "", byteOffset := 120 }]) 7 128 := ⟨by kernel_rfl, by kernel_rfl⟩
instance : TS Tryz.prog 27 [(0, 1), (1, 1), (2, 1), (3, 1), (4, 1), (5, 1), (6, 1)] := ⟨by kernel_rfl⟩
instance : TC Tryz.prog 27 [(.string ⟨#[]⟩), (.slice none 0 0), (.slice none 0 0), (.slice none 0 0), (.slice none 0 0), (.int .i64 0), (.int .i64 0)] [.v (.string ⟨#[]⟩), .nil, .nil, .nil, .nil, .v (.int .i64 0), .v (.int .i64 0)] := ⟨⟨.agg #[(.string ⟨#[]⟩), (.slice none 0 0), (.slice none 0 0), (.slice none 0 0), (.slice none 0 0), (.int .i64 0), (.int .i64 0)], by kernel_rfl, rfl⟩, rfl, rfl⟩
instance : TI Tryz.prog 28 (Go.TypeDesc.struct #[{ name := "ID", type := 9, offset := 0, embedded := false, tag := "", pkgPath := "", byteOffset := 0 }, { name := "Parties", type := 23, offset := 1, embedded := false, tag := "", pkgPath := "", byteOffset := 16 }, { name := "Arcs", type := 24, offset := 2, embedded := false, tag := "", pkgPath := "", byteOffset := 40 }, { name := "Leaders", type := 25, offset := 3, embedded := false, tag := "", pkgPath := "", byteOffset := 64 }, { name := "Locks", type := 26, offset := 4, embedded := false, tag := "", pkgPath := "", byteOffset := 88 }, { name := "Start", type := 3, offset := 5, embedded := false, tag := "", pkgPath := "", byteOffset := 112 }, { name := "Delta", type := 3, offset := 6, embedded := false, tag := "", pkgPath := "", byteOffset := 120 }]) 7 128 := ⟨by kernel_rfl, by kernel_rfl⟩
instance : TS Tryz.prog 28 [(0, 1), (1, 1), (2, 1), (3, 1), (4, 1), (5, 1), (6, 1)] := ⟨by kernel_rfl⟩
instance : TC Tryz.prog 28 [(.string ⟨#[]⟩), (.slice none 0 0), (.slice none 0 0), (.slice none 0 0), (.slice none 0 0), (.int .i64 0), (.int .i64 0)] [.v (.string ⟨#[]⟩), .nil, .nil, .nil, .nil, .v (.int .i64 0), .v (.int .i64 0)] := ⟨⟨.agg #[(.string ⟨#[]⟩), (.slice none 0 0), (.slice none 0 0), (.slice none 0 0), (.slice none 0 0), (.int .i64 0), (.int .i64 0)], by kernel_rfl, rfl⟩, rfl, rfl⟩
instance : TI Tryz.prog 29 (Go.TypeDesc.func #[3, 3, 3] #[28] false) 1 8 := ⟨by kernel_rfl, by kernel_rfl⟩
instance : TC Tryz.prog 29 [.nilFunc] [.v .nilFunc] := ⟨⟨.nilFunc, by kernel_rfl, rfl⟩, rfl, rfl⟩
instance : TI Tryz.prog 30 (Go.TypeDesc.slice 88) 1 24 := ⟨by kernel_rfl, by kernel_rfl⟩
instance : TC Tryz.prog 30 [(.slice none 0 0)] [.nil] := ⟨⟨(.slice none 0 0), by kernel_rfl, rfl⟩, rfl, rfl⟩
instance : TI Tryz.prog 31 (Go.TypeDesc.slice 65) 1 24 := ⟨by kernel_rfl, by kernel_rfl⟩
instance : TC Tryz.prog 31 [(.slice none 0 0)] [.nil] := ⟨⟨(.slice none 0 0), by kernel_rfl, rfl⟩, rfl, rfl⟩
instance : TI Tryz.prog 32 (Go.TypeDesc.struct #[{ name := "Number", type := 3, offset := 0, embedded := false, tag := "", pkgPath := "", byteOffset := 0 }, { name := "Time", type := 3, offset := 1, embedded := false, tag := "", pkgPath := "", byteOffset := 8 }, { name := "Accounts", type := 26, offset := 2, embedded := false, tag := "", pkgPath := "", byteOffset := 16 }, { name := "Funds", type := 30, offset := 3, embedded := false, tag := "", pkgPath := "", byteOffset := 40 }, { name := "Escrows", type := 31, offset := 4, embedded := false, tag := "", pkgPath := "", byteOffset := 64 }]) 5 88 := ⟨by kernel_rfl, by kernel_rfl⟩
instance : TS Tryz.prog 32 [(0, 1), (1, 1), (2, 1), (3, 1), (4, 1)] := ⟨by kernel_rfl⟩
instance : TC Tryz.prog 32 [(.int .i64 0), (.int .i64 0), (.slice none 0 0), (.slice none 0 0), (.slice none 0 0)] [.v (.int .i64 0), .v (.int .i64 0), .nil, .nil, .nil] := ⟨⟨.agg #[(.int .i64 0), (.int .i64 0), (.slice none 0 0), (.slice none 0 0), (.slice none 0 0)], by kernel_rfl, rfl⟩, rfl, rfl⟩
instance : TI Tryz.prog 33 (Go.TypeDesc.struct #[{ name := "Number", type := 3, offset := 0, embedded := false, tag := "", pkgPath := "", byteOffset := 0 }, { name := "Time", type := 3, offset := 1, embedded := false, tag := "", pkgPath := "", byteOffset := 8 }, { name := "Accounts", type := 26, offset := 2, embedded := false, tag := "", pkgPath := "", byteOffset := 16 }, { name := "Funds", type := 30, offset := 3, embedded := false, tag := "", pkgPath := "", byteOffset := 40 }, { name := "Escrows", type := 31, offset := 4, embedded := false, tag := "", pkgPath := "", byteOffset := 64 }]) 5 88 := ⟨by kernel_rfl, by kernel_rfl⟩
instance : TS Tryz.prog 33 [(0, 1), (1, 1), (2, 1), (3, 1), (4, 1)] := ⟨by kernel_rfl⟩
instance : TC Tryz.prog 33 [(.int .i64 0), (.int .i64 0), (.slice none 0 0), (.slice none 0 0), (.slice none 0 0)] [.v (.int .i64 0), .v (.int .i64 0), .nil, .nil, .nil] := ⟨⟨.agg #[(.int .i64 0), (.int .i64 0), (.slice none 0 0), (.slice none 0 0), (.slice none 0 0)], by kernel_rfl, rfl⟩, rfl, rfl⟩
instance : TI Tryz.prog 34 (Go.TypeDesc.slice 33) 1 24 := ⟨by kernel_rfl, by kernel_rfl⟩
instance : TC Tryz.prog 34 [(.slice none 0 0)] [.nil] := ⟨⟨(.slice none 0 0), by kernel_rfl, rfl⟩, rfl, rfl⟩
instance : TI Tryz.prog 35 (Go.TypeDesc.func #[28] #[34] false) 1 8 := ⟨by kernel_rfl, by kernel_rfl⟩
instance : TC Tryz.prog 35 [.nilFunc] [.v .nilFunc] := ⟨⟨.nilFunc, by kernel_rfl, rfl⟩, rfl, rfl⟩
instance : TI Tryz.prog 36 (Go.TypeDesc.struct #[{ name := "From", type := 3, offset := 0, embedded := false, tag := "", pkgPath := "", byteOffset := 0 }, { name := "To", type := 3, offset := 1, embedded := false, tag := "", pkgPath := "", byteOffset := 8 }, { name := "Ledger", type := 3, offset := 2, embedded := false, tag := "", pkgPath := "", byteOffset := 16 }, { name := "Asset", type := 9, offset := 3, embedded := false, tag := "", pkgPath := "", byteOffset := 24 }, { name := "Amount", type := 3, offset := 4, embedded := false, tag := "", pkgPath := "", byteOffset := 40 }]) 5 48 := ⟨by kernel_rfl, by kernel_rfl⟩
instance : TS Tryz.prog 36 [(0, 1), (1, 1), (2, 1), (3, 1), (4, 1)] := ⟨by kernel_rfl⟩
instance : TC Tryz.prog 36 [(.int .i64 0), (.int .i64 0), (.int .i64 0), (.string ⟨#[]⟩), (.int .i64 0)] [.v (.int .i64 0), .v (.int .i64 0), .v (.int .i64 0), .v (.string ⟨#[]⟩), .v (.int .i64 0)] := ⟨⟨.agg #[(.int .i64 0), (.int .i64 0), (.int .i64 0), (.string ⟨#[]⟩), (.int .i64 0)], by kernel_rfl, rfl⟩, rfl, rfl⟩
instance : TI Tryz.prog 37 (Go.TypeDesc.struct #[{ name := "From", type := 3, offset := 0, embedded := false, tag := "", pkgPath := "", byteOffset := 0 }, { name := "To", type := 3, offset := 1, embedded := false, tag := "", pkgPath := "", byteOffset := 8 }, { name := "Ledger", type := 3, offset := 2, embedded := false, tag := "", pkgPath := "", byteOffset := 16 }, { name := "Asset", type := 9, offset := 3, embedded := false, tag := "", pkgPath := "", byteOffset := 24 }, { name := "Amount", type := 3, offset := 4, embedded := false, tag := "", pkgPath := "", byteOffset := 40 }]) 5 48 := ⟨by kernel_rfl, by kernel_rfl⟩
instance : TS Tryz.prog 37 [(0, 1), (1, 1), (2, 1), (3, 1), (4, 1)] := ⟨by kernel_rfl⟩
instance : TC Tryz.prog 37 [(.int .i64 0), (.int .i64 0), (.int .i64 0), (.string ⟨#[]⟩), (.int .i64 0)] [.v (.int .i64 0), .v (.int .i64 0), .v (.int .i64 0), .v (.string ⟨#[]⟩), .v (.int .i64 0)] := ⟨⟨.agg #[(.int .i64 0), (.int .i64 0), (.int .i64 0), (.string ⟨#[]⟩), (.int .i64 0)], by kernel_rfl, rfl⟩, rfl, rfl⟩
instance : TI Tryz.prog 38 (Go.TypeDesc.func #[3] #[9] false) 1 8 := ⟨by kernel_rfl, by kernel_rfl⟩
instance : TC Tryz.prog 38 [.nilFunc] [.v .nilFunc] := ⟨⟨.nilFunc, by kernel_rfl, rfl⟩, rfl, rfl⟩
instance : TI Tryz.prog 39 (Go.TypeDesc.int (Go.IntKind.i64)) 1 8 := ⟨by kernel_rfl, by kernel_rfl⟩
instance : TC Tryz.prog 39 [(.int .i64 0)] [.v (.int .i64 0)] := ⟨⟨(.int .i64 0), by kernel_rfl, rfl⟩, rfl, rfl⟩
instance : TI Tryz.prog 40 (Go.TypeDesc.struct #[{ name := "Account", type := 9, offset := 0, embedded := false, tag := "", pkgPath := "", byteOffset := 0 }, { name := "Keys", type := 26, offset := 1, embedded := false, tag := "", pkgPath := "", byteOffset := 16 }]) 2 40 := ⟨by kernel_rfl, by kernel_rfl⟩
instance : TS Tryz.prog 40 [(0, 1), (1, 1)] := ⟨by kernel_rfl⟩
instance : TC Tryz.prog 40 [(.string ⟨#[]⟩), (.slice none 0 0)] [.v (.string ⟨#[]⟩), .nil] := ⟨⟨.agg #[(.string ⟨#[]⟩), (.slice none 0 0)], by kernel_rfl, rfl⟩, rfl, rfl⟩
instance : TI Tryz.prog 41 (Go.TypeDesc.struct #[{ name := "Account", type := 9, offset := 0, embedded := false, tag := "", pkgPath := "", byteOffset := 0 }, { name := "Keys", type := 26, offset := 1, embedded := false, tag := "", pkgPath := "", byteOffset := 16 }]) 2 40 := ⟨by kernel_rfl, by kernel_rfl⟩
instance : TS Tryz.prog 41 [(0, 1), (1, 1)] := ⟨by kernel_rfl⟩
instance : TC Tryz.prog 41 [(.string ⟨#[]⟩), (.slice none 0 0)] [.v (.string ⟨#[]⟩), .nil] := ⟨⟨.agg #[(.string ⟨#[]⟩), (.slice none 0 0)], by kernel_rfl, rfl⟩, rfl, rfl⟩
instance : TI Tryz.prog 43 (Go.TypeDesc.func #[33, 9, 28, 3] #[33, 39] false) 1 8 := ⟨by kernel_rfl, by kernel_rfl⟩
instance : TC Tryz.prog 43 [.nilFunc] [.v .nilFunc] := ⟨⟨.nilFunc, by kernel_rfl, rfl⟩, rfl, rfl⟩
instance : TI Tryz.prog 44 (Go.TypeDesc.func #[33, 33] #[4] false) 1 8 := ⟨by kernel_rfl, by kernel_rfl⟩
instance : TC Tryz.prog 44 [.nilFunc] [.v .nilFunc] := ⟨⟨.nilFunc, by kernel_rfl, rfl⟩, rfl, rfl⟩
instance : TI Tryz.prog 45 (Go.TypeDesc.func #[] #[4] false) 1 8 := ⟨by kernel_rfl, by kernel_rfl⟩
instance : TC Tryz.prog 45 [.nilFunc] [.v .nilFunc] := ⟨⟨.nilFunc, by kernel_rfl, rfl⟩, rfl, rfl⟩
instance : TI Tryz.prog 46 (Go.TypeDesc.func #[3, 3] #[4] false) 1 8 := ⟨by kernel_rfl, by kernel_rfl⟩
instance : TC Tryz.prog 46 [.nilFunc] [.v .nilFunc] := ⟨⟨.nilFunc, by kernel_rfl, rfl⟩, rfl, rfl⟩
instance : TI Tryz.prog 47 (Go.TypeDesc.slice 53) 1 24 := ⟨by kernel_rfl, by kernel_rfl⟩
instance : TC Tryz.prog 47 [(.slice none 0 0)] [.nil] := ⟨⟨(.slice none 0 0), by kernel_rfl, rfl⟩, rfl, rfl⟩
instance : TI Tryz.prog 48 (Go.TypeDesc.func #[3] #[28] false) 1 8 := ⟨by kernel_rfl, by kernel_rfl⟩
instance : TC Tryz.prog 48 [.nilFunc] [.v .nilFunc] := ⟨⟨.nilFunc, by kernel_rfl, rfl⟩, rfl, rfl⟩
instance : TI Tryz.prog 49 (Go.TypeDesc.func #[51] #[4] false) 1 8 := ⟨by kernel_rfl, by kernel_rfl⟩
instance : TC Tryz.prog 49 [.nilFunc] [.v .nilFunc] := ⟨⟨.nilFunc, by kernel_rfl, rfl⟩, rfl, rfl⟩
instance : TI Tryz.prog 50 (Go.TypeDesc.struct #[{ name := "Lock", type := 3, offset := 0, embedded := false, tag := "", pkgPath := "", byteOffset := 0 }, { name := "Secret", type := 9, offset := 1, embedded := false, tag := "", pkgPath := "", byteOffset := 8 }, { name := "Path", type := 25, offset := 2, embedded := false, tag := "", pkgPath := "", byteOffset := 24 }, { name := "Sigs", type := 26, offset := 3, embedded := false, tag := "", pkgPath := "", byteOffset := 48 }]) 4 72 := ⟨by kernel_rfl, by kernel_rfl⟩
instance : TS Tryz.prog 50 [(0, 1), (1, 1), (2, 1), (3, 1)] := ⟨by kernel_rfl⟩
instance : TC Tryz.prog 50 [(.int .i64 0), (.string ⟨#[]⟩), (.slice none 0 0), (.slice none 0 0)] [.v (.int .i64 0), .v (.string ⟨#[]⟩), .nil, .nil] := ⟨⟨.agg #[(.int .i64 0), (.string ⟨#[]⟩), (.slice none 0 0), (.slice none 0 0)], by kernel_rfl, rfl⟩, rfl, rfl⟩
instance : TI Tryz.prog 51 (Go.TypeDesc.struct #[{ name := "Lock", type := 3, offset := 0, embedded := false, tag := "", pkgPath := "", byteOffset := 0 }, { name := "Secret", type := 9, offset := 1, embedded := false, tag := "", pkgPath := "", byteOffset := 8 }, { name := "Path", type := 25, offset := 2, embedded := false, tag := "", pkgPath := "", byteOffset := 24 }, { name := "Sigs", type := 26, offset := 3, embedded := false, tag := "", pkgPath := "", byteOffset := 48 }]) 4 72 := ⟨by kernel_rfl, by kernel_rfl⟩
instance : TS Tryz.prog 51 [(0, 1), (1, 1), (2, 1), (3, 1)] := ⟨by kernel_rfl⟩
instance : TC Tryz.prog 51 [(.int .i64 0), (.string ⟨#[]⟩), (.slice none 0 0), (.slice none 0 0)] [.v (.int .i64 0), .v (.string ⟨#[]⟩), .nil, .nil] := ⟨⟨.agg #[(.int .i64 0), (.string ⟨#[]⟩), (.slice none 0 0), (.slice none 0 0)], by kernel_rfl, rfl⟩, rfl, rfl⟩
instance : TI Tryz.prog 52 (Go.TypeDesc.struct #[{ name := "Kind", type := 3, offset := 0, embedded := false, tag := "", pkgPath := "", byteOffset := 0 }, { name := "Who", type := 3, offset := 1, embedded := false, tag := "", pkgPath := "", byteOffset := 8 }, { name := "Arc", type := 3, offset := 2, embedded := false, tag := "", pkgPath := "", byteOffset := 16 }, { name := "Lock", type := 3, offset := 3, embedded := false, tag := "", pkgPath := "", byteOffset := 24 }, { name := "Time", type := 3, offset := 4, embedded := false, tag := "", pkgPath := "", byteOffset := 32 }, { name := "Odd", type := 4, offset := 5, embedded := false, tag := "", pkgPath := "", byteOffset := 40 }, { name := "Key", type := 51, offset := 6, embedded := false, tag := "", pkgPath := "", byteOffset := 48 }]) 10 120 := ⟨by kernel_rfl, by kernel_rfl⟩
instance : TS Tryz.prog 52 [(0, 1), (1, 1), (2, 1), (3, 1), (4, 1), (5, 1), (6, 4)] := ⟨by kernel_rfl⟩
instance : TC Tryz.prog 52 [(.int .i64 0), (.int .i64 0), (.int .i64 0), (.int .i64 0), (.int .i64 0), (.bool false), (.int .i64 0), (.string ⟨#[]⟩), (.slice none 0 0), (.slice none 0 0)] [.v (.int .i64 0), .v (.int .i64 0), .v (.int .i64 0), .v (.int .i64 0), .v (.int .i64 0), .v (.bool false), .v (.int .i64 0), .v (.string ⟨#[]⟩), .nil, .nil] := ⟨⟨.agg #[(.int .i64 0), (.int .i64 0), (.int .i64 0), (.int .i64 0), (.int .i64 0), (.bool false), (.int .i64 0), (.string ⟨#[]⟩), (.slice none 0 0), (.slice none 0 0)], by kernel_rfl, rfl⟩, rfl, rfl⟩
instance : TI Tryz.prog 53 (Go.TypeDesc.struct #[{ name := "Kind", type := 3, offset := 0, embedded := false, tag := "", pkgPath := "", byteOffset := 0 }, { name := "Who", type := 3, offset := 1, embedded := false, tag := "", pkgPath := "", byteOffset := 8 }, { name := "Arc", type := 3, offset := 2, embedded := false, tag := "", pkgPath := "", byteOffset := 16 }, { name := "Lock", type := 3, offset := 3, embedded := false, tag := "", pkgPath := "", byteOffset := 24 }, { name := "Time", type := 3, offset := 4, embedded := false, tag := "", pkgPath := "", byteOffset := 32 }, { name := "Odd", type := 4, offset := 5, embedded := false, tag := "", pkgPath := "", byteOffset := 40 }, { name := "Key", type := 51, offset := 6, embedded := false, tag := "", pkgPath := "", byteOffset := 48 }]) 10 120 := ⟨by kernel_rfl, by kernel_rfl⟩
instance : TS Tryz.prog 53 [(0, 1), (1, 1), (2, 1), (3, 1), (4, 1), (5, 1), (6, 4)] := ⟨by kernel_rfl⟩
instance : TC Tryz.prog 53 [(.int .i64 0), (.int .i64 0), (.int .i64 0), (.int .i64 0), (.int .i64 0), (.bool false), (.int .i64 0), (.string ⟨#[]⟩), (.slice none 0 0), (.slice none 0 0)] [.v (.int .i64 0), .v (.int .i64 0), .v (.int .i64 0), .v (.int .i64 0), .v (.int .i64 0), .v (.bool false), .v (.int .i64 0), .v (.string ⟨#[]⟩), .nil, .nil] := ⟨⟨.agg #[(.int .i64 0), (.int .i64 0), (.int .i64 0), (.int .i64 0), (.int .i64 0), (.bool false), (.int .i64 0), (.string ⟨#[]⟩), (.slice none 0 0), (.slice none 0 0)], by kernel_rfl, rfl⟩, rfl, rfl⟩
instance : TI Tryz.prog 55 (Go.TypeDesc.func #[33, 33, 28, 53] #[33, 33, 4] false) 1 8 := ⟨by kernel_rfl, by kernel_rfl⟩
instance : TC Tryz.prog 55 [.nilFunc] [.v .nilFunc] := ⟨⟨.nilFunc, by kernel_rfl, rfl⟩, rfl, rfl⟩
instance : TI Tryz.prog 56 (Go.TypeDesc.func #[3, 47] #[4] false) 1 8 := ⟨by kernel_rfl, by kernel_rfl⟩
instance : TC Tryz.prog 56 [.nilFunc] [.v .nilFunc] := ⟨⟨.nilFunc, by kernel_rfl, rfl⟩, rfl, rfl⟩
instance : TI Tryz.prog 57 (Go.TypeDesc.func #[33, 9] #[3] false) 1 8 := ⟨by kernel_rfl, by kernel_rfl⟩
instance : TC Tryz.prog 57 [.nilFunc] [.v .nilFunc] := ⟨⟨.nilFunc, by kernel_rfl, rfl⟩, rfl, rfl⟩
instance : TI Tryz.prog 58 (Go.TypeDesc.func #[28] #[4] false) 1 8 := ⟨by kernel_rfl, by kernel_rfl⟩
instance : TC Tryz.prog 58 [.nilFunc] [.v .nilFunc] := ⟨⟨.nilFunc, by kernel_rfl, rfl⟩, rfl, rfl⟩
instance : TI Tryz.prog 59 (Go.TypeDesc.func #[3, 25] #[4] false) 1 8 := ⟨by kernel_rfl, by kernel_rfl⟩
instance : TC Tryz.prog 59 [.nilFunc] [.v .nilFunc] := ⟨⟨.nilFunc, by kernel_rfl, rfl⟩, rfl, rfl⟩
instance : TI Tryz.prog 60 (Go.TypeDesc.func #[33, 9, 3, 51] #[33, 39] false) 1 8 := ⟨by kernel_rfl, by kernel_rfl⟩
instance : TC Tryz.prog 60 [.nilFunc] [.v .nilFunc] := ⟨⟨.nilFunc, by kernel_rfl, rfl⟩, rfl, rfl⟩
instance : TI Tryz.prog 61 (Go.TypeDesc.func #[28, 3, 25] #[51] false) 1 8 := ⟨by kernel_rfl, by kernel_rfl⟩
instance : TC Tryz.prog 61 [.nilFunc] [.v .nilFunc] := ⟨⟨.nilFunc, by kernel_rfl, rfl⟩, rfl, rfl⟩
instance : TI Tryz.prog 62 (Go.TypeDesc.func #[33, 9, 9, 3] #[33, 39] false) 1 8 := ⟨by kernel_rfl, by kernel_rfl⟩
instance : TC Tryz.prog 62 [.nilFunc] [.v .nilFunc] := ⟨⟨.nilFunc, by kernel_rfl, rfl⟩, rfl, rfl⟩
instance : TI Tryz.prog 63 (Go.TypeDesc.slice 51) 1 24 := ⟨by kernel_rfl, by kernel_rfl⟩
instance : TC Tryz.prog 63 [(.slice none 0 0)] [.nil] := ⟨⟨(.slice none 0 0), by kernel_rfl, rfl⟩, rfl, rfl⟩
instance : TI Tryz.prog 64 (Go.TypeDesc.struct #[{ name := "Spec", type := 28, offset := 0, embedded := false, tag := "", pkgPath := "", byteOffset := 0 }, { name := "Arc", type := 3, offset := 7, embedded := false, tag := "", pkgPath := "", byteOffset := 128 }, { name := "State", type := 3, offset := 8, embedded := false, tag := "", pkgPath := "", byteOffset := 136 }, { name := "Keys", type := 63, offset := 9, embedded := false, tag := "", pkgPath := "", byteOffset := 144 }]) 10 168 := ⟨by kernel_rfl, by kernel_rfl⟩
instance : TS Tryz.prog 64 [(0, 7), (7, 1), (8, 1), (9, 1)] := ⟨by kernel_rfl⟩
instance : TC Tryz.prog 64 [(.string ⟨#[]⟩), (.slice none 0 0), (.slice none 0 0), (.slice none 0 0), (.slice none 0 0), (.int .i64 0), (.int .i64 0), (.int .i64 0), (.int .i64 0), (.slice none 0 0)] [.v (.string ⟨#[]⟩), .nil, .nil, .nil, .nil, .v (.int .i64 0), .v (.int .i64 0), .v (.int .i64 0), .v (.int .i64 0), .nil] := ⟨⟨.agg #[(.string ⟨#[]⟩), (.slice none 0 0), (.slice none 0 0), (.slice none 0 0), (.slice none 0 0), (.int .i64 0), (.int .i64 0), (.int .i64 0), (.int .i64 0), (.slice none 0 0)], by kernel_rfl, rfl⟩, rfl, rfl⟩
instance : TI Tryz.prog 65 (Go.TypeDesc.struct #[{ name := "Spec", type := 28, offset := 0, embedded := false, tag := "", pkgPath := "", byteOffset := 0 }, { name := "Arc", type := 3, offset := 7, embedded := false, tag := "", pkgPath := "", byteOffset := 128 }, { name := "State", type := 3, offset := 8, embedded := false, tag := "", pkgPath := "", byteOffset := 136 }, { name := "Keys", type := 63, offset := 9, embedded := false, tag := "", pkgPath := "", byteOffset := 144 }]) 10 168 := ⟨by kernel_rfl, by kernel_rfl⟩
instance : TS Tryz.prog 65 [(0, 7), (7, 1), (8, 1), (9, 1)] := ⟨by kernel_rfl⟩
instance : TC Tryz.prog 65 [(.string ⟨#[]⟩), (.slice none 0 0), (.slice none 0 0), (.slice none 0 0), (.slice none 0 0), (.int .i64 0), (.int .i64 0), (.int .i64 0), (.int .i64 0), (.slice none 0 0)] [.v (.string ⟨#[]⟩), .nil, .nil, .nil, .nil, .v (.int .i64 0), .v (.int .i64 0), .v (.int .i64 0), .v (.int .i64 0), .nil] := ⟨⟨.agg #[(.string ⟨#[]⟩), (.slice none 0 0), (.slice none 0 0), (.slice none 0 0), (.slice none 0 0), (.int .i64 0), (.int .i64 0), (.int .i64 0), (.int .i64 0), (.slice none 0 0)], by kernel_rfl, rfl⟩, rfl, rfl⟩
instance : TI Tryz.prog 67 (Go.TypeDesc.func #[33, 9, 3] #[65, 4] false) 1 8 := ⟨by kernel_rfl, by kernel_rfl⟩
instance : TC Tryz.prog 67 [.nilFunc] [.v .nilFunc] := ⟨⟨.nilFunc, by kernel_rfl, rfl⟩, rfl, rfl⟩
instance : TI Tryz.prog 69 (Go.TypeDesc.func #[33, 9, 9] #[3, 39] false) 1 8 := ⟨by kernel_rfl, by kernel_rfl⟩
instance : TC Tryz.prog 69 [.nilFunc] [.v .nilFunc] := ⟨⟨.nilFunc, by kernel_rfl, rfl⟩, rfl, rfl⟩
instance : TI Tryz.prog 70 (Go.TypeDesc.array 4 3) 4 32 := ⟨by kernel_rfl, by kernel_rfl⟩
instance : TC Tryz.prog 70 [(.int .i64 0), (.int .i64 0), (.int .i64 0), (.int .i64 0)] [.v (.int .i64 0), .v (.int .i64 0), .v (.int .i64 0), .v (.int .i64 0)] := ⟨⟨.agg #[(.int .i64 0), (.int .i64 0), (.int .i64 0), (.int .i64 0)], by kernel_rfl, rfl⟩, rfl, rfl⟩
instance : TI Tryz.prog 71 (Go.TypeDesc.func #[3, 4, 4, 3] #[4] false) 1 8 := ⟨by kernel_rfl, by kernel_rfl⟩
instance : TC Tryz.prog 71 [.nilFunc] [.v .nilFunc] := ⟨⟨.nilFunc, by kernel_rfl, rfl⟩, rfl, rfl⟩
instance : TI Tryz.prog 72 (Go.TypeDesc.func #[3, 3, 3] #[4] false) 1 8 := ⟨by kernel_rfl, by kernel_rfl⟩
instance : TC Tryz.prog 72 [.nilFunc] [.v .nilFunc] := ⟨⟨.nilFunc, by kernel_rfl, rfl⟩, rfl, rfl⟩
instance : TI Tryz.prog 73 (Go.TypeDesc.func #[3] #[4] false) 1 8 := ⟨by kernel_rfl, by kernel_rfl⟩
instance : TC Tryz.prog 73 [.nilFunc] [.v .nilFunc] := ⟨⟨.nilFunc, by kernel_rfl, rfl⟩, rfl, rfl⟩
instance : TI Tryz.prog 74 (Go.TypeDesc.array 3 4) 3 3 := ⟨by kernel_rfl, by kernel_rfl⟩
instance : TC Tryz.prog 74 [(.bool false), (.bool false), (.bool false)] [.v (.bool false), .v (.bool false), .v (.bool false)] := ⟨⟨.agg #[(.bool false), (.bool false), (.bool false)], by kernel_rfl, rfl⟩, rfl, rfl⟩
instance : TI Tryz.prog 75 (Go.TypeDesc.func #[28, 3, 3] #[25] false) 1 8 := ⟨by kernel_rfl, by kernel_rfl⟩
instance : TC Tryz.prog 75 [.nilFunc] [.v .nilFunc] := ⟨⟨.nilFunc, by kernel_rfl, rfl⟩, rfl, rfl⟩
instance : TI Tryz.prog 76 (Go.TypeDesc.func #[65] #[3] false) 1 8 := ⟨by kernel_rfl, by kernel_rfl⟩
instance : TC Tryz.prog 76 [.nilFunc] [.v .nilFunc] := ⟨⟨.nilFunc, by kernel_rfl, rfl⟩, rfl, rfl⟩
instance : TI Tryz.prog 77 (Go.TypeDesc.func #[3, 3, 3] #[24] false) 1 8 := ⟨by kernel_rfl, by kernel_rfl⟩
instance : TC Tryz.prog 77 [.nilFunc] [.v .nilFunc] := ⟨⟨.nilFunc, by kernel_rfl, rfl⟩, rfl, rfl⟩
instance : TI Tryz.prog 78 (Go.TypeDesc.func #[28] #[28] false) 1 8 := ⟨by kernel_rfl, by kernel_rfl⟩
instance : TC Tryz.prog 78 [.nilFunc] [.v .nilFunc] := ⟨⟨.nilFunc, by kernel_rfl, rfl⟩, rfl, rfl⟩
instance : TI Tryz.prog 79 (Go.TypeDesc.func #[3] #[33] false) 1 8 := ⟨by kernel_rfl, by kernel_rfl⟩
instance : TC Tryz.prog 79 [.nilFunc] [.v .nilFunc] := ⟨⟨.nilFunc, by kernel_rfl, rfl⟩, rfl, rfl⟩
instance : TI Tryz.prog 80 (Go.TypeDesc.func #[33, 9] #[33, 39] false) 1 8 := ⟨by kernel_rfl, by kernel_rfl⟩
instance : TC Tryz.prog 80 [.nilFunc] [.v .nilFunc] := ⟨⟨.nilFunc, by kernel_rfl, rfl⟩, rfl, rfl⟩
instance : TI Tryz.prog 81 (Go.TypeDesc.func #[33, 9, 3] #[3] false) 1 8 := ⟨by kernel_rfl, by kernel_rfl⟩
instance : TC Tryz.prog 81 [.nilFunc] [.v .nilFunc] := ⟨⟨.nilFunc, by kernel_rfl, rfl⟩, rfl, rfl⟩
instance : TI Tryz.prog 82 (Go.TypeDesc.func #[26, 9] #[4] false) 1 8 := ⟨by kernel_rfl, by kernel_rfl⟩
instance : TC Tryz.prog 82 [.nilFunc] [.v .nilFunc] := ⟨⟨.nilFunc, by kernel_rfl, rfl⟩, rfl, rfl⟩
instance : TI Tryz.prog 83 (Go.TypeDesc.int (Go.IntKind.i64)) 1 8 := ⟨by kernel_rfl, by kernel_rfl⟩
instance : TC Tryz.prog 83 [(.int .i64 0)] [.v (.int .i64 0)] := ⟨⟨(.int .i64 0), by kernel_rfl, rfl⟩, rfl, rfl⟩
instance : TI Tryz.prog 84 (Go.TypeDesc.func #[65] #[65] false) 1 8 := ⟨by kernel_rfl, by kernel_rfl⟩
instance : TC Tryz.prog 84 [.nilFunc] [.v .nilFunc] := ⟨⟨.nilFunc, by kernel_rfl, rfl⟩, rfl, rfl⟩
instance : TI Tryz.prog 85 (Go.TypeDesc.func #[31] #[31] false) 1 8 := ⟨by kernel_rfl, by kernel_rfl⟩
instance : TC Tryz.prog 85 [.nilFunc] [.v .nilFunc] := ⟨⟨.nilFunc, by kernel_rfl, rfl⟩, rfl, rfl⟩
instance : TI Tryz.prog 86 (Go.TypeDesc.func #[26, 26] #[4] false) 1 8 := ⟨by kernel_rfl, by kernel_rfl⟩
instance : TC Tryz.prog 86 [.nilFunc] [.v .nilFunc] := ⟨⟨.nilFunc, by kernel_rfl, rfl⟩, rfl, rfl⟩
instance : TI Tryz.prog 87 (Go.TypeDesc.struct #[{ name := "Account", type := 9, offset := 0, embedded := false, tag := "", pkgPath := "", byteOffset := 0 }, { name := "Asset", type := 9, offset := 1, embedded := false, tag := "", pkgPath := "", byteOffset := 16 }, { name := "Amount", type := 3, offset := 2, embedded := false, tag := "", pkgPath := "", byteOffset := 32 }]) 3 40 := ⟨by kernel_rfl, by kernel_rfl⟩
instance : TS Tryz.prog 87 [(0, 1), (1, 1), (2, 1)] := ⟨by kernel_rfl⟩
instance : TC Tryz.prog 87 [(.string ⟨#[]⟩), (.string ⟨#[]⟩), (.int .i64 0)] [.v (.string ⟨#[]⟩), .v (.string ⟨#[]⟩), .v (.int .i64 0)] := ⟨⟨.agg #[(.string ⟨#[]⟩), (.string ⟨#[]⟩), (.int .i64 0)], by kernel_rfl, rfl⟩, rfl, rfl⟩
instance : TI Tryz.prog 88 (Go.TypeDesc.struct #[{ name := "Account", type := 9, offset := 0, embedded := false, tag := "", pkgPath := "", byteOffset := 0 }, { name := "Asset", type := 9, offset := 1, embedded := false, tag := "", pkgPath := "", byteOffset := 16 }, { name := "Amount", type := 3, offset := 2, embedded := false, tag := "", pkgPath := "", byteOffset := 32 }]) 3 40 := ⟨by kernel_rfl, by kernel_rfl⟩
instance : TS Tryz.prog 88 [(0, 1), (1, 1), (2, 1)] := ⟨by kernel_rfl⟩
instance : TC Tryz.prog 88 [(.string ⟨#[]⟩), (.string ⟨#[]⟩), (.int .i64 0)] [.v (.string ⟨#[]⟩), .v (.string ⟨#[]⟩), .v (.int .i64 0)] := ⟨⟨.agg #[(.string ⟨#[]⟩), (.string ⟨#[]⟩), (.int .i64 0)], by kernel_rfl, rfl⟩, rfl, rfl⟩
instance : TI Tryz.prog 89 (Go.TypeDesc.func #[65, 65] #[4] false) 1 8 := ⟨by kernel_rfl, by kernel_rfl⟩
instance : TC Tryz.prog 89 [.nilFunc] [.v .nilFunc] := ⟨⟨.nilFunc, by kernel_rfl, rfl⟩, rfl, rfl⟩
instance : TI Tryz.prog 90 (Go.TypeDesc.func #[28, 53] #[51] false) 1 8 := ⟨by kernel_rfl, by kernel_rfl⟩
instance : TC Tryz.prog 90 [.nilFunc] [.v .nilFunc] := ⟨⟨.nilFunc, by kernel_rfl, rfl⟩, rfl, rfl⟩
instance : TI Tryz.prog 91 (Go.TypeDesc.func #[33, 9, 3] #[33, 39] false) 1 8 := ⟨by kernel_rfl, by kernel_rfl⟩
instance : TC Tryz.prog 91 [.nilFunc] [.v .nilFunc] := ⟨⟨.nilFunc, by kernel_rfl, rfl⟩, rfl, rfl⟩
instance : TI Tryz.prog 93 (Go.TypeDesc.func #[65] #[37, 4] false) 1 8 := ⟨by kernel_rfl, by kernel_rfl⟩
instance : TC Tryz.prog 93 [.nilFunc] [.v .nilFunc] := ⟨⟨.nilFunc, by kernel_rfl, rfl⟩, rfl, rfl⟩
instance : TI Tryz.prog 94 (Go.TypeDesc.func #[9] #[4] false) 1 8 := ⟨by kernel_rfl, by kernel_rfl⟩
instance : TC Tryz.prog 94 [.nilFunc] [.v .nilFunc] := ⟨⟨.nilFunc, by kernel_rfl, rfl⟩, rfl, rfl⟩
instance : TI Tryz.prog 95 (Go.TypeDesc.func #[65] #[4] false) 1 8 := ⟨by kernel_rfl, by kernel_rfl⟩
instance : TC Tryz.prog 95 [.nilFunc] [.v .nilFunc] := ⟨⟨.nilFunc, by kernel_rfl, rfl⟩, rfl, rfl⟩
instance : TI Tryz.prog 96 (Go.TypeDesc.func #[28, 3, 51] #[4] false) 1 8 := ⟨by kernel_rfl, by kernel_rfl⟩
instance : TC Tryz.prog 96 [.nilFunc] [.v .nilFunc] := ⟨⟨.nilFunc, by kernel_rfl, rfl⟩, rfl, rfl⟩
instance : TI Tryz.prog 97 (Go.TypeDesc.func #[28, 3] #[3] false) 1 8 := ⟨by kernel_rfl, by kernel_rfl⟩
instance : TC Tryz.prog 97 [.nilFunc] [.v .nilFunc] := ⟨⟨.nilFunc, by kernel_rfl, rfl⟩, rfl, rfl⟩
instance : TI Tryz.prog 98 (Go.TypeDesc.func #[51] #[51] false) 1 8 := ⟨by kernel_rfl, by kernel_rfl⟩
instance : TC Tryz.prog 98 [.nilFunc] [.v .nilFunc] := ⟨⟨.nilFunc, by kernel_rfl, rfl⟩, rfl, rfl⟩
instance : TI Tryz.prog 99 (Go.TypeDesc.func #[33, 3, 65] #[33] false) 1 8 := ⟨by kernel_rfl, by kernel_rfl⟩
instance : TC Tryz.prog 99 [.nilFunc] [.v .nilFunc] := ⟨⟨.nilFunc, by kernel_rfl, rfl⟩, rfl, rfl⟩
instance : TI Tryz.prog 100 (Go.TypeDesc.func #[9, 3, 9] #[9] false) 1 8 := ⟨by kernel_rfl, by kernel_rfl⟩
instance : TC Tryz.prog 100 [.nilFunc] [.v .nilFunc] := ⟨⟨.nilFunc, by kernel_rfl, rfl⟩, rfl, rfl⟩
instance : TI Tryz.prog 101 (Go.TypeDesc.func #[65] #[39] false) 1 8 := ⟨by kernel_rfl, by kernel_rfl⟩
instance : TC Tryz.prog 101 [.nilFunc] [.v .nilFunc] := ⟨⟨.nilFunc, by kernel_rfl, rfl⟩, rfl, rfl⟩
instance : TI Tryz.prog 102 (Go.TypeDesc.func #[37] #[3] false) 1 8 := ⟨by kernel_rfl, by kernel_rfl⟩
instance : TC Tryz.prog 102 [.nilFunc] [.v .nilFunc] := ⟨⟨.nilFunc, by kernel_rfl, rfl⟩, rfl, rfl⟩
instance : TI Tryz.prog 103 (Go.TypeDesc.struct #[{ name := "state", type := 83, offset := 0, embedded := false, tag := "", pkgPath := "handsel/escrow", byteOffset := 0 }, { name := "party", type := 102, offset := 1, embedded := false, tag := "", pkgPath := "handsel/escrow", byteOffset := 8 }, { name := "own", type := 4, offset := 2, embedded := false, tag := "", pkgPath := "handsel/escrow", byteOffset := 16 }, { name := "asks", type := 101, offset := 3, embedded := false, tag := "", pkgPath := "handsel/escrow", byteOffset := 24 }]) 4 32 := ⟨by kernel_rfl, by kernel_rfl⟩
instance : TS Tryz.prog 103 [(0, 1), (1, 1), (2, 1), (3, 1)] := ⟨by kernel_rfl⟩
instance : TC Tryz.prog 103 [(.int .i64 0), .nilFunc, (.bool false), .nilFunc] [.v (.int .i64 0), .v .nilFunc, .v (.bool false), .v .nilFunc] := ⟨⟨.agg #[(.int .i64 0), .nilFunc, (.bool false), .nilFunc], by kernel_rfl, rfl⟩, rfl, rfl⟩
instance : TI Tryz.prog 104 (Go.TypeDesc.struct #[{ name := "state", type := 83, offset := 0, embedded := false, tag := "", pkgPath := "handsel/escrow", byteOffset := 0 }, { name := "party", type := 102, offset := 1, embedded := false, tag := "", pkgPath := "handsel/escrow", byteOffset := 8 }, { name := "own", type := 4, offset := 2, embedded := false, tag := "", pkgPath := "handsel/escrow", byteOffset := 16 }, { name := "asks", type := 101, offset := 3, embedded := false, tag := "", pkgPath := "handsel/escrow", byteOffset := 24 }]) 4 32 := ⟨by kernel_rfl, by kernel_rfl⟩
instance : TS Tryz.prog 104 [(0, 1), (1, 1), (2, 1), (3, 1)] := ⟨by kernel_rfl⟩
instance : TC Tryz.prog 104 [(.int .i64 0), .nilFunc, (.bool false), .nilFunc] [.v (.int .i64 0), .v .nilFunc, .v (.bool false), .v .nilFunc] := ⟨⟨.agg #[(.int .i64 0), .nilFunc, (.bool false), .nilFunc], by kernel_rfl, rfl⟩, rfl, rfl⟩
instance : TI Tryz.prog 105 (Go.TypeDesc.func #[28] #[3] false) 1 8 := ⟨by kernel_rfl, by kernel_rfl⟩
instance : TC Tryz.prog 105 [.nilFunc] [.v .nilFunc] := ⟨⟨.nilFunc, by kernel_rfl, rfl⟩, rfl, rfl⟩
instance : TI Tryz.prog 106 (Go.TypeDesc.func #[33, 9] #[4] false) 1 8 := ⟨by kernel_rfl, by kernel_rfl⟩
instance : TC Tryz.prog 106 [.nilFunc] [.v .nilFunc] := ⟨⟨.nilFunc, by kernel_rfl, rfl⟩, rfl, rfl⟩
instance : TI Tryz.prog 107 (Go.TypeDesc.func #[33, 9, 9] #[3] false) 1 8 := ⟨by kernel_rfl, by kernel_rfl⟩
instance : TC Tryz.prog 107 [.nilFunc] [.v .nilFunc] := ⟨⟨.nilFunc, by kernel_rfl, rfl⟩, rfl, rfl⟩
instance : TI Tryz.prog 108 (Go.TypeDesc.slice 25) 1 24 := ⟨by kernel_rfl, by kernel_rfl⟩
instance : TC Tryz.prog 108 [(.slice none 0 0)] [.nil] := ⟨⟨(.slice none 0 0), by kernel_rfl, rfl⟩, rfl, rfl⟩
instance : TI Tryz.prog 109 (Go.TypeDesc.func #[28, 25] #[4] false) 1 8 := ⟨by kernel_rfl, by kernel_rfl⟩
instance : TC Tryz.prog 109 [.nilFunc] [.v .nilFunc] := ⟨⟨.nilFunc, by kernel_rfl, rfl⟩, rfl, rfl⟩
instance : TI Tryz.prog 110 (Go.TypeDesc.array 2 9) 2 32 := ⟨by kernel_rfl, by kernel_rfl⟩
instance : TC Tryz.prog 110 [(.string ⟨#[]⟩), (.string ⟨#[]⟩)] [.v (.string ⟨#[]⟩), .v (.string ⟨#[]⟩)] := ⟨⟨.agg #[(.string ⟨#[]⟩), (.string ⟨#[]⟩)], by kernel_rfl, rfl⟩, rfl, rfl⟩
instance : TI Tryz.prog 111 (Go.TypeDesc.func #[9] #[9] false) 1 8 := ⟨by kernel_rfl, by kernel_rfl⟩
instance : TC Tryz.prog 111 [.nilFunc] [.v .nilFunc] := ⟨⟨.nilFunc, by kernel_rfl, rfl⟩, rfl, rfl⟩
instance : TI Tryz.prog 112 (Go.TypeDesc.func #[9, 3] #[9] false) 1 8 := ⟨by kernel_rfl, by kernel_rfl⟩
instance : TC Tryz.prog 112 [.nilFunc] [.v .nilFunc] := ⟨⟨.nilFunc, by kernel_rfl, rfl⟩, rfl, rfl⟩
instance : TI Tryz.prog 113 (Go.TypeDesc.func #[33] #[26] false) 1 8 := ⟨by kernel_rfl, by kernel_rfl⟩
instance : TC Tryz.prog 113 [.nilFunc] [.v .nilFunc] := ⟨⟨.nilFunc, by kernel_rfl, rfl⟩, rfl, rfl⟩
instance : TI Tryz.prog 114 (Go.TypeDesc.func #[33, 9, 9, 3] #[33] false) 1 8 := ⟨by kernel_rfl, by kernel_rfl⟩
instance : TC Tryz.prog 114 [.nilFunc] [.v .nilFunc] := ⟨⟨.nilFunc, by kernel_rfl, rfl⟩, rfl, rfl⟩
instance : TI Tryz.prog 115 (Go.TypeDesc.func #[31, 95] #[3] false) 1 8 := ⟨by kernel_rfl, by kernel_rfl⟩
instance : TC Tryz.prog 115 [.nilFunc] [.v .nilFunc] := ⟨⟨.nilFunc, by kernel_rfl, rfl⟩, rfl, rfl⟩
instance : TI Tryz.prog 116 (Go.TypeDesc.func #[26, 9] #[3] false) 1 8 := ⟨by kernel_rfl, by kernel_rfl⟩
instance : TC Tryz.prog 116 [.nilFunc] [.v .nilFunc] := ⟨⟨.nilFunc, by kernel_rfl, rfl⟩, rfl, rfl⟩
instance : TI Tryz.prog 117 (Go.TypeDesc.func #[33, 9, 9, 3] #[39] false) 1 8 := ⟨by kernel_rfl, by kernel_rfl⟩
instance : TC Tryz.prog 117 [.nilFunc] [.v .nilFunc] := ⟨⟨.nilFunc, by kernel_rfl, rfl⟩, rfl, rfl⟩
instance : TI Tryz.prog 118 (Go.TypeDesc.func #[26] #[26] false) 1 8 := ⟨by kernel_rfl, by kernel_rfl⟩
instance : TC Tryz.prog 118 [.nilFunc] [.v .nilFunc] := ⟨⟨.nilFunc, by kernel_rfl, rfl⟩, rfl, rfl⟩
instance : TI Tryz.prog 119 (Go.TypeDesc.func #[25] #[25] false) 1 8 := ⟨by kernel_rfl, by kernel_rfl⟩
instance : TC Tryz.prog 119 [.nilFunc] [.v .nilFunc] := ⟨⟨.nilFunc, by kernel_rfl, rfl⟩, rfl, rfl⟩
instance : TI Tryz.prog 120 (Go.TypeDesc.func #[28, 28] #[4] false) 1 8 := ⟨by kernel_rfl, by kernel_rfl⟩
instance : TC Tryz.prog 120 [.nilFunc] [.v .nilFunc] := ⟨⟨.nilFunc, by kernel_rfl, rfl⟩, rfl, rfl⟩
instance : TI Tryz.prog 121 (Go.TypeDesc.func #[51, 51] #[4] false) 1 8 := ⟨by kernel_rfl, by kernel_rfl⟩
instance : TC Tryz.prog 121 [.nilFunc] [.v .nilFunc] := ⟨⟨.nilFunc, by kernel_rfl, rfl⟩, rfl, rfl⟩
instance : TI Tryz.prog 122 (Go.TypeDesc.int (Go.IntKind.u64)) 1 8 := ⟨by kernel_rfl, by kernel_rfl⟩
instance : TC Tryz.prog 122 [(.int .u64 0)] [.v (.int .u64 0)] := ⟨⟨(.int .u64 0), by kernel_rfl, rfl⟩, rfl, rfl⟩
instance : TI Tryz.prog 123 (Go.TypeDesc.func #[65, 3] #[4] false) 1 8 := ⟨by kernel_rfl, by kernel_rfl⟩
instance : TC Tryz.prog 123 [.nilFunc] [.v .nilFunc] := ⟨⟨.nilFunc, by kernel_rfl, rfl⟩, rfl, rfl⟩
instance : TI Tryz.prog 124 (Go.TypeDesc.func #[28, 3] #[4] false) 1 8 := ⟨by kernel_rfl, by kernel_rfl⟩
instance : TC Tryz.prog 124 [.nilFunc] [.v .nilFunc] := ⟨⟨.nilFunc, by kernel_rfl, rfl⟩, rfl, rfl⟩
instance : TI Tryz.prog 125 (Go.TypeDesc.func #[28, 51] #[4] false) 1 8 := ⟨by kernel_rfl, by kernel_rfl⟩
instance : TC Tryz.prog 125 [.nilFunc] [.v .nilFunc] := ⟨⟨.nilFunc, by kernel_rfl, rfl⟩, rfl, rfl⟩
instance : TI Tryz.prog 126 (Go.TypeDesc.func #[9, 3] #[3] false) 1 8 := ⟨by kernel_rfl, by kernel_rfl⟩
instance : TC Tryz.prog 126 [.nilFunc] [.v .nilFunc] := ⟨⟨.nilFunc, by kernel_rfl, rfl⟩, rfl, rfl⟩
instance : TI Tryz.prog 127 (Go.TypeDesc.func #[9, 3, 3, 3] #[9] false) 1 8 := ⟨by kernel_rfl, by kernel_rfl⟩
instance : TC Tryz.prog 127 [.nilFunc] [.v .nilFunc] := ⟨⟨.nilFunc, by kernel_rfl, rfl⟩, rfl, rfl⟩
instance : TI Tryz.prog 128 (Go.TypeDesc.func #[83, 65] #[65] false) 1 8 := ⟨by kernel_rfl, by kernel_rfl⟩
instance : TC Tryz.prog 128 [.nilFunc] [.v .nilFunc] := ⟨⟨.nilFunc, by kernel_rfl, rfl⟩, rfl, rfl⟩
instance : TI Tryz.prog 129 (Go.TypeDesc.func #[28, 3, 3] #[4] false) 1 8 := ⟨by kernel_rfl, by kernel_rfl⟩
instance : TC Tryz.prog 129 [.nilFunc] [.v .nilFunc] := ⟨⟨.nilFunc, by kernel_rfl, rfl⟩, rfl, rfl⟩
instance : TI Tryz.prog 130 (Go.TypeDesc.slice 5) 1 24 := ⟨by kernel_rfl, by kernel_rfl⟩
instance : TC Tryz.prog 130 [(.slice none 0 0)] [.nil] := ⟨⟨(.slice none 0 0), by kernel_rfl, rfl⟩, rfl, rfl⟩
instance : TI Tryz.prog 131 (Go.TypeDesc.int (Go.IntKind.u64)) 1 8 := ⟨by kernel_rfl, by kernel_rfl⟩
instance : TC Tryz.prog 131 [(.int .u64 0)] [.v (.int .u64 0)] := ⟨⟨(.int .u64 0), by kernel_rfl, rfl⟩, rfl, rfl⟩
instance : TI Tryz.prog 132 (Go.TypeDesc.int (Go.IntKind.u32)) 1 4 := ⟨by kernel_rfl, by kernel_rfl⟩
instance : TC Tryz.prog 132 [(.int .u32 0)] [.v (.int .u32 0)] := ⟨⟨(.int .u32 0), by kernel_rfl, rfl⟩, rfl, rfl⟩
instance : TI Tryz.prog 133 (Go.TypeDesc.array 8 132) 8 32 := ⟨by kernel_rfl, by kernel_rfl⟩
instance : TC Tryz.prog 133 [(.int .u32 0), (.int .u32 0), (.int .u32 0), (.int .u32 0), (.int .u32 0), (.int .u32 0), (.int .u32 0), (.int .u32 0)] [.v (.int .u32 0), .v (.int .u32 0), .v (.int .u32 0), .v (.int .u32 0), .v (.int .u32 0), .v (.int .u32 0), .v (.int .u32 0), .v (.int .u32 0)] := ⟨⟨.agg #[(.int .u32 0), (.int .u32 0), (.int .u32 0), (.int .u32 0), (.int .u32 0), (.int .u32 0), (.int .u32 0), (.int .u32 0)], by kernel_rfl, rfl⟩, rfl, rfl⟩
instance : TI Tryz.prog 134 (Go.TypeDesc.func #[133, 9] #[133] false) 1 8 := ⟨by kernel_rfl, by kernel_rfl⟩
instance : TC Tryz.prog 134 [.nilFunc] [.v .nilFunc] := ⟨⟨.nilFunc, by kernel_rfl, rfl⟩, rfl, rfl⟩
instance : TI Tryz.prog 135 (Go.TypeDesc.func #[136, 4] #[4] false) 1 8 := ⟨by kernel_rfl, by kernel_rfl⟩
instance : TC Tryz.prog 135 [.nilFunc] [.v .nilFunc] := ⟨⟨.nilFunc, by kernel_rfl, rfl⟩, rfl, rfl⟩
instance : TI Tryz.prog 136 (Go.TypeDesc.slice 4) 1 24 := ⟨by kernel_rfl, by kernel_rfl⟩
instance : TC Tryz.prog 136 [(.slice none 0 0)] [.nil] := ⟨⟨(.slice none 0 0), by kernel_rfl, rfl⟩, rfl, rfl⟩
instance : TI Tryz.prog 137 (Go.TypeDesc.func #[28, 3, 4, 73] #[136] false) 1 8 := ⟨by kernel_rfl, by kernel_rfl⟩
instance : TC Tryz.prog 137 [.nilFunc] [.v .nilFunc] := ⟨⟨.nilFunc, by kernel_rfl, rfl⟩, rfl, rfl⟩
instance : TI Tryz.prog 138 (Go.TypeDesc.func #[25, 3] #[4] false) 1 8 := ⟨by kernel_rfl, by kernel_rfl⟩
instance : TC Tryz.prog 138 [.nilFunc] [.v .nilFunc] := ⟨⟨.nilFunc, by kernel_rfl, rfl⟩, rfl, rfl⟩
instance : TI Tryz.prog 140 (Go.TypeDesc.func #[30, 88, 141] #[3, 4] false) 1 8 := ⟨by kernel_rfl, by kernel_rfl⟩
instance : TC Tryz.prog 140 [.nilFunc] [.v .nilFunc] := ⟨⟨.nilFunc, by kernel_rfl, rfl⟩, rfl, rfl⟩
instance : TI Tryz.prog 141 (Go.TypeDesc.func #[88, 88] #[3] false) 1 8 := ⟨by kernel_rfl, by kernel_rfl⟩
instance : TC Tryz.prog 141 [.nilFunc] [.v .nilFunc] := ⟨⟨.nilFunc, by kernel_rfl, rfl⟩, rfl, rfl⟩
instance : TI Tryz.prog 142 (Go.TypeDesc.func #[30] #[30] false) 1 8 := ⟨by kernel_rfl, by kernel_rfl⟩
instance : TC Tryz.prog 142 [.nilFunc] [.v .nilFunc] := ⟨⟨.nilFunc, by kernel_rfl, rfl⟩, rfl, rfl⟩
instance : TI Tryz.prog 143 (Go.TypeDesc.func #[30, 3, 3] #[30] false) 1 8 := ⟨by kernel_rfl, by kernel_rfl⟩
instance : TC Tryz.prog 143 [.nilFunc] [.v .nilFunc] := ⟨⟨.nilFunc, by kernel_rfl, rfl⟩, rfl, rfl⟩
instance : TI Tryz.prog 144 (Go.TypeDesc.func #[30, 3, 30] #[30] true) 1 8 := ⟨by kernel_rfl, by kernel_rfl⟩
instance : TC Tryz.prog 144 [.nilFunc] [.v .nilFunc] := ⟨⟨.nilFunc, by kernel_rfl, rfl⟩, rfl, rfl⟩
instance : TI Tryz.prog 145 (Go.TypeDesc.func #[25, 25] #[4] false) 1 8 := ⟨by kernel_rfl, by kernel_rfl⟩
instance : TC Tryz.prog 145 [.nilFunc] [.v .nilFunc] := ⟨⟨.nilFunc, by kernel_rfl, rfl⟩, rfl, rfl⟩
instance : TI Tryz.prog 146 (Go.TypeDesc.func #[9, 9, 9] #[4] false) 1 8 := ⟨by kernel_rfl, by kernel_rfl⟩
instance : TC Tryz.prog 146 [.nilFunc] [.v .nilFunc] := ⟨⟨.nilFunc, by kernel_rfl, rfl⟩, rfl, rfl⟩
instance : TI Tryz.prog 147 (Go.TypeDesc.pointer 149) 1 8 := ⟨by kernel_rfl, by kernel_rfl⟩
instance : TC Tryz.prog 147 [(.pointer none)] [.v (.pointer none)] := ⟨⟨(.pointer none), by kernel_rfl, rfl⟩, rfl, rfl⟩
instance : TI Tryz.prog 148 (Go.TypeDesc.struct #[{ name := "addr", type := 147, offset := 0, embedded := false, tag := "", pkgPath := "strings", byteOffset := 0 }, { name := "buf", type := 130, offset := 1, embedded := false, tag := "", pkgPath := "strings", byteOffset := 8 }]) 2 32 := ⟨by kernel_rfl, by kernel_rfl⟩
instance : TS Tryz.prog 148 [(0, 1), (1, 1)] := ⟨by kernel_rfl⟩
instance : TC Tryz.prog 148 [(.pointer none), (.slice none 0 0)] [.v (.pointer none), .nil] := ⟨⟨.agg #[(.pointer none), (.slice none 0 0)], by kernel_rfl, rfl⟩, rfl, rfl⟩
instance : TI Tryz.prog 149 (Go.TypeDesc.struct #[{ name := "addr", type := 147, offset := 0, embedded := false, tag := "", pkgPath := "strings", byteOffset := 0 }, { name := "buf", type := 130, offset := 1, embedded := false, tag := "", pkgPath := "strings", byteOffset := 8 }]) 2 32 := ⟨by kernel_rfl, by kernel_rfl⟩
instance : TS Tryz.prog 149 [(0, 1), (1, 1)] := ⟨by kernel_rfl⟩
instance : TC Tryz.prog 149 [(.pointer none), (.slice none 0 0)] [.v (.pointer none), .nil] := ⟨⟨.agg #[(.pointer none), (.slice none 0 0)], by kernel_rfl, rfl⟩, rfl, rfl⟩
instance : TI Tryz.prog 150 (Go.TypeDesc.interface #[("Error", 160)]) 1 16 := ⟨by kernel_rfl, by kernel_rfl⟩
instance : TC Tryz.prog 150 [.nilIface] [.v .nilIface] := ⟨⟨.nilIface, by kernel_rfl, rfl⟩, rfl, rfl⟩
instance : TI Tryz.prog 151 (Go.TypeDesc.interface #[("Error", 160)]) 1 16 := ⟨by kernel_rfl, by kernel_rfl⟩
instance : TC Tryz.prog 151 [.nilIface] [.v .nilIface] := ⟨⟨.nilIface, by kernel_rfl, rfl⟩, rfl, rfl⟩
instance : TI Tryz.prog 153 (Go.TypeDesc.func #[9] #[3, 151] false) 1 8 := ⟨by kernel_rfl, by kernel_rfl⟩
instance : TC Tryz.prog 153 [.nilFunc] [.v .nilFunc] := ⟨⟨.nilFunc, by kernel_rfl, rfl⟩, rfl, rfl⟩
instance : TI Tryz.prog 154 (Go.TypeDesc.func #[] #[3] false) 1 8 := ⟨by kernel_rfl, by kernel_rfl⟩
instance : TC Tryz.prog 154 [.nilFunc] [.v .nilFunc] := ⟨⟨.nilFunc, by kernel_rfl, rfl⟩, rfl, rfl⟩
instance : TI Tryz.prog 155 (Go.TypeDesc.func #[5] #[151] false) 1 8 := ⟨by kernel_rfl, by kernel_rfl⟩
instance : TC Tryz.prog 155 [.nilFunc] [.v .nilFunc] := ⟨⟨.nilFunc, by kernel_rfl, rfl⟩, rfl, rfl⟩
instance : TI Tryz.prog 156 (Go.TypeDesc.array 8 132) 8 32 := ⟨by kernel_rfl, by kernel_rfl⟩
instance : TC Tryz.prog 156 [(.int .u32 0), (.int .u32 0), (.int .u32 0), (.int .u32 0), (.int .u32 0), (.int .u32 0), (.int .u32 0), (.int .u32 0)] [.v (.int .u32 0), .v (.int .u32 0), .v (.int .u32 0), .v (.int .u32 0), .v (.int .u32 0), .v (.int .u32 0), .v (.int .u32 0), .v (.int .u32 0)] := ⟨⟨.agg #[(.int .u32 0), (.int .u32 0), (.int .u32 0), (.int .u32 0), (.int .u32 0), (.int .u32 0), (.int .u32 0), (.int .u32 0)], by kernel_rfl, rfl⟩, rfl, rfl⟩
instance : TI Tryz.prog 157 (Go.TypeDesc.func #[] #[156] false) 1 8 := ⟨by kernel_rfl, by kernel_rfl⟩
instance : TC Tryz.prog 157 [.nilFunc] [.v .nilFunc] := ⟨⟨.nilFunc, by kernel_rfl, rfl⟩, rfl, rfl⟩
instance : TI Tryz.prog 158 (Go.TypeDesc.array 64 132) 64 256 := ⟨by kernel_rfl, by kernel_rfl⟩
instance : TC Tryz.prog 158 [(.int .u32 0), (.int .u32 0), (.int .u32 0), (.int .u32 0), (.int .u32 0), (.int .u32 0), (.int .u32 0), (.int .u32 0), (.int .u32 0), (.int .u32 0), (.int .u32 0), (.int .u32 0), (.int .u32 0), (.int .u32 0), (.int .u32 0), (.int .u32 0), (.int .u32 0), (.int .u32 0), (.int .u32 0), (.int .u32 0), (.int .u32 0), (.int .u32 0), (.int .u32 0), (.int .u32 0), (.int .u32 0), (.int .u32 0), (.int .u32 0), (.int .u32 0), (.int .u32 0), (.int .u32 0), (.int .u32 0), (.int .u32 0), (.int .u32 0), (.int .u32 0), (.int .u32 0), (.int .u32 0), (.int .u32 0), (.int .u32 0), (.int .u32 0), (.int .u32 0), (.int .u32 0), (.int .u32 0), (.int .u32 0), (.int .u32 0), (.int .u32 0), (.int .u32 0), (.int .u32 0), (.int .u32 0), (.int .u32 0), (.int .u32 0), (.int .u32 0), (.int .u32 0), (.int .u32 0), (.int .u32 0), (.int .u32 0), (.int .u32 0), (.int .u32 0), (.int .u32 0), (.int .u32 0), (.int .u32 0), (.int .u32 0), (.int .u32 0), (.int .u32 0), (.int .u32 0)] [.v (.int .u32 0), .v (.int .u32 0), .v (.int .u32 0), .v (.int .u32 0), .v (.int .u32 0), .v (.int .u32 0), .v (.int .u32 0), .v (.int .u32 0), .v (.int .u32 0), .v (.int .u32 0), .v (.int .u32 0), .v (.int .u32 0), .v (.int .u32 0), .v (.int .u32 0), .v (.int .u32 0), .v (.int .u32 0), .v (.int .u32 0), .v (.int .u32 0), .v (.int .u32 0), .v (.int .u32 0), .v (.int .u32 0), .v (.int .u32 0), .v (.int .u32 0), .v (.int .u32 0), .v (.int .u32 0), .v (.int .u32 0), .v (.int .u32 0), .v (.int .u32 0), .v (.int .u32 0), .v (.int .u32 0), .v (.int .u32 0), .v (.int .u32 0), .v (.int .u32 0), .v (.int .u32 0), .v (.int .u32 0), .v (.int .u32 0), .v (.int .u32 0), .v (.int .u32 0), .v (.int .u32 0), .v (.int .u32 0), .v (.int .u32 0), .v (.int .u32 0), .v (.int .u32 0), .v (.int .u32 0), .v (.int .u32 0), .v (.int .u32 0), .v (.int .u32 0), .v (.int .u32 0), .v (.int .u32 0), .v (.int .u32 0), .v (.int .u32 0), .v (.int .u32 0), .v (.int .u32 0), .v (.int .u32 0), .v (.int .u32 0), .v (.int .u32 0), .v (.int .u32 0), .v (.int .u32 0), .v (.int .u32 0), .v (.int .u32 0), .v (.int .u32 0), .v (.int .u32 0), .v (.int .u32 0), .v (.int .u32 0)] := ⟨⟨.agg #[(.int .u32 0), (.int .u32 0), (.int .u32 0), (.int .u32 0), (.int .u32 0), (.int .u32 0), (.int .u32 0), (.int .u32 0), (.int .u32 0), (.int .u32 0), (.int .u32 0), (.int .u32 0), (.int .u32 0), (.int .u32 0), (.int .u32 0), (.int .u32 0), (.int .u32 0), (.int .u32 0), (.int .u32 0), (.int .u32 0), (.int .u32 0), (.int .u32 0), (.int .u32 0), (.int .u32 0), (.int .u32 0), (.int .u32 0), (.int .u32 0), (.int .u32 0), (.int .u32 0), (.int .u32 0), (.int .u32 0), (.int .u32 0), (.int .u32 0), (.int .u32 0), (.int .u32 0), (.int .u32 0), (.int .u32 0), (.int .u32 0), (.int .u32 0), (.int .u32 0), (.int .u32 0), (.int .u32 0), (.int .u32 0), (.int .u32 0), (.int .u32 0), (.int .u32 0), (.int .u32 0), (.int .u32 0), (.int .u32 0), (.int .u32 0), (.int .u32 0), (.int .u32 0), (.int .u32 0), (.int .u32 0), (.int .u32 0), (.int .u32 0), (.int .u32 0), (.int .u32 0), (.int .u32 0), (.int .u32 0), (.int .u32 0), (.int .u32 0), (.int .u32 0), (.int .u32 0)], by kernel_rfl, rfl⟩, rfl, rfl⟩
instance : TI Tryz.prog 159 (Go.TypeDesc.func #[] #[158] false) 1 8 := ⟨by kernel_rfl, by kernel_rfl⟩
instance : TC Tryz.prog 159 [.nilFunc] [.v .nilFunc] := ⟨⟨.nilFunc, by kernel_rfl, rfl⟩, rfl, rfl⟩
instance : TI Tryz.prog 160 (Go.TypeDesc.func #[] #[9] false) 1 8 := ⟨by kernel_rfl, by kernel_rfl⟩
instance : TC Tryz.prog 160 [.nilFunc] [.v .nilFunc] := ⟨⟨.nilFunc, by kernel_rfl, rfl⟩, rfl, rfl⟩
instance : TI Tryz.prog 161 (Go.TypeDesc.func #[9, 162] #[] false) 1 8 := ⟨by kernel_rfl, by kernel_rfl⟩
instance : TC Tryz.prog 161 [.nilFunc] [.v .nilFunc] := ⟨⟨.nilFunc, by kernel_rfl, rfl⟩, rfl, rfl⟩
instance : TI Tryz.prog 162 (Go.TypeDesc.pointer 158) 1 8 := ⟨by kernel_rfl, by kernel_rfl⟩
instance : TC Tryz.prog 162 [(.pointer none)] [.v (.pointer none)] := ⟨⟨(.pointer none), by kernel_rfl, rfl⟩, rfl, rfl⟩
instance : TI Tryz.prog 163 (Go.TypeDesc.func #[24, 164] #[4] false) 1 8 := ⟨by kernel_rfl, by kernel_rfl⟩
instance : TC Tryz.prog 163 [.nilFunc] [.v .nilFunc] := ⟨⟨.nilFunc, by kernel_rfl, rfl⟩, rfl, rfl⟩
instance : TI Tryz.prog 164 (Go.TypeDesc.func #[37] #[4] false) 1 8 := ⟨by kernel_rfl, by kernel_rfl⟩
instance : TC Tryz.prog 164 [.nilFunc] [.v .nilFunc] := ⟨⟨.nilFunc, by kernel_rfl, rfl⟩, rfl, rfl⟩
instance : TI Tryz.prog 165 (Go.TypeDesc.func #[167, 3] #[3] false) 1 8 := ⟨by kernel_rfl, by kernel_rfl⟩
instance : TC Tryz.prog 165 [.nilFunc] [.v .nilFunc] := ⟨⟨.nilFunc, by kernel_rfl, rfl⟩, rfl, rfl⟩
instance : TI Tryz.prog 166 (Go.TypeDesc.func #[3] #[3] false) 1 8 := ⟨by kernel_rfl, by kernel_rfl⟩
instance : TC Tryz.prog 166 [.nilFunc] [.v .nilFunc] := ⟨⟨.nilFunc, by kernel_rfl, rfl⟩, rfl, rfl⟩
instance : TI Tryz.prog 167 (Go.TypeDesc.struct #[{ name := "ID", type := 9, offset := 0, embedded := false, tag := "", pkgPath := "", byteOffset := 0 }, { name := "Parties", type := 23, offset := 1, embedded := false, tag := "", pkgPath := "", byteOffset := 16 }, { name := "Arcs", type := 24, offset := 2, embedded := false, tag := "", pkgPath := "", byteOffset := 40 }, { name := "Leaders", type := 25, offset := 3, embedded := false, tag := "", pkgPath := "", byteOffset := 64 }, { name := "Locks", type := 26, offset := 4, embedded := false, tag := "", pkgPath := "", byteOffset := 88 }, { name := "Start", type := 3, offset := 5, embedded := false, tag := "", pkgPath := "", byteOffset := 112 }, { name := "Delta", type := 3, offset := 6, embedded := false, tag := "", pkgPath := "", byteOffset := 120 }]) 7 128 := ⟨by kernel_rfl, by kernel_rfl⟩
instance : TS Tryz.prog 167 [(0, 1), (1, 1), (2, 1), (3, 1), (4, 1), (5, 1), (6, 1)] := ⟨by kernel_rfl⟩
instance : TC Tryz.prog 167 [(.string ⟨#[]⟩), (.slice none 0 0), (.slice none 0 0), (.slice none 0 0), (.slice none 0 0), (.int .i64 0), (.int .i64 0)] [.v (.string ⟨#[]⟩), .nil, .nil, .nil, .nil, .v (.int .i64 0), .v (.int .i64 0)] := ⟨⟨.agg #[(.string ⟨#[]⟩), (.slice none 0 0), (.slice none 0 0), (.slice none 0 0), (.slice none 0 0), (.int .i64 0), (.int .i64 0)], by kernel_rfl, rfl⟩, rfl, rfl⟩
instance : TI Tryz.prog 168 (Go.TypeDesc.func #[132, 122] #[132] false) 1 8 := ⟨by kernel_rfl, by kernel_rfl⟩
instance : TC Tryz.prog 168 [.nilFunc] [.v .nilFunc] := ⟨⟨.nilFunc, by kernel_rfl, rfl⟩, rfl, rfl⟩
instance : TI Tryz.prog 169 (Go.TypeDesc.func #[26, 3, 3] #[4] false) 1 8 := ⟨by kernel_rfl, by kernel_rfl⟩
instance : TC Tryz.prog 169 [.nilFunc] [.v .nilFunc] := ⟨⟨.nilFunc, by kernel_rfl, rfl⟩, rfl, rfl⟩
instance : TI Tryz.prog 170 (Go.TypeDesc.slice 172) 1 24 := ⟨by kernel_rfl, by kernel_rfl⟩
instance : TC Tryz.prog 170 [(.slice none 0 0)] [.nil] := ⟨⟨(.slice none 0 0), by kernel_rfl, rfl⟩, rfl, rfl⟩
instance : TI Tryz.prog 171 (Go.TypeDesc.func #[37, 3] #[4] false) 1 8 := ⟨by kernel_rfl, by kernel_rfl⟩
instance : TC Tryz.prog 171 [.nilFunc] [.v .nilFunc] := ⟨⟨.nilFunc, by kernel_rfl, rfl⟩, rfl, rfl⟩
instance : TI Tryz.prog 172 (Go.TypeDesc.array 2 3) 2 16 := ⟨by kernel_rfl, by kernel_rfl⟩
instance : TC Tryz.prog 172 [(.int .i64 0), (.int .i64 0)] [.v (.int .i64 0), .v (.int .i64 0)] := ⟨⟨.agg #[(.int .i64 0), (.int .i64 0)], by kernel_rfl, rfl⟩, rfl, rfl⟩
instance : TI Tryz.prog 173 (Go.TypeDesc.func #[26] #[4] false) 1 8 := ⟨by kernel_rfl, by kernel_rfl⟩
instance : TC Tryz.prog 173 [.nilFunc] [.v .nilFunc] := ⟨⟨.nilFunc, by kernel_rfl, rfl⟩, rfl, rfl⟩
instance : TI Tryz.prog 174 (Go.TypeDesc.func #[170] #[4] false) 1 8 := ⟨by kernel_rfl, by kernel_rfl⟩
instance : TC Tryz.prog 174 [.nilFunc] [.v .nilFunc] := ⟨⟨.nilFunc, by kernel_rfl, rfl⟩, rfl, rfl⟩
instance : TI Tryz.prog 175 (Go.TypeDesc.func #[25] #[4] false) 1 8 := ⟨by kernel_rfl, by kernel_rfl⟩
instance : TC Tryz.prog 175 [.nilFunc] [.v .nilFunc] := ⟨⟨.nilFunc, by kernel_rfl, rfl⟩, rfl, rfl⟩
instance : TI Tryz.prog 176 (Go.TypeDesc.func #[25, 73] #[4] false) 1 8 := ⟨by kernel_rfl, by kernel_rfl⟩
instance : TC Tryz.prog 176 [.nilFunc] [.v .nilFunc] := ⟨⟨.nilFunc, by kernel_rfl, rfl⟩, rfl, rfl⟩
instance : TI Tryz.prog 177 (Go.TypeDesc.func #[136, 4] #[3] false) 1 8 := ⟨by kernel_rfl, by kernel_rfl⟩
instance : TC Tryz.prog 177 [.nilFunc] [.v .nilFunc] := ⟨⟨.nilFunc, by kernel_rfl, rfl⟩, rfl, rfl⟩
instance : TI Tryz.prog 178 (Go.TypeDesc.func #[25, 3] #[3] false) 1 8 := ⟨by kernel_rfl, by kernel_rfl⟩
instance : TC Tryz.prog 178 [.nilFunc] [.v .nilFunc] := ⟨⟨.nilFunc, by kernel_rfl, rfl⟩, rfl, rfl⟩
instance : TI Tryz.prog 179 (Go.TypeDesc.func #[25] #[3] true) 1 8 := ⟨by kernel_rfl, by kernel_rfl⟩
instance : TC Tryz.prog 179 [.nilFunc] [.v .nilFunc] := ⟨⟨.nilFunc, by kernel_rfl, rfl⟩, rfl, rfl⟩
instance : TI Tryz.prog 180 (Go.TypeDesc.func #[9, 9] #[3] false) 1 8 := ⟨by kernel_rfl, by kernel_rfl⟩
instance : TC Tryz.prog 180 [.nilFunc] [.v .nilFunc] := ⟨⟨.nilFunc, by kernel_rfl, rfl⟩, rfl, rfl⟩
instance : TI Tryz.prog 181 (Go.TypeDesc.func #[30, 30] #[4] false) 1 8 := ⟨by kernel_rfl, by kernel_rfl⟩
instance : TC Tryz.prog 181 [.nilFunc] [.v .nilFunc] := ⟨⟨.nilFunc, by kernel_rfl, rfl⟩, rfl, rfl⟩
instance : TI Tryz.prog 182 (Go.TypeDesc.func #[30, 3] #[] false) 1 8 := ⟨by kernel_rfl, by kernel_rfl⟩
instance : TC Tryz.prog 182 [.nilFunc] [.v .nilFunc] := ⟨⟨.nilFunc, by kernel_rfl, rfl⟩, rfl, rfl⟩
instance : TI Tryz.prog 183 (Go.TypeDesc.func #[28, 3, 3, 25] #[4] false) 1 8 := ⟨by kernel_rfl, by kernel_rfl⟩
instance : TC Tryz.prog 183 [.nilFunc] [.v .nilFunc] := ⟨⟨.nilFunc, by kernel_rfl, rfl⟩, rfl, rfl⟩
instance : TI Tryz.prog 184 (Go.TypeDesc.pointer 5) 1 8 := ⟨by kernel_rfl, by kernel_rfl⟩
instance : TC Tryz.prog 184 [(.pointer none)] [.v (.pointer none)] := ⟨⟨(.pointer none), by kernel_rfl, rfl⟩, rfl, rfl⟩
instance : TI Tryz.prog 185 (Go.TypeDesc.pointer 156) 1 8 := ⟨by kernel_rfl, by kernel_rfl⟩
instance : TC Tryz.prog 185 [(.pointer none)] [.v (.pointer none)] := ⟨⟨(.pointer none), by kernel_rfl, rfl⟩, rfl, rfl⟩
instance : TI Tryz.prog 186 (Go.TypeDesc.func #[9] #[132] false) 1 8 := ⟨by kernel_rfl, by kernel_rfl⟩
instance : TC Tryz.prog 186 [.nilFunc] [.v .nilFunc] := ⟨⟨.nilFunc, by kernel_rfl, rfl⟩, rfl, rfl⟩
instance : TI Tryz.prog 187 (Go.TypeDesc.func #[132, 3] #[132] false) 1 8 := ⟨by kernel_rfl, by kernel_rfl⟩
instance : TC Tryz.prog 187 [.nilFunc] [.v .nilFunc] := ⟨⟨.nilFunc, by kernel_rfl, rfl⟩, rfl, rfl⟩
instance : TI Tryz.prog 188 (Go.TypeDesc.func #[24, 164] #[3] false) 1 8 := ⟨by kernel_rfl, by kernel_rfl⟩
instance : TC Tryz.prog 188 [.nilFunc] [.v .nilFunc] := ⟨⟨.nilFunc, by kernel_rfl, rfl⟩, rfl, rfl⟩
instance : TI Tryz.prog 189 (Go.TypeDesc.func #[9] #[166] false) 1 8 := ⟨by kernel_rfl, by kernel_rfl⟩
instance : TC Tryz.prog 189 [.nilFunc] [.v .nilFunc] := ⟨⟨.nilFunc, by kernel_rfl, rfl⟩, rfl, rfl⟩
instance : TI Tryz.prog 190 (Go.TypeDesc.func #[38] #[9] false) 1 8 := ⟨by kernel_rfl, by kernel_rfl⟩
instance : TC Tryz.prog 190 [.nilFunc] [.v .nilFunc] := ⟨⟨.nilFunc, by kernel_rfl, rfl⟩, rfl, rfl⟩
instance : TI Tryz.prog 191 (Go.TypeDesc.func #[33] #[24] false) 1 8 := ⟨by kernel_rfl, by kernel_rfl⟩
instance : TC Tryz.prog 191 [.nilFunc] [.v .nilFunc] := ⟨⟨.nilFunc, by kernel_rfl, rfl⟩, rfl, rfl⟩
instance : TI Tryz.prog 192 (Go.TypeDesc.func #[26] #[] false) 1 8 := ⟨by kernel_rfl, by kernel_rfl⟩
instance : TC Tryz.prog 192 [.nilFunc] [.v .nilFunc] := ⟨⟨.nilFunc, by kernel_rfl, rfl⟩, rfl, rfl⟩
instance : TI Tryz.prog 193 (Go.TypeDesc.func #[26, 94] #[4] false) 1 8 := ⟨by kernel_rfl, by kernel_rfl⟩
instance : TC Tryz.prog 193 [.nilFunc] [.v .nilFunc] := ⟨⟨.nilFunc, by kernel_rfl, rfl⟩, rfl, rfl⟩
instance : TI Tryz.prog 194 (Go.TypeDesc.map 9 4) 1 8 := ⟨by kernel_rfl, by kernel_rfl⟩
instance : TC Tryz.prog 194 [(.map none)] [.v (.map none)] := ⟨⟨(.map none), by kernel_rfl, rfl⟩, rfl, rfl⟩
instance : TI Tryz.prog 195 (Go.TypeDesc.map 172 4) 1 8 := ⟨by kernel_rfl, by kernel_rfl⟩
instance : TC Tryz.prog 195 [(.map none)] [.v (.map none)] := ⟨⟨(.map none), by kernel_rfl, rfl⟩, rfl, rfl⟩
instance : TI Tryz.prog 196 (Go.TypeDesc.map 3 4) 1 8 := ⟨by kernel_rfl, by kernel_rfl⟩
instance : TC Tryz.prog 196 [(.map none)] [.v (.map none)] := ⟨⟨(.map none), by kernel_rfl, rfl⟩, rfl, rfl⟩
instance : TI Tryz.prog 197 (Go.TypeDesc.func #[25, 73] #[3] false) 1 8 := ⟨by kernel_rfl, by kernel_rfl⟩
instance : TC Tryz.prog 197 [.nilFunc] [.v .nilFunc] := ⟨⟨.nilFunc, by kernel_rfl, rfl⟩, rfl, rfl⟩
instance : TI Tryz.prog 198 (Go.TypeDesc.array 6 4) 6 6 := ⟨by kernel_rfl, by kernel_rfl⟩
instance : TC Tryz.prog 198 [(.bool false), (.bool false), (.bool false), (.bool false), (.bool false), (.bool false)] [.v (.bool false), .v (.bool false), .v (.bool false), .v (.bool false), .v (.bool false), .v (.bool false)] := ⟨⟨.agg #[(.bool false), (.bool false), (.bool false), (.bool false), (.bool false), (.bool false)], by kernel_rfl, rfl⟩, rfl, rfl⟩
instance : TI Tryz.prog 199 (Go.TypeDesc.unsafePointer) 1 8 := ⟨by kernel_rfl, by kernel_rfl⟩
instance : TC Tryz.prog 199 [(.pointer none)] [.v (.pointer none)] := ⟨⟨(.pointer none), by kernel_rfl, rfl⟩, rfl, rfl⟩
instance : TI Tryz.prog 200 (Go.TypeDesc.func #[199] #[199] false) 1 8 := ⟨by kernel_rfl, by kernel_rfl⟩
instance : TC Tryz.prog 200 [.nilFunc] [.v .nilFunc] := ⟨⟨.nilFunc, by kernel_rfl, rfl⟩, rfl, rfl⟩
instance : TI Tryz.prog 201 (Go.TypeDesc.func #[26, 3, 3, 3] #[] false) 1 8 := ⟨by kernel_rfl, by kernel_rfl⟩
instance : TC Tryz.prog 201 [.nilFunc] [.v .nilFunc] := ⟨⟨.nilFunc, by kernel_rfl, rfl⟩, rfl, rfl⟩
instance : TI Tryz.prog 202 (Go.TypeDesc.func #[122] #[3] false) 1 8 := ⟨by kernel_rfl, by kernel_rfl⟩
instance : TC Tryz.prog 202 [.nilFunc] [.v .nilFunc] := ⟨⟨.nilFunc, by kernel_rfl, rfl⟩, rfl, rfl⟩
instance : TI Tryz.prog 203 (Go.TypeDesc.func #[26, 94] #[3] false) 1 8 := ⟨by kernel_rfl, by kernel_rfl⟩
instance : TC Tryz.prog 203 [.nilFunc] [.v .nilFunc] := ⟨⟨.nilFunc, by kernel_rfl, rfl⟩, rfl, rfl⟩
instance : TI Tryz.prog 204 (Go.TypeDesc.func #[30] #[] false) 1 8 := ⟨by kernel_rfl, by kernel_rfl⟩
instance : TC Tryz.prog 204 [.nilFunc] [.v .nilFunc] := ⟨⟨.nilFunc, by kernel_rfl, rfl⟩, rfl, rfl⟩
instance : TI Tryz.prog 205 (Go.TypeDesc.func #[26, 3, 3] #[] false) 1 8 := ⟨by kernel_rfl, by kernel_rfl⟩
instance : TC Tryz.prog 205 [.nilFunc] [.v .nilFunc] := ⟨⟨.nilFunc, by kernel_rfl, rfl⟩, rfl, rfl⟩
instance : TI Tryz.prog 206 (Go.TypeDesc.int (Go.IntKind.i64)) 1 8 := ⟨by kernel_rfl, by kernel_rfl⟩
instance : TC Tryz.prog 206 [(.int .i64 0)] [.v (.int .i64 0)] := ⟨⟨(.int .i64 0), by kernel_rfl, rfl⟩, rfl, rfl⟩
instance : TI Tryz.prog 208 (Go.TypeDesc.func #[26, 3, 3] #[3, 206] false) 1 8 := ⟨by kernel_rfl, by kernel_rfl⟩
instance : TC Tryz.prog 208 [.nilFunc] [.v .nilFunc] := ⟨⟨.nilFunc, by kernel_rfl, rfl⟩, rfl, rfl⟩
instance : TI Tryz.prog 209 (Go.TypeDesc.func #[9, 9] #[4] false) 1 8 := ⟨by kernel_rfl, by kernel_rfl⟩
instance : TC Tryz.prog 209 [.nilFunc] [.v .nilFunc] := ⟨⟨.nilFunc, by kernel_rfl, rfl⟩, rfl, rfl⟩
instance : TI Tryz.prog 210 (Go.TypeDesc.func #[26, 3, 3, 3] #[3] false) 1 8 := ⟨by kernel_rfl, by kernel_rfl⟩
instance : TC Tryz.prog 210 [.nilFunc] [.v .nilFunc] := ⟨⟨.nilFunc, by kernel_rfl, rfl⟩, rfl, rfl⟩
instance : TI Tryz.prog 211 (Go.TypeDesc.func #[26, 3, 3, 3] #[3, 4] false) 1 8 := ⟨by kernel_rfl, by kernel_rfl⟩
instance : TC Tryz.prog 211 [.nilFunc] [.v .nilFunc] := ⟨⟨.nilFunc, by kernel_rfl, rfl⟩, rfl, rfl⟩
instance : TI Tryz.prog 212 (Go.TypeDesc.func #[132] #[3] false) 1 8 := ⟨by kernel_rfl, by kernel_rfl⟩
instance : TC Tryz.prog 212 [.nilFunc] [.v .nilFunc] := ⟨⟨.nilFunc, by kernel_rfl, rfl⟩, rfl, rfl⟩
instance : TI Tryz.prog 213 (Go.TypeDesc.func #[131] #[3] false) 1 8 := ⟨by kernel_rfl, by kernel_rfl⟩
instance : TC Tryz.prog 213 [.nilFunc] [.v .nilFunc] := ⟨⟨.nilFunc, by kernel_rfl, rfl⟩, rfl, rfl⟩
instance : TI Tryz.prog 214 (Go.TypeDesc.int (Go.IntKind.u64)) 1 8 := ⟨by kernel_rfl, by kernel_rfl⟩
instance : TC Tryz.prog 214 [(.int .u64 0)] [.v (.int .u64 0)] := ⟨⟨(.int .u64 0), by kernel_rfl, rfl⟩, rfl, rfl⟩
instance : TI Tryz.prog 215 (Go.TypeDesc.func #[3] #[122] false) 1 8 := ⟨by kernel_rfl, by kernel_rfl⟩
instance : TC Tryz.prog 215 [.nilFunc] [.v .nilFunc] := ⟨⟨.nilFunc, by kernel_rfl, rfl⟩, rfl, rfl⟩
instance : TI Tryz.prog 216 (Go.TypeDesc.func #[] #[131] false) 1 8 := ⟨by kernel_rfl, by kernel_rfl⟩
instance : TC Tryz.prog 216 [.nilFunc] [.v .nilFunc] := ⟨⟨.nilFunc, by kernel_rfl, rfl⟩, rfl, rfl⟩
instance : TI Tryz.prog 217 (Go.TypeDesc.func #[26, 3, 218] #[3] false) 1 8 := ⟨by kernel_rfl, by kernel_rfl⟩
instance : TC Tryz.prog 217 [.nilFunc] [.v .nilFunc] := ⟨⟨.nilFunc, by kernel_rfl, rfl⟩, rfl, rfl⟩
instance : TI Tryz.prog 218 (Go.TypeDesc.pointer 3) 1 8 := ⟨by kernel_rfl, by kernel_rfl⟩
instance : TC Tryz.prog 218 [(.pointer none)] [.v (.pointer none)] := ⟨⟨(.pointer none), by kernel_rfl, rfl⟩, rfl, rfl⟩
instance : TI Tryz.prog 219 (Go.TypeDesc.func #[26, 3, 3, 3, 218] #[3] false) 1 8 := ⟨by kernel_rfl, by kernel_rfl⟩
instance : TC Tryz.prog 219 [.nilFunc] [.v .nilFunc] := ⟨⟨.nilFunc, by kernel_rfl, rfl⟩, rfl, rfl⟩
instance : TI Tryz.prog 220 (Go.TypeDesc.pointer 214) 1 8 := ⟨by kernel_rfl, by kernel_rfl⟩
instance : TC Tryz.prog 220 [(.pointer none)] [.v (.pointer none)] := ⟨⟨(.pointer none), by kernel_rfl, rfl⟩, rfl, rfl⟩
instance : TI Tryz.prog 222 (Go.TypeDesc.func #[26, 3, 3, 218] #[3, 3] false) 1 8 := ⟨by kernel_rfl, by kernel_rfl⟩
instance : TC Tryz.prog 222 [.nilFunc] [.v .nilFunc] := ⟨⟨.nilFunc, by kernel_rfl, rfl⟩, rfl, rfl⟩
instance : TI Tryz.prog 223 (Go.TypeDesc.struct #[{ name := "_interface", type := 17, offset := 0, embedded := false, tag := "", pkgPath := "runtime", byteOffset := 0 }, { name := "concrete", type := 17, offset := 1, embedded := false, tag := "", pkgPath := "runtime", byteOffset := 8 }, { name := "asserted", type := 17, offset := 2, embedded := false, tag := "", pkgPath := "runtime", byteOffset := 16 }, { name := "missingMethod", type := 9, offset := 3, embedded := false, tag := "", pkgPath := "runtime", byteOffset := 24 }]) 4 40 := ⟨by kernel_rfl, by kernel_rfl⟩
instance : TS Tryz.prog 223 [(0, 1), (1, 1), (2, 1), (3, 1)] := ⟨by kernel_rfl⟩
instance : TC Tryz.prog 223 [(.pointer none), (.pointer none), (.pointer none), (.string ⟨#[]⟩)] [.v (.pointer none), .v (.pointer none), .v (.pointer none), .v (.string ⟨#[]⟩)] := ⟨⟨.agg #[(.pointer none), (.pointer none), (.pointer none), (.string ⟨#[]⟩)], by kernel_rfl, rfl⟩, rfl, rfl⟩
instance : TI Tryz.prog 224 (Go.TypeDesc.struct #[{ name := "_interface", type := 17, offset := 0, embedded := false, tag := "", pkgPath := "runtime", byteOffset := 0 }, { name := "concrete", type := 17, offset := 1, embedded := false, tag := "", pkgPath := "runtime", byteOffset := 8 }, { name := "asserted", type := 17, offset := 2, embedded := false, tag := "", pkgPath := "runtime", byteOffset := 16 }, { name := "missingMethod", type := 9, offset := 3, embedded := false, tag := "", pkgPath := "runtime", byteOffset := 24 }]) 4 40 := ⟨by kernel_rfl, by kernel_rfl⟩
instance : TS Tryz.prog 224 [(0, 1), (1, 1), (2, 1), (3, 1)] := ⟨by kernel_rfl⟩
instance : TC Tryz.prog 224 [(.pointer none), (.pointer none), (.pointer none), (.string ⟨#[]⟩)] [.v (.pointer none), .v (.pointer none), .v (.pointer none), .v (.string ⟨#[]⟩)] := ⟨⟨.agg #[(.pointer none), (.pointer none), (.pointer none), (.string ⟨#[]⟩)], by kernel_rfl, rfl⟩, rfl, rfl⟩
instance : TI Tryz.prog 225 (Go.TypeDesc.array 0 16) 0 0 := ⟨by kernel_rfl, by kernel_rfl⟩
instance : TC Tryz.prog 225 [] [] := ⟨⟨.agg #[], by kernel_rfl, rfl⟩, rfl, rfl⟩
instance : TI Tryz.prog 226 (Go.TypeDesc.struct #[{ name := "_", type := 225, offset := 0, embedded := false, tag := "", pkgPath := "runtime", byteOffset := 0 }]) 0 0 := ⟨by kernel_rfl, by kernel_rfl⟩
instance : TS Tryz.prog 226 [(0, 0)] := ⟨by kernel_rfl⟩
instance : TC Tryz.prog 226 [] [] := ⟨⟨.agg #[], by kernel_rfl, rfl⟩, rfl, rfl⟩
instance : TI Tryz.prog 227 (Go.TypeDesc.struct #[{ name := "_", type := 225, offset := 0, embedded := false, tag := "", pkgPath := "runtime", byteOffset := 0 }]) 0 0 := ⟨by kernel_rfl, by kernel_rfl⟩
instance : TS Tryz.prog 227 [(0, 0)] := ⟨by kernel_rfl⟩
instance : TC Tryz.prog 227 [] [] := ⟨⟨.agg #[], by kernel_rfl, rfl⟩, rfl, rfl⟩
instance : TI Tryz.prog 228 (Go.TypeDesc.int (Go.IntKind.u8)) 1 1 := ⟨by kernel_rfl, by kernel_rfl⟩
instance : TC Tryz.prog 228 [(.int .u8 0)] [.v (.int .u8 0)] := ⟨⟨(.int .u8 0), by kernel_rfl, rfl⟩, rfl, rfl⟩
instance : TI Tryz.prog 229 (Go.TypeDesc.int (Go.IntKind.u8)) 1 1 := ⟨by kernel_rfl, by kernel_rfl⟩
instance : TC Tryz.prog 229 [(.int .u8 0)] [.v (.int .u8 0)] := ⟨⟨(.int .u8 0), by kernel_rfl, rfl⟩, rfl, rfl⟩
instance : TI Tryz.prog 230 (Go.TypeDesc.func #[199, 199] #[4] false) 1 8 := ⟨by kernel_rfl, by kernel_rfl⟩
instance : TC Tryz.prog 230 [.nilFunc] [.v .nilFunc] := ⟨⟨.nilFunc, by kernel_rfl, rfl⟩, rfl, rfl⟩
instance : TI Tryz.prog 231 (Go.TypeDesc.int (Go.IntKind.i32)) 1 4 := ⟨by kernel_rfl, by kernel_rfl⟩
instance : TC Tryz.prog 231 [(.int .i32 0)] [.v (.int .i32 0)] := ⟨⟨(.int .i32 0), by kernel_rfl, rfl⟩, rfl, rfl⟩
instance : TI Tryz.prog 232 (Go.TypeDesc.int (Go.IntKind.i32)) 1 4 := ⟨by kernel_rfl, by kernel_rfl⟩
instance : TC Tryz.prog 232 [(.int .i32 0)] [.v (.int .i32 0)] := ⟨⟨(.int .i32 0), by kernel_rfl, rfl⟩, rfl, rfl⟩
instance : TI Tryz.prog 233 (Go.TypeDesc.struct #[{ name := "Size_", type := 12, offset := 0, embedded := false, tag := "", pkgPath := "", byteOffset := 0 }, { name := "PtrBytes", type := 12, offset := 1, embedded := false, tag := "", pkgPath := "", byteOffset := 8 }, { name := "Hash", type := 132, offset := 2, embedded := false, tag := "", pkgPath := "", byteOffset := 16 }, { name := "TFlag", type := 228, offset := 3, embedded := false, tag := "", pkgPath := "", byteOffset := 20 }, { name := "Align_", type := 5, offset := 4, embedded := false, tag := "", pkgPath := "", byteOffset := 21 }, { name := "FieldAlign_", type := 5, offset := 5, embedded := false, tag := "", pkgPath := "", byteOffset := 22 }, { name := "Kind_", type := 229, offset := 6, embedded := false, tag := "", pkgPath := "", byteOffset := 23 }, { name := "Equal", type := 230, offset := 7, embedded := false, tag := "", pkgPath := "", byteOffset := 24 }, { name := "GCData", type := 184, offset := 8, embedded := false, tag := "", pkgPath := "", byteOffset := 32 }, { name := "Str", type := 231, offset := 9, embedded := false, tag := "", pkgPath := "", byteOffset := 40 }, { name := "PtrToThis", type := 232, offset := 10, embedded := false, tag := "", pkgPath := "", byteOffset := 44 }]) 11 48 := ⟨by kernel_rfl, by kernel_rfl⟩
instance : TS Tryz.prog 233 [(0, 1), (1, 1), (2, 1), (3, 1), (4, 1), (5, 1), (6, 1), (7, 1), (8, 1), (9, 1), (10, 1)] := ⟨by kernel_rfl⟩
instance : TC Tryz.prog 233 [(.int .u64 0), (.int .u64 0), (.int .u32 0), (.int .u8 0), (.int .u8 0), (.int .u8 0), (.int .u8 0), .nilFunc, (.pointer none), (.int .i32 0), (.int .i32 0)] [.v (.int .u64 0), .v (.int .u64 0), .v (.int .u32 0), .v (.int .u8 0), .v (.int .u8 0), .v (.int .u8 0), .v (.int .u8 0), .v .nilFunc, .v (.pointer none), .v (.int .i32 0), .v (.int .i32 0)] := ⟨⟨.agg #[(.int .u64 0), (.int .u64 0), (.int .u32 0), (.int .u8 0), (.int .u8 0), (.int .u8 0), (.int .u8 0), .nilFunc, (.pointer none), (.int .i32 0), (.int .i32 0)], by kernel_rfl, rfl⟩, rfl, rfl⟩
instance : TI Tryz.prog 234 (Go.TypeDesc.struct #[{ name := "Size_", type := 12, offset := 0, embedded := false, tag := "", pkgPath := "", byteOffset := 0 }, { name := "PtrBytes", type := 12, offset := 1, embedded := false, tag := "", pkgPath := "", byteOffset := 8 }, { name := "Hash", type := 132, offset := 2, embedded := false, tag := "", pkgPath := "", byteOffset := 16 }, { name := "TFlag", type := 228, offset := 3, embedded := false, tag := "", pkgPath := "", byteOffset := 20 }, { name := "Align_", type := 5, offset := 4, embedded := false, tag := "", pkgPath := "", byteOffset := 21 }, { name := "FieldAlign_", type := 5, offset := 5, embedded := false, tag := "", pkgPath := "", byteOffset := 22 }, { name := "Kind_", type := 229, offset := 6, embedded := false, tag := "", pkgPath := "", byteOffset := 23 }, { name := "Equal", type := 230, offset := 7, embedded := false, tag := "", pkgPath := "", byteOffset := 24 }, { name := "GCData", type := 184, offset := 8, embedded := false, tag := "", pkgPath := "", byteOffset := 32 }, { name := "Str", type := 231, offset := 9, embedded := false, tag := "", pkgPath := "", byteOffset := 40 }, { name := "PtrToThis", type := 232, offset := 10, embedded := false, tag := "", pkgPath := "", byteOffset := 44 }]) 11 48 := ⟨by kernel_rfl, by kernel_rfl⟩
instance : TS Tryz.prog 234 [(0, 1), (1, 1), (2, 1), (3, 1), (4, 1), (5, 1), (6, 1), (7, 1), (8, 1), (9, 1), (10, 1)] := ⟨by kernel_rfl⟩
instance : TC Tryz.prog 234 [(.int .u64 0), (.int .u64 0), (.int .u32 0), (.int .u8 0), (.int .u8 0), (.int .u8 0), (.int .u8 0), .nilFunc, (.pointer none), (.int .i32 0), (.int .i32 0)] [.v (.int .u64 0), .v (.int .u64 0), .v (.int .u32 0), .v (.int .u8 0), .v (.int .u8 0), .v (.int .u8 0), .v (.int .u8 0), .v .nilFunc, .v (.pointer none), .v (.int .i32 0), .v (.int .i32 0)] := ⟨⟨.agg #[(.int .u64 0), (.int .u64 0), (.int .u32 0), (.int .u8 0), (.int .u8 0), (.int .u8 0), (.int .u8 0), .nilFunc, (.pointer none), (.int .i32 0), (.int .i32 0)], by kernel_rfl, rfl⟩, rfl, rfl⟩
instance : FI Tryz.prog 2 := FI.of Tryz.func2 (by kernel_rfl) (by kernel_rfl)
instance : FI Tryz.prog 3 := FI.of Tryz.func3 (by kernel_rfl) (by kernel_rfl)
instance : FI Tryz.prog 4 := FI.of Tryz.func4 (by kernel_rfl) (by kernel_rfl)
instance : FI Tryz.prog 5 := FI.of Tryz.func5 (by kernel_rfl) (by kernel_rfl)
instance : FI Tryz.prog 6 := FI.of Tryz.func6 (by kernel_rfl) (by kernel_rfl)
instance : FI Tryz.prog 7 := FI.of Tryz.func7 (by kernel_rfl) (by kernel_rfl)
instance : FI Tryz.prog 8 := FI.of Tryz.func8 (by kernel_rfl) (by kernel_rfl)
instance : FI Tryz.prog 9 := FI.of Tryz.func9 (by kernel_rfl) (by kernel_rfl)
instance : FI Tryz.prog 10 := FI.of Tryz.func10 (by kernel_rfl) (by kernel_rfl)
instance : FI Tryz.prog 11 := FI.of Tryz.func11 (by kernel_rfl) (by kernel_rfl)
instance : FI Tryz.prog 12 := FI.of Tryz.func12 (by kernel_rfl) (by kernel_rfl)
instance : FI Tryz.prog 13 := FI.of Tryz.func13 (by kernel_rfl) (by kernel_rfl)
instance : FI Tryz.prog 14 := FI.of Tryz.func14 (by kernel_rfl) (by kernel_rfl)
instance : FI Tryz.prog 15 := FI.of Tryz.func15 (by kernel_rfl) (by kernel_rfl)
instance : FI Tryz.prog 16 := FI.of Tryz.func16 (by kernel_rfl) (by kernel_rfl)
instance : FI Tryz.prog 17 := FI.of Tryz.func17 (by kernel_rfl) (by kernel_rfl)
instance : FI Tryz.prog 18 := FI.of Tryz.func18 (by kernel_rfl) (by kernel_rfl)
instance : FI Tryz.prog 19 := FI.of Tryz.func19 (by kernel_rfl) (by kernel_rfl)
instance : FI Tryz.prog 20 := FI.of Tryz.func20 (by kernel_rfl) (by kernel_rfl)
instance : FI Tryz.prog 21 := FI.of Tryz.func21 (by kernel_rfl) (by kernel_rfl)
instance : FI Tryz.prog 22 := FI.of Tryz.func22 (by kernel_rfl) (by kernel_rfl)
instance : FI Tryz.prog 23 := FI.of Tryz.func23 (by kernel_rfl) (by kernel_rfl)
instance : FI Tryz.prog 24 := FI.of Tryz.func24 (by kernel_rfl) (by kernel_rfl)
instance : FI Tryz.prog 25 := FI.of Tryz.func25 (by kernel_rfl) (by kernel_rfl)
instance : FI Tryz.prog 26 := FI.of Tryz.func26 (by kernel_rfl) (by kernel_rfl)
instance : FI Tryz.prog 27 := FI.of Tryz.func27 (by kernel_rfl) (by kernel_rfl)
instance : FI Tryz.prog 28 := FI.of Tryz.func28 (by kernel_rfl) (by kernel_rfl)
instance : FI Tryz.prog 29 := FI.of Tryz.func29 (by kernel_rfl) (by kernel_rfl)
instance : FI Tryz.prog 30 := FI.of Tryz.func30 (by kernel_rfl) (by kernel_rfl)
instance : FI Tryz.prog 31 := FI.of Tryz.func31 (by kernel_rfl) (by kernel_rfl)
instance : FI Tryz.prog 32 := FI.of Tryz.func32 (by kernel_rfl) (by kernel_rfl)
instance : FI Tryz.prog 33 := FI.of Tryz.func33 (by kernel_rfl) (by kernel_rfl)
instance : FI Tryz.prog 34 := FI.of Tryz.func34 (by kernel_rfl) (by kernel_rfl)
instance : FI Tryz.prog 35 := FI.of Tryz.func35 (by kernel_rfl) (by kernel_rfl)
instance : FI Tryz.prog 36 := FI.of Tryz.func36 (by kernel_rfl) (by kernel_rfl)
instance : FI Tryz.prog 37 := FI.of Tryz.func37 (by kernel_rfl) (by kernel_rfl)
instance : FI Tryz.prog 38 := FI.of Tryz.func38 (by kernel_rfl) (by kernel_rfl)
instance : FI Tryz.prog 39 := FI.of Tryz.func39 (by kernel_rfl) (by kernel_rfl)
instance : FI Tryz.prog 40 := FI.of Tryz.func40 (by kernel_rfl) (by kernel_rfl)
instance : FI Tryz.prog 41 := FI.of Tryz.func41 (by kernel_rfl) (by kernel_rfl)
instance : FI Tryz.prog 42 := FI.of Tryz.func42 (by kernel_rfl) (by kernel_rfl)
instance : FI Tryz.prog 43 := FI.of Tryz.func43 (by kernel_rfl) (by kernel_rfl)
instance : FI Tryz.prog 44 := FI.of Tryz.func44 (by kernel_rfl) (by kernel_rfl)
instance : FI Tryz.prog 45 := FI.of Tryz.func45 (by kernel_rfl) (by kernel_rfl)
instance : FI Tryz.prog 46 := FI.of Tryz.func46 (by kernel_rfl) (by kernel_rfl)
instance : FI Tryz.prog 47 := FI.of Tryz.func47 (by kernel_rfl) (by kernel_rfl)
instance : FI Tryz.prog 48 := FI.of Tryz.func48 (by kernel_rfl) (by kernel_rfl)
instance : FI Tryz.prog 49 := FI.of Tryz.func49 (by kernel_rfl) (by kernel_rfl)
instance : FI Tryz.prog 50 := FI.of Tryz.func50 (by kernel_rfl) (by kernel_rfl)
instance : FI Tryz.prog 51 := FI.of Tryz.func51 (by kernel_rfl) (by kernel_rfl)
instance : FI Tryz.prog 52 := FI.of Tryz.func52 (by kernel_rfl) (by kernel_rfl)
instance : FI Tryz.prog 53 := FI.of Tryz.func53 (by kernel_rfl) (by kernel_rfl)
instance : FI Tryz.prog 54 := FI.of Tryz.func54 (by kernel_rfl) (by kernel_rfl)
instance : FI Tryz.prog 55 := FI.of Tryz.func55 (by kernel_rfl) (by kernel_rfl)
instance : FI Tryz.prog 56 := FI.of Tryz.func56 (by kernel_rfl) (by kernel_rfl)
instance : FI Tryz.prog 57 := FI.of Tryz.func57 (by kernel_rfl) (by kernel_rfl)
instance : FI Tryz.prog 58 := FI.of Tryz.func58 (by kernel_rfl) (by kernel_rfl)
instance : FI Tryz.prog 59 := FI.of Tryz.func59 (by kernel_rfl) (by kernel_rfl)
instance : FI Tryz.prog 60 := FI.of Tryz.func60 (by kernel_rfl) (by kernel_rfl)
instance : FI Tryz.prog 61 := FI.of Tryz.func61 (by kernel_rfl) (by kernel_rfl)
instance : FI Tryz.prog 62 := FI.of Tryz.func62 (by kernel_rfl) (by kernel_rfl)
instance : FI Tryz.prog 63 := FI.of Tryz.func63 (by kernel_rfl) (by kernel_rfl)
instance : FI Tryz.prog 64 := FI.of Tryz.func64 (by kernel_rfl) (by kernel_rfl)
instance : FI Tryz.prog 65 := FI.of Tryz.func65 (by kernel_rfl) (by kernel_rfl)
instance : FI Tryz.prog 66 := FI.of Tryz.func66 (by kernel_rfl) (by kernel_rfl)
instance : FI Tryz.prog 67 := FI.of Tryz.func67 (by kernel_rfl) (by kernel_rfl)
instance : FI Tryz.prog 68 := FI.of Tryz.func68 (by kernel_rfl) (by kernel_rfl)
instance : FI Tryz.prog 69 := FI.of Tryz.func69 (by kernel_rfl) (by kernel_rfl)
instance : FI Tryz.prog 70 := FI.of Tryz.func70 (by kernel_rfl) (by kernel_rfl)
instance : FI Tryz.prog 71 := FI.of Tryz.func71 (by kernel_rfl) (by kernel_rfl)
instance : FI Tryz.prog 72 := FI.of Tryz.func72 (by kernel_rfl) (by kernel_rfl)
instance : FI Tryz.prog 73 := FI.of Tryz.func73 (by kernel_rfl) (by kernel_rfl)
instance : FI Tryz.prog 74 := FI.of Tryz.func74 (by kernel_rfl) (by kernel_rfl)
instance : FI Tryz.prog 75 := FI.of Tryz.func75 (by kernel_rfl) (by kernel_rfl)
instance : FI Tryz.prog 76 := FI.of Tryz.func76 (by kernel_rfl) (by kernel_rfl)
instance : FI Tryz.prog 77 := FI.of Tryz.func77 (by kernel_rfl) (by kernel_rfl)
instance : FI Tryz.prog 78 := FI.of Tryz.func78 (by kernel_rfl) (by kernel_rfl)
instance : FI Tryz.prog 79 := FI.of Tryz.func79 (by kernel_rfl) (by kernel_rfl)
instance : FI Tryz.prog 80 := FI.of Tryz.func80 (by kernel_rfl) (by kernel_rfl)
instance : FI Tryz.prog 81 := FI.of Tryz.func81 (by kernel_rfl) (by kernel_rfl)
instance : FI Tryz.prog 82 := FI.of Tryz.func82 (by kernel_rfl) (by kernel_rfl)
instance : FI Tryz.prog 83 := FI.of Tryz.func83 (by kernel_rfl) (by kernel_rfl)
instance : FI Tryz.prog 84 := FI.of Tryz.func84 (by kernel_rfl) (by kernel_rfl)
instance : FI Tryz.prog 85 := FI.of Tryz.func85 (by kernel_rfl) (by kernel_rfl)
instance : FI Tryz.prog 86 := FI.of Tryz.func86 (by kernel_rfl) (by kernel_rfl)
instance : FI Tryz.prog 87 := FI.of Tryz.func87 (by kernel_rfl) (by kernel_rfl)
instance : FI Tryz.prog 88 := FI.of Tryz.func88 (by kernel_rfl) (by kernel_rfl)
instance : FI Tryz.prog 89 := FI.of Tryz.func89 (by kernel_rfl) (by kernel_rfl)
instance : FI Tryz.prog 90 := FI.of Tryz.func90 (by kernel_rfl) (by kernel_rfl)
instance : FI Tryz.prog 91 := FI.of Tryz.func91 (by kernel_rfl) (by kernel_rfl)
instance : FI Tryz.prog 92 := FI.of Tryz.func92 (by kernel_rfl) (by kernel_rfl)
instance : FI Tryz.prog 93 := FI.of Tryz.func93 (by kernel_rfl) (by kernel_rfl)
instance : FI Tryz.prog 94 := FI.of Tryz.func94 (by kernel_rfl) (by kernel_rfl)
instance : FI Tryz.prog 95 := FI.of Tryz.func95 (by kernel_rfl) (by kernel_rfl)
instance : FI Tryz.prog 96 := FI.of Tryz.func96 (by kernel_rfl) (by kernel_rfl)
instance : FI Tryz.prog 97 := FI.of Tryz.func97 (by kernel_rfl) (by kernel_rfl)
instance : FI Tryz.prog 98 := FI.of Tryz.func98 (by kernel_rfl) (by kernel_rfl)
instance : FI Tryz.prog 99 := FI.of Tryz.func99 (by kernel_rfl) (by kernel_rfl)
instance : FI Tryz.prog 100 := FI.of Tryz.func100 (by kernel_rfl) (by kernel_rfl)
instance : FI Tryz.prog 101 := FI.of Tryz.func101 (by kernel_rfl) (by kernel_rfl)
instance : FI Tryz.prog 102 := FI.of Tryz.func102 (by kernel_rfl) (by kernel_rfl)
instance : FI Tryz.prog 103 := FI.of Tryz.func103 (by kernel_rfl) (by kernel_rfl)
instance : FI Tryz.prog 104 := FI.of Tryz.func104 (by kernel_rfl) (by kernel_rfl)
instance : FI Tryz.prog 105 := FI.of Tryz.func105 (by kernel_rfl) (by kernel_rfl)
instance : FI Tryz.prog 106 := FI.of Tryz.func106 (by kernel_rfl) (by kernel_rfl)
instance : FI Tryz.prog 107 := FI.of Tryz.func107 (by kernel_rfl) (by kernel_rfl)
instance : FI Tryz.prog 108 := FI.of Tryz.func108 (by kernel_rfl) (by kernel_rfl)
instance : FI Tryz.prog 109 := FI.of Tryz.func109 (by kernel_rfl) (by kernel_rfl)
instance : FI Tryz.prog 110 := FI.of Tryz.func110 (by kernel_rfl) (by kernel_rfl)
instance : FI Tryz.prog 111 := FI.of Tryz.func111 (by kernel_rfl) (by kernel_rfl)
instance : FI Tryz.prog 112 := FI.of Tryz.func112 (by kernel_rfl) (by kernel_rfl)
instance : FI Tryz.prog 113 := FI.of Tryz.func113 (by kernel_rfl) (by kernel_rfl)
instance : FI Tryz.prog 114 := FI.of Tryz.func114 (by kernel_rfl) (by kernel_rfl)
instance : FI Tryz.prog 115 := FI.of Tryz.func115 (by kernel_rfl) (by kernel_rfl)
instance : FI Tryz.prog 116 := FI.of Tryz.func116 (by kernel_rfl) (by kernel_rfl)
instance : FI Tryz.prog 117 := FI.of Tryz.func117 (by kernel_rfl) (by kernel_rfl)
instance : FI Tryz.prog 118 := FI.of Tryz.func118 (by kernel_rfl) (by kernel_rfl)
instance : FI Tryz.prog 119 := FI.of Tryz.func119 (by kernel_rfl) (by kernel_rfl)
instance : FI Tryz.prog 120 := FI.of Tryz.func120 (by kernel_rfl) (by kernel_rfl)
instance : FI Tryz.prog 121 := FI.of Tryz.func121 (by kernel_rfl) (by kernel_rfl)
instance : FI Tryz.prog 122 := FI.of Tryz.func122 (by kernel_rfl) (by kernel_rfl)
instance : FI Tryz.prog 123 := FI.of Tryz.func123 (by kernel_rfl) (by kernel_rfl)
instance : FI Tryz.prog 124 := FI.of Tryz.func124 (by kernel_rfl) (by kernel_rfl)
instance : FI Tryz.prog 125 := FI.of Tryz.func125 (by kernel_rfl) (by kernel_rfl)
instance : FI Tryz.prog 126 := FI.of Tryz.func126 (by kernel_rfl) (by kernel_rfl)
instance : FI Tryz.prog 127 := FI.of Tryz.func127 (by kernel_rfl) (by kernel_rfl)
instance : FI Tryz.prog 128 := FI.of Tryz.func128 (by kernel_rfl) (by kernel_rfl)
instance : FI Tryz.prog 129 := FI.of Tryz.func129 (by kernel_rfl) (by kernel_rfl)
instance : FI Tryz.prog 130 := FI.of Tryz.func130 (by kernel_rfl) (by kernel_rfl)
instance : FI Tryz.prog 131 := FI.of Tryz.func131 (by kernel_rfl) (by kernel_rfl)
instance : FI Tryz.prog 132 := FI.of Tryz.func132 (by kernel_rfl) (by kernel_rfl)
instance : FI Tryz.prog 133 := FI.of Tryz.func133 (by kernel_rfl) (by kernel_rfl)
instance : FI Tryz.prog 134 := FI.of Tryz.func134 (by kernel_rfl) (by kernel_rfl)
instance : FI Tryz.prog 135 := FI.of Tryz.func135 (by kernel_rfl) (by kernel_rfl)
instance : FI Tryz.prog 136 := FI.of Tryz.func136 (by kernel_rfl) (by kernel_rfl)
instance : FI Tryz.prog 137 := FI.of Tryz.func137 (by kernel_rfl) (by kernel_rfl)
instance : FI Tryz.prog 138 := FI.of Tryz.func138 (by kernel_rfl) (by kernel_rfl)
instance : FI Tryz.prog 139 := FI.of Tryz.func139 (by kernel_rfl) (by kernel_rfl)
instance : FI Tryz.prog 140 := FI.of Tryz.func140 (by kernel_rfl) (by kernel_rfl)
instance : FI Tryz.prog 141 := FI.of Tryz.func141 (by kernel_rfl) (by kernel_rfl)
instance : FI Tryz.prog 142 := FI.of Tryz.func142 (by kernel_rfl) (by kernel_rfl)
instance : FI Tryz.prog 143 := FI.of Tryz.func143 (by kernel_rfl) (by kernel_rfl)
instance : FI Tryz.prog 144 := FI.of Tryz.func144 (by kernel_rfl) (by kernel_rfl)
instance : FI Tryz.prog 145 := FI.of Tryz.func145 (by kernel_rfl) (by kernel_rfl)
instance : FI Tryz.prog 146 := FI.of Tryz.func146 (by kernel_rfl) (by kernel_rfl)
instance : FI Tryz.prog 147 := FI.of Tryz.func147 (by kernel_rfl) (by kernel_rfl)
instance : FI Tryz.prog 148 := FI.of Tryz.func148 (by kernel_rfl) (by kernel_rfl)
instance : FI Tryz.prog 149 := FI.of Tryz.func149 (by kernel_rfl) (by kernel_rfl)
instance : FI Tryz.prog 150 := FI.of Tryz.func150 (by kernel_rfl) (by kernel_rfl)
instance : FI Tryz.prog 151 := FI.of Tryz.func151 (by kernel_rfl) (by kernel_rfl)
instance : FI Tryz.prog 152 := FI.of Tryz.func152 (by kernel_rfl) (by kernel_rfl)
instance : FI Tryz.prog 153 := FI.of Tryz.func153 (by kernel_rfl) (by kernel_rfl)
instance : FI Tryz.prog 154 := FI.of Tryz.func154 (by kernel_rfl) (by kernel_rfl)
instance : FI Tryz.prog 155 := FI.of Tryz.func155 (by kernel_rfl) (by kernel_rfl)
instance : FI Tryz.prog 156 := FI.of Tryz.func156 (by kernel_rfl) (by kernel_rfl)
instance : FI Tryz.prog 157 := FI.of Tryz.func157 (by kernel_rfl) (by kernel_rfl)
instance : FI Tryz.prog 158 := FI.of Tryz.func158 (by kernel_rfl) (by kernel_rfl)
instance : FI Tryz.prog 159 := FI.of Tryz.func159 (by kernel_rfl) (by kernel_rfl)
instance : FI Tryz.prog 161 := FI.of Tryz.func161 (by kernel_rfl) (by kernel_rfl)
instance : FI Tryz.prog 162 := FI.of Tryz.func162 (by kernel_rfl) (by kernel_rfl)
instance : FI Tryz.prog 163 := FI.of Tryz.func163 (by kernel_rfl) (by kernel_rfl)
instance : FI Tryz.prog 164 := FI.of Tryz.func164 (by kernel_rfl) (by kernel_rfl)
instance : FI Tryz.prog 165 := FI.of Tryz.func165 (by kernel_rfl) (by kernel_rfl)
instance : FI Tryz.prog 166 := FI.of Tryz.func166 (by kernel_rfl) (by kernel_rfl)
instance : FI Tryz.prog 167 := FI.of Tryz.func167 (by kernel_rfl) (by kernel_rfl)
instance : FI Tryz.prog 168 := FI.of Tryz.func168 (by kernel_rfl) (by kernel_rfl)
instance : FI Tryz.prog 169 := FI.of Tryz.func169 (by kernel_rfl) (by kernel_rfl)
instance : FI Tryz.prog 170 := FI.of Tryz.func170 (by kernel_rfl) (by kernel_rfl)
instance : FI Tryz.prog 171 := FI.of Tryz.func171 (by kernel_rfl) (by kernel_rfl)
instance : FI Tryz.prog 172 := FI.of Tryz.func172 (by kernel_rfl) (by kernel_rfl)
instance : FI Tryz.prog 173 := FI.of Tryz.func173 (by kernel_rfl) (by kernel_rfl)
instance : FI Tryz.prog 174 := FI.of Tryz.func174 (by kernel_rfl) (by kernel_rfl)
instance : FI Tryz.prog 175 := FI.of Tryz.func175 (by kernel_rfl) (by kernel_rfl)
instance : FI Tryz.prog 176 := FI.of Tryz.func176 (by kernel_rfl) (by kernel_rfl)
instance : FI Tryz.prog 177 := FI.of Tryz.func177 (by kernel_rfl) (by kernel_rfl)
instance : FI Tryz.prog 178 := FI.of Tryz.func178 (by kernel_rfl) (by kernel_rfl)
instance : FI Tryz.prog 180 := FI.of Tryz.func180 (by kernel_rfl) (by kernel_rfl)
instance : FI Tryz.prog 181 := FI.of Tryz.func181 (by kernel_rfl) (by kernel_rfl)
instance : FI Tryz.prog 182 := FI.of Tryz.func182 (by kernel_rfl) (by kernel_rfl)
instance : FI Tryz.prog 183 := FI.of Tryz.func183 (by kernel_rfl) (by kernel_rfl)
instance : FI Tryz.prog 184 := FI.of Tryz.func184 (by kernel_rfl) (by kernel_rfl)
instance : FI Tryz.prog 185 := FI.of Tryz.func185 (by kernel_rfl) (by kernel_rfl)
instance : FI Tryz.prog 186 := FI.of Tryz.func186 (by kernel_rfl) (by kernel_rfl)
instance : FI Tryz.prog 187 := FI.of Tryz.func187 (by kernel_rfl) (by kernel_rfl)
instance : FI Tryz.prog 188 := FI.of Tryz.func188 (by kernel_rfl) (by kernel_rfl)
instance : FI Tryz.prog 189 := FI.of Tryz.func189 (by kernel_rfl) (by kernel_rfl)
instance : FI Tryz.prog 190 := FI.of Tryz.func190 (by kernel_rfl) (by kernel_rfl)
instance : FI Tryz.prog 191 := FI.of Tryz.func191 (by kernel_rfl) (by kernel_rfl)
instance : FI Tryz.prog 192 := FI.of Tryz.func192 (by kernel_rfl) (by kernel_rfl)
instance : FI Tryz.prog 193 := FI.of Tryz.func193 (by kernel_rfl) (by kernel_rfl)
instance : FI Tryz.prog 194 := FI.of Tryz.func194 (by kernel_rfl) (by kernel_rfl)
instance : FI Tryz.prog 195 := FI.of Tryz.func195 (by kernel_rfl) (by kernel_rfl)
instance : FI Tryz.prog 196 := FI.of Tryz.func196 (by kernel_rfl) (by kernel_rfl)
instance : FI Tryz.prog 197 := FI.of Tryz.func197 (by kernel_rfl) (by kernel_rfl)
instance : FI Tryz.prog 198 := FI.of Tryz.func198 (by kernel_rfl) (by kernel_rfl)
instance : FI Tryz.prog 199 := FI.of Tryz.func199 (by kernel_rfl) (by kernel_rfl)
instance : FI Tryz.prog 200 := FI.of Tryz.func200 (by kernel_rfl) (by kernel_rfl)
instance : FI Tryz.prog 201 := FI.of Tryz.func201 (by kernel_rfl) (by kernel_rfl)
instance : FI Tryz.prog 202 := FI.of Tryz.func202 (by kernel_rfl) (by kernel_rfl)
end Go.Proofs.YtnkkfmnpkgjabaaGreat.X

/- Lifted code: what a run computes as a partial function; loops; ways that meet; rows that grow. -/
namespace Go.Proofs.YtnkkfmnpkgjabaaGreat.X
open Go.RowKit
set_option linter.unusedVariables false
set_option linter.unusedSimpArgs false

/-! ### partial functions -/
theorem bnd {α β : Type} {o : Option α} {f : α → Option β} {r : β} (h : o.bind f = some r) : ∃ a, o = some a ∧ f a = some r := by
  cases o with
  | none => cases h
  | some a => exact ⟨a, rfl, h⟩
def ensure (p : Prop) [Decidable p] : Option Unit := if p then some () else none
theorem ens {β : Type} {p : Prop} [Decidable p] {f : Unit → Option β} {r : β} (h : (ensure p).bind f = some r) : p ∧ f () = some r := by
  unfold ensure at h
  by_cases hp : p
  · rw [if_pos hp] at h; exact ⟨hp, h⟩
  · rw [if_neg hp] at h; cases h
@[simp] theorem ensure_bind {β : Type} {p : Prop} [Decidable p] (h : p) (f : Unit → Option β) : (ensure p).bind f = f () := by
  unfold ensure; rw [if_pos h]; rfl
def idxO {α : Type} (l : List α) (i : Int) : Option α := if 0 ≤ i then l[i.toNat]? else none
theorem idxO_some {α : Type} {l : List α} {i : Int} {x : α} (h : idxO l i = some x) : 0 ≤ i ∧ l[i.toNat]? = some x := by
  unfold idxO at h
  by_cases hi : 0 ≤ i
  · rw [if_pos hi] at h; exact ⟨hi, h⟩
  · rw [if_neg hi] at h; cases h
theorem idx_b {α β : Type} {l : List α} {i : Int} {f : α → Option β} {r : β} (h : (idxO l i).bind f = some r) : ∃ x, 0 ≤ i ∧ l[i.toNat]? = some x ∧ f x = some r := by
  obtain ⟨x, h1, h2⟩ := bnd h
  exact ⟨x, (idxO_some h1).1, (idxO_some h1).2, h2⟩
@[simp] theorem idxO_nat {α : Type} (l : List α) (k : Nat) : idxO l (k : Int) = l[k]? := by unfold idxO; rw [if_pos (by omega)]; simp
def grd {α : Type} [Inhabited α] (c : Bool) (o : Option α) : Option α := match c with | true => o | false => some default
theorem grd_some {α : Type} [Inhabited α] {c : Bool} {o : Option α} {x : α} (h : grd c o = some x) (hc : c = true) : o = some x := by subst hc; exact h
theorem grd_b {α β : Type} [Inhabited α] {c : Bool} {o : Option α} {f : α → Option β} {r : β} (h : (grd c o).bind f = some r) : ∃ x, (c = true → o = some x) ∧ f x = some r := by
  obtain ⟨x, h1, h2⟩ := bnd h
  exact ⟨x, grd_some h1, h2⟩
theorem cnd_t {α : Type} {c : Bool} {x y : α} {r : α} (h : c = true) (k : cond c x y = r) : x = r := by subst h; exact k
theorem cnd_f {α : Type} {c : Bool} {x y : α} {r : α} (h : c = false) (k : cond c x y = r) : y = r := by subst h; exact k
theorem some_inj {α : Type} {a b : α} (h : some a = some b) : b = a := (Option.some.inj h).symm

/-! ### loops -/
inductive LoopN {σ τ : Type} (body : σ → Option (σ ⊕ τ)) : Nat → σ → τ → Prop
  | done {s o} (h : body s = some (.inr o)) : LoopN body 0 s o
  | step {n s s' o} (h : body s = some (.inl s')) (k : LoopN body n s' o) : LoopN body (n + 1) s o
theorem LoopN.det {σ τ : Type} {body : σ → Option (σ ⊕ τ)} {n m : Nat} {s : σ} {o o' : τ} (h : LoopN body n s o) (k : LoopN body m s o') : o = o' := by
  induction h generalizing m with
  | done h =>
    cases k with
    | done h' => rw [h] at h'; injection h' with h'; injection h'
    | step h' => rw [h] at h'; cases h'
  | step h _ ih =>
    cases k with
    | done h' => rw [h] at h'; cases h'
    | step h' k' => rw [h] at h'; injection h' with h'; injection h' with h'; subst h'; exact ih k'
open Classical in
noncomputable def loopF {σ τ : Type} (body : σ → Option (σ ⊕ τ)) (s : σ) : Option τ := if h : ∃ o n, LoopN body n s o then some (Classical.choose h) else none
theorem loopF_some {σ τ : Type} {body : σ → Option (σ ⊕ τ)} {s : σ} {o : τ} (h : loopF body s = some o) : ∃ n, LoopN body n s o := by
  unfold loopF at h
  split at h
  · rename_i h1; injection h with h; subst h; exact Classical.choose_spec h1
  · cases h
theorem loopF_of {σ τ : Type} {body : σ → Option (σ ⊕ τ)} {n : Nat} {s : σ} {o : τ} (h : LoopN body n s o) : loopF body s = some o := by
  unfold loopF
  have hex : ∃ o n, LoopN body n s o := ⟨o, n, h⟩
  rw [dif_pos hex]
  obtain ⟨m, hm⟩ := Classical.choose_spec hex
  rw [hm.det h]
theorem loopF_inr {σ τ : Type} {body : σ → Option (σ ⊕ τ)} {s : σ} {o : τ} (h : body s = some (.inr o)) : loopF body s = some o := loopF_of (.done h)
theorem loopF_inl {σ τ : Type} {body : σ → Option (σ ⊕ τ)} {s s' : σ} (h : body s = some (.inl s')) : loopF body s = loopF body s' := by
  cases h2 : loopF body s' with
  | some o => obtain ⟨n, hn⟩ := loopF_some h2; exact loopF_of (.step h hn)
  | none =>
    cases h3 : loopF body s with
    | none => rfl
    | some o =>
      obtain ⟨n, hn⟩ := loopF_some h3
      cases hn with
      | done h4 => rw [h] at h4; cases h4
      | step h4 h5 => rw [h] at h4; injection h4 with h4; injection h4 with h4; subst h4; rw [loopF_of h5] at h2; cases h2
section
variable {P : Program} {N : Nat} {x : Code} {Q : Exit → T → BS → Prop} {t : T} {bs : BS}
def lpQ {σ τ α : Type} (T' : σ → α → T) (B : σ → α → BS) (p : σ → α → Prop) (v : σ ⊕ τ) (o : τ) (Q : Exit → T → BS → Prop) : Exit → T → BS → Prop
  | .normal, t, bs => ∃ s' a', v = .inl s' ∧ p s' a' ∧ Sub t (T' s' a') ∧ Subp (B s' a') bs
  | e, t, bs => (∃ o', v = .inr o') ∧ (v = .inr o → Q e t bs)
theorem AW.loopF {σ τ α : Type} {body : σ → Option (σ ⊕ τ)} {s0 : σ} {o : τ} (hL : loopF body s0 = some o) (T' : σ → α → T) (B : σ → α → BS) (p : σ → α → Prop) (a0 : α) (h0 : p s0 a0) (ht : Sub t (T' s0 a0)) (hb : Subp (B s0 a0) bs)
    (round : ∀ s a v, p s a → body s = some v → AW P N x (lpQ T' B p v o Q) (T' s a) (B s a)) : AW P N (.loop x) Q t bs := by
  obtain ⟨n, hn⟩ := loopF_some hL
  refine AW.loop (fun s : σ × α × Nat => T' s.1 s.2.1) (fun s => B s.1 s.2.1) (fun s => p s.1 s.2.1 ∧ LoopN body s.2.2 s.1 o) (fun s => s.2.2) (s0, a0, n) ⟨h0, hn⟩ ht hb fun ⟨s, a, n⟩ ⟨hp, hl⟩ => ?_
  cases hl with
  | done hd =>
    refine AW.mono (round s a _ hp hd) fun e t bs hq => ?_
    cases e with
    | normal => obtain ⟨s', a', h1, _⟩ := hq; cases h1
    | _ => exact hq.2 rfl
  | @step n _ s1 _ hd hk =>
    refine AW.mono (round s a _ hp hd) fun e t bs hq => ?_
    cases e with
    | normal => obtain ⟨s', a', h1, h2, h3, h4⟩ := hq; cases h1; exact ⟨(s1, a', n), ⟨h2, hk⟩, Nat.lt_succ_self _, h3, h4⟩
    | _ => obtain ⟨_, h1⟩ := hq.1; cases h1
section
variable {σ τ α : Type} {T' : σ → α → T} {B : σ → α → BS} {p : σ → α → Prop} {v : σ ⊕ τ} {o : τ}
theorem lpQ.n (s' : σ) (a' : α) (h : v = .inl s') (hp : p s' a') (hs : Sub t (T' s' a')) (hb : Subp (B s' a') bs) : lpQ T' B p v o Q .normal t bs := ⟨s', a', h, hp, hs, hb⟩
theorem lpQ.e {i : Nat} (o' : τ) (h : v = .inr o') (k : o = o' → Q (.exit i) t bs) : lpQ T' B p v o Q (.exit i) t bs := ⟨⟨o', h⟩, fun h2 => k (by rw [h] at h2; injection h2 with h2; exact h2.symm)⟩
theorem lpQ.r (o' : τ) (h : v = .inr o') (k : o = o' → Q .ret t bs) : lpQ T' B p v o Q .ret t bs := ⟨⟨o', h⟩, fun h2 => k (by rw [h] at h2; injection h2 with h2; exact h2.symm)⟩
/-- Ways that meet. -/
def jnQ (T' : σ → α → T) (B : σ → α → BS) (p : σ → α → Prop) (Q : Exit → T → BS → Prop) : Exit → T → BS → Prop
  | .normal, t, bs => ∃ s a, p s a ∧ Sub t (T' s a) ∧ Subp (B s a) bs
  | e, t, bs => Q e t bs
theorem AW.join (T' : σ → α → T) (B : σ → α → BS) (p : σ → α → Prop) (hx : AW P N x (jnQ T' B p Q) t bs) (hk : ∀ s a, p s a → Q .normal (T' s a) (B s a)) : AW P N x Q t bs := fun w0 Z0 a w hg he =>
  wp_mono (hx w0 Z0 a w hg he) fun e a' w' hq => by
    obtain ⟨t', bs', h1, h2, h3⟩ := hq
    cases e with
    | normal =>
      obtain ⟨s, a2, hp, hs, hl⟩ := h1
      obtain ⟨q1, q2⟩ := h2.bs.subp hl
      have h4 := h2.sub hs
      exact ⟨_, _, hk s a2 hp, ⟨h4.defers, h4.size, fun i => (h4.tmps i).less q2, q1⟩, h3.less q2⟩
    | _ => exact ⟨t', bs', h1, h2, h3⟩
theorem jnQ.n (s : σ) (a : α) (hp : p s a) (hs : Sub t (T' s a)) (hb : Subp (B s a) bs) : jnQ T' B p Q .normal t bs := ⟨s, a, hp, hs, hb⟩
theorem jnQ.e {i : Nat} (h : Q (.exit i) t bs) : jnQ T' B p Q (.exit i) t bs := h
theorem jnQ.r (h : Q .ret t bs) : jnQ T' B p Q .ret t bs := h
end
/-- How long a row may be. -/
theorem AW.len_le {rows : List (List A)} (i : Nat) (hx : Wk (look t i) (.sl rows)) (h : rows.length ≤ 9223372036854775807 → AW P N x Q t bs) : AW P N x Q t bs := fun w0 Z0 a w hg he => by
  refine h ?_ w0 Z0 a w hg he
  have := (hg.tmps i).wk hx
  generalize a.tmps.getD i undef = u at this
  cases this with
  | sl hn hc hm => exact Nat.le_trans (by omega) (Nat.le_trans hm (by decide))
theorem AW.len_map {α : Type} {R : α → List A} {l : List α} (i : Nat) (hx : Wk (look t i) (.sl (l.map R))) (h : l.length ≤ 9223372036854775807 → AW P N x Q t bs) : AW P N x Q t bs := AW.len_le i hx fun hl => h (by simpa using hl)
end
theorem ACalls.wk {P : Program} {K : Nat} {args : List A} {bs : BS} {r : A} (h : ACalls P K args bs fun y b => Wk y r ∧ b = bs) : ACalls P K args bs fun y b => y = r ∧ b = bs :=
  fun w us hs hu hb => (h w us hs hu hb).mono fun e w' ⟨u, y, bs', h1, ⟨h2, h3⟩, h4, h5⟩ => ⟨u, r, bs', h1, ⟨rfl, h3⟩, h4.wk h2, h5⟩

/-! ### blocks in another order -/
theorem Ext.perm {w w' : World} {Z : Zones} {bs bs' : BS} (h : Ext w Z w' (zones bs)) (k : bs.Perm bs') : Ext w Z w' (zones bs') := h.less (zones_perm k)
theorem Ext.perm_l {w w' : World} {Z : Zones} {bs bs' : BS} (h : Ext w (zones bs) w' Z) (k : bs.Perm bs') : Ext w (zones bs') w' Z := by
  have hz := zones_perm k
  have hz2 := zones_perm k.symm
  have hst : ∀ {g i}, Stable (zones bs') g i → Stable (zones bs) g i := fun hs z hz1 e => by
    obtain ⟨z', h1, h2, h3⟩ := hz2 z hz1
    exact Nat.lt_of_lt_of_le (hs z' h1 (h2.trans e)) h3
  refine ⟨h.os, h.tape, h.output, h.size, fun i hi hn => h.block i hi fun z hz1 => ?_, fun g i hg hs => h.cell g i hg (hst hs), fun z' hz' => ?_⟩
  · obtain ⟨z', h1, h2, _⟩ := hz2 z hz1
    rw [← h2]; exact hn z' h1
  · rcases h.zone z' hz' with ⟨z, h1, h2, h3⟩ | h1
    · obtain ⟨z2, h4, h5, h6⟩ := hz2 z h1
      exact .inl ⟨z2, h4, h5.trans h2, Nat.le_trans h6 h3⟩
    · exact .inr h1
/-- An operation under blocks in another order. -/
theorem OpW.perm {P : Program} {o : Oper} {t : T} {bs bs1 : BS} {R R' : A → BS → Prop} (h : OpW P o t bs1 R) (k : bs.Perm bs1) (hr : ∀ y b, R y b → ∃ b', R' y b' ∧ b.Perm b') : OpW P o t bs R' := by
  intro a w hx hb K Q hK
  refine h a w (fun x hx1 => (hx x hx1).less (zones_perm k)) (hb.perm k) K Q fun u w' y b hR hu hb' he => ?_
  obtain ⟨b', h1, h2⟩ := hr y b hR
  exact hK u w' y b' h1 (hu.less (zones_perm h2)) (hb'.perm h2) ((he.perm h2).perm_l k.symm)
theorem ACalls.perm {P : Program} {K : Nat} {args : List A} {bs bs1 : BS} {R R' : A → BS → Prop} (h : ACalls P K args bs1 R) (k : bs.Perm bs1) (hr : ∀ y b, R y b → ∃ b', R' y b' ∧ b.Perm b') : ACalls P K args bs R' := by
  intro w us hs hu hb
  refine (h w us hs (fun i x hx => (hu i x hx).less (zones_perm k)) (hb.perm k)).mono fun e w' ⟨u, y, b, h1, hR, h2, h3, h4⟩ => ?_
  obtain ⟨b', h5, h6⟩ := hr y b hR
  exact ⟨u, y, b', h1, h5, h2.less (zones_perm h6), h3.perm h6, (h4.perm h6).perm_l k.symm⟩

/-! ### rows that grow from nothing -/
/-- The layer of a row that grows, among all blocks; the blocks when it has grown. -/
inductive GU : BS → Option (Nat × Nat) → Nat → Nat → TypeId → Nat → (Option (Nat × Nat) → BS) → Prop where
  | here {o n sz e n' r} : GU (gB o n sz e r) o n sz e n' (fun o' => gB o' n' sz e r)
  | cons {x r o n sz e n' B} (h : GU r o n sz e n' B) : GU (x :: r) o n sz e n' (fun o' => x :: B o')
  | gB {o2 n2 s2 e2 r o n sz e n' B} (h : GU r o n sz e n' B) : GU (gB o2 n2 s2 e2 r) o n sz e n' (fun o' => gB o2 n2 s2 e2 (B o'))
theorem GU.new {r : BS} {sz : Nat} {e : TypeId} {n' : Nat} : GU r none 0 sz e n' (fun o' => X.gB o' n' sz e r) := .here (o := .none)
theorem GU.upd {bs : BS} {g c n sz : Nat} {e : TypeId} {n' : Nat} {B : Option (Nat × Nat) → BS} (h : GU bs (some (g, c)) n sz e n' B) : ∀ g' c', BUpd bs g (.tip n c sz e) g' (.tip n' c' sz e) (B (some (g', c'))) := by
  intro g' c'
  generalize ho : some (g, c) = o at h
  induction h with
  | here => subst ho; exact .head
  | cons _ ih => exact .tail (ih ho)
  | gB _ ih => exact BUpd.gB (ih ho)
theorem GU.none {bs : BS} {n sz : Nat} {e : TypeId} {n' : Nat} {B : Option (Nat × Nat) → BS} (h : GU bs .none n sz e n' B) : B .none = bs ∧ ∀ g c, (B (some (g, c))).Perm ((g, .tip n' c sz e) :: bs) := by
  generalize ho : (Option.none : Option (Nat × Nat)) = o at h
  induction h with
  | here => subst ho; exact ⟨rfl, fun g c => .refl _⟩
  | cons _ ih =>
    obtain ⟨h1, h2⟩ := ih ho
    subst ho
    exact ⟨congrArg _ h1, fun g c => ((h2 g c).cons _).trans (.swap _ _ _)⟩
  | @gB o2 n2 s2 e2 r o n sz e n' B _ ih =>
    obtain ⟨h1, h2⟩ := ih ho
    subst ho
    cases o2 with
    | none => exact ⟨h1, h2⟩
    | some y => exact ⟨congrArg _ h1, fun g c => ((h2 g c).cons _).trans (.swap _ _ _)⟩
theorem GU.keeps {bs : BS} {o : Option (Nat × Nat)} {n n' sz : Nat} {e : TypeId} {B : Option (Nat × Nat) → BS} (h : GU bs o n sz e n' B) (q : Option (Nat × Nat)) : ∀ g cs, (g, Blk.cells cs) ∈ bs → (g, Blk.cells cs) ∈ B q := by
  induction h with
  | @here o n sz e n' r =>
    intro g cs hm
    have h2 : (g, Blk.cells cs) ∈ r := by
      cases o with
      | none => exact hm
      | some y =>
        rcases List.mem_cons.1 hm with e | hm
        · cases e
        · exact hm
    exact mem_gB h2
  | cons _ ih =>
    intro g cs hm
    rcases List.mem_cons.1 hm with e | hm
    · exact e ▸ List.mem_cons_self
    · exact List.mem_cons_of_mem _ (ih g cs hm)
  | @gB o2 n2 s2 e2 r o n sz e n' B _ ih =>
    intro g cs hm
    cases o2 with
    | none => exact ih g cs hm
    | some y =>
      rcases List.mem_cons.1 hm with e | hm
      · cases e
      · exact List.mem_cons_of_mem _ (ih g cs hm)
theorem GU.same {bs : BS} {o : Option (Nat × Nat)} {n n' sz : Nat} {e : TypeId} {B : Option (Nat × Nat) → BS} (h : GU bs o n sz e n' B) (this : n' = n) : B o = bs := by
  induction h with
  | here => subst this; rfl
  | cons _ ih => exact congrArg _ (ih this)
  | gB _ ih => exact congrArg _ (ih this)
end Go.Proofs.YtnkkfmnpkgjabaaGreat.X

/- Lifted code: rows that grow, the steps. -/
namespace Go.Proofs.YtnkkfmnpkgjabaaGreat.X
open Go.RowKit
set_option linter.unusedVariables false
set_option linter.unusedSimpArgs false
section
variable {P : Program} {N : Nat} {ops : Array Oper} {Q : Exit → T → BS → Prop} {o : Oper} {rest : List Oper} {t : T} {bs : BS} {y : A} {cl : List Clm} {n m d : Nat} {idx : Idx}
theorem OpW.grow {e ty : TypeId} {x z : Operand} {s1 b1 s2 b2 : Nat} {d2 : TypeDesc} {zs : List Value} {cs : List A} {rows rows2 : List (List A)} {q : Option (Nat × Nat)} {B : Option (Nat × Nat) → BS} [h1 : TI P ty (.slice e) s1 b1] [h2 : TI P e d2 s2 b2] [hz : TC P e zs cs] (ho : o.op = .call { callee := .builtin .append, args := #[x, z], argTypes := #[ty, ty] })
    (hx : Wk (evA t x) (.gr q rows)) (hy : Wk (evA t z) (.sl rows2)) (hu : GU bs q rows.length s2 e (rows ++ rows2).length B) (hzl : cs.length = s2) (hpos : 0 < s2) (hb2 : 0 < b2) (hs : ∀ r ∈ rows ++ rows2, r.length = s2) (hbd : (rows.length + rows2.length) * b2 ≤ 140737488355328) :
    OpW P o t bs fun y bs' => ∃ q', y = .gr q' (rows ++ rows2) ∧ bs' = B q' := by
  intro a w hx2 hb K Q hK
  have hr := (append_ops ho hx2).1.wk hx
  generalize a.eval x = ux at hr
  cases hr with
  | gr0 =>
    obtain ⟨u1, u2⟩ := hu.none
    have hle : RLe (evA t x) .nil := fun w Z u h => by
      have h := h.wk hx
      cases h
      exact .nil
    by_cases hr : rows2 = []
    · subst hr
      exact OpQ.app_zeroR (h1 := h1) (h2 := h2) ho hle .nil hy a w hx2 hb K Q fun u w' hu hb he => hK u w' _ bs ⟨none, rfl, u1.symm⟩ (by cases hu; exact .gr0) hb he
    · have hp : 0 < rows2.length := List.length_pos_iff.2 hr
      refine OpW.perm (R := fun y bs' => ∃ g c, y = .gr (some (g, c)) ([] ++ rows2) ∧ bs' = (g, .tip ([] ++ rows2).length c s2 e) :: bs) (R' := fun y bs' => ∃ q', y = .gr q' ([] ++ rows2) ∧ bs' = B q') ?_ (.refl _) ?_ a w hx2 hb K Q hK
      · intro a w hx2 hb K Q hK
        exact OpW.app_newR (h1 := h1) (h2 := h2) (hz := hz) ho hle .nil hy hzl hpos hb2 hs hp hbd a w hx2 hb K Q fun u w' y b ⟨g, c, e1, e2⟩ hu => hK u w' _ b ⟨g, c, rfl, e2⟩ (.gr (e1 ▸ hu))
      · intro y b ⟨g, c, e1, e2⟩
        subst e1; subst e2
        exact ⟨_, ⟨some (g, c), rfl, rfl⟩, (u2 g c).symm⟩
  | @gr _ g c _ hr =>
    have hle : RLe (evA t x) (.tip g c rows) := fun w Z u h => by
      have h := h.wk hx
      cases h with
      | gr h => exact h
    by_cases hr : rows2 = []
    · subst hr
      have hB := hu.same (by simp)
      exact OpQ.app_zeroR (h1 := h1) (h2 := h2) ho hle (.tip _ _ _) hy a w hx2 hb K Q fun u w' hu hb he => hK u w' (.gr (some (g, c)) (rows ++ [])) bs ⟨some (g, c), rfl, hB.symm⟩ (by rw [List.append_nil]; exact .gr hu) hb he
    · have hp : 0 < rows2.length := List.length_pos_iff.2 hr
      exact OpW.app_tipR (h1 := h1) (h2 := h2) (hz := hz) ho hle hy hu.upd rfl hzl hpos hb2 hs hp hbd a w hx2 hb K Q fun u w' y bs' ⟨g', c', e1, e2⟩ hu => hK u w' _ bs' ⟨some (g', c'), rfl, e2⟩ (.gr (e1 ▸ hu))
/-- A row that grows; it may be nothing. -/
theorem AL.grow {α : Type} {R : α → List A} {l l2 rs : List α} {e ty : TypeId} {x z : Operand} {s1 b1 s2 b2 : Nat} {d2 : TypeDesc} {zs : List Value} {cs : List A} {q : Option (Nat × Nat)} {B : Option (Nat × Nat) → BS}
    (hu : GU bs q l.length s2 e rs.length B) (hrs : l ++ l2 = rs) (hbd : (l.length + l2.length) * b2 ≤ 140737488355328) (hR : ∀ x, (R x).length = s2)
    (ho : o.op = .call { callee := .builtin .append, args := #[x, z], argTypes := #[ty, ty] } := by rfl) (h1 : TI P ty (.slice e) s1 b1 := by infer_instance) (h2 : TI P e d2 s2 b2 := by infer_instance) (hz : TC P e zs cs := by infer_instance)
    (hx : Wk (evA t x) (.gr q (l.map R)) := by exact (by first | exact Wk.refl _ | exact Wk.nil | exact Wk.clip _ | exact Wk.tip _ _ _ | exact Wk.opt _ _ (by first | assumption | rfl) | exact Wk.gr _ _ | exact Wk.nil_gr | exact Wk.trans (Wk.opt _ _ (by first | assumption | rfl)) (by first | exact Wk.gr _ _ | exact Wk.nil | exact Wk.clip _ | exact Wk.tip _ _ _) | exact Wk.aggs (by repeat (first | exact Wks.nil | refine Wks.cons (by first | exact Wk.refl _ | exact Wk.nil | exact Wk.clip _ | exact Wk.tip _ _ _ | exact Wk.gr _ _ | exact Wk.nil_gr | exact Wk.nil_ow | exact Wk.ms_ow _ _ _) ?_)) rfl | exact Wk.nil_ow | exact Wk.ms_ow _ _ _ | exact Wk.ow_ms _ _ _)) (hy : Wk (evA t z) (.sl (l2.map R)) := by exact (by first | exact Wk.refl _ | exact Wk.nil | exact Wk.clip _ | exact Wk.tip _ _ _ | exact Wk.opt _ _ (by first | assumption | rfl) | exact Wk.gr _ _ | exact Wk.nil_gr | exact Wk.trans (Wk.opt _ _ (by first | assumption | rfl)) (by first | exact Wk.gr _ _ | exact Wk.nil | exact Wk.clip _ | exact Wk.tip _ _ _) | exact Wk.aggs (by repeat (first | exact Wks.nil | refine Wks.cons (by first | exact Wk.refl _ | exact Wk.nil | exact Wk.clip _ | exact Wk.tip _ _ _ | exact Wk.gr _ _ | exact Wk.nil_gr | exact Wk.nil_ow | exact Wk.ms_ow _ _ _) ?_)) rfl | exact Wk.nil_ow | exact Wk.ms_ow _ _ _ | exact Wk.ow_ms _ _ _)) (hzl : cs.length = s2 := by rfl) (hpos : 0 < s2 := by decide) (hb2 : 0 < b2 := by decide)
    (hg : o.guard = none := by rfl) (hk : okOps o = true := by rfl) (hd : o.dst = some d := by rfl) (hN : Nat.blt d N = true := by rfl) (h : ∀ q', AL P N ops Q rest ((d, .gr q' (rs.map R)) :: t) (B q')) : AL P N ops Q (o :: rest) t bs := by
  subst hrs
  have hl : ∀ r ∈ l.map R ++ l2.map R, r.length = s2 := by
    intro r hr; rw [← List.map_append] at hr; obtain ⟨x, _, rfl⟩ := List.mem_map.1 hr; exact hR x
  refine .w (OpW.grow (h1 := h1) (h2 := h2) (hz := hz) ho hx hy (B := B) (by simpa using hu) hzl hpos hb2 hl (by simpa using hbd)) hg hk (by rw [hd]; exact hN) fun y bs' ⟨q', e1, e3⟩ => ?_
  subst e1; subst e3; rw [hd, ← List.map_append]; exact h q'
theorem ADl.grow {α : Type} {R : α → List A} {l l2 rs : List α} {e ty : TypeId} {x z : Operand} {s1 b1 s2 b2 : Nat} {d2 : TypeDesc} {zs : List Value} {cs : List A} {q : Option (Nat × Nat)} {B : Option (Nat × Nat) → BS}
    (hu : GU bs q l.length s2 e rs.length B) (hrs : l ++ l2 = rs) (hbd : (l.length + l2.length) * b2 ≤ 140737488355328) (hR : ∀ x, (R x).length = s2)
    (ho : o.op = .call { callee := .builtin .append, args := #[x, z], argTypes := #[ty, ty] } := by rfl) (h1 : TI P ty (.slice e) s1 b1 := by infer_instance) (h2 : TI P e d2 s2 b2 := by infer_instance) (hz : TC P e zs cs := by infer_instance)
    (hx : Wk (evA t x) (.gr q (l.map R)) := by exact (by first | exact Wk.refl _ | exact Wk.nil | exact Wk.clip _ | exact Wk.tip _ _ _ | exact Wk.opt _ _ (by first | assumption | rfl) | exact Wk.gr _ _ | exact Wk.nil_gr | exact Wk.trans (Wk.opt _ _ (by first | assumption | rfl)) (by first | exact Wk.gr _ _ | exact Wk.nil | exact Wk.clip _ | exact Wk.tip _ _ _) | exact Wk.aggs (by repeat (first | exact Wks.nil | refine Wks.cons (by first | exact Wk.refl _ | exact Wk.nil | exact Wk.clip _ | exact Wk.tip _ _ _ | exact Wk.gr _ _ | exact Wk.nil_gr | exact Wk.nil_ow | exact Wk.ms_ow _ _ _) ?_)) rfl | exact Wk.nil_ow | exact Wk.ms_ow _ _ _ | exact Wk.ow_ms _ _ _)) (hy : Wk (evA t z) (.sl (l2.map R)) := by exact (by first | exact Wk.refl _ | exact Wk.nil | exact Wk.clip _ | exact Wk.tip _ _ _ | exact Wk.opt _ _ (by first | assumption | rfl) | exact Wk.gr _ _ | exact Wk.nil_gr | exact Wk.trans (Wk.opt _ _ (by first | assumption | rfl)) (by first | exact Wk.gr _ _ | exact Wk.nil | exact Wk.clip _ | exact Wk.tip _ _ _) | exact Wk.aggs (by repeat (first | exact Wks.nil | refine Wks.cons (by first | exact Wk.refl _ | exact Wk.nil | exact Wk.clip _ | exact Wk.tip _ _ _ | exact Wk.gr _ _ | exact Wk.nil_gr | exact Wk.nil_ow | exact Wk.ms_ow _ _ _) ?_)) rfl | exact Wk.nil_ow | exact Wk.ms_ow _ _ _ | exact Wk.ow_ms _ _ _)) (hzl : cs.length = s2 := by rfl) (hpos : 0 < s2 := by decide) (hb2 : 0 < b2 := by decide)
    (hg : o.guard = none := by rfl) (hdst : o.dst = some d := by rfl) (hN : Nat.blt d N = true := by rfl) (hk : okOps o = true := by rfl) (hd : depsI ops idx n = true := by decide +kernel) (hld : loudI ops idx n = true := by decide +kernel) (hm : n + 1 = m := by exact (by (conv => lhs; whnf) <;> rfl))
    (h : ∀ q', ADl P N ops Q m ((n, true) :: idx) rest (⟨n, .gr q' (rs.map R), some []⟩ :: cl) ((d, .gr q' (rs.map R)) :: t) (B q')) : ADl P N ops Q n idx (o :: rest) cl t bs := by
  subst hrs
  have hl : ∀ r ∈ l.map R ++ l2.map R, r.length = s2 := by
    intro r hr; rw [← List.map_append] at hr; obtain ⟨x, _, rfl⟩ := List.mem_map.1 hr; exact hR x
  refine .w (OpW.grow (h1 := h1) (h2 := h2) (hz := hz) ho hx hy (B := B) (by simpa using hu) hzl hpos hb2 hl (by simpa using hbd)) hg (by rw [hdst]; exact hN) hk hd hld hm (.inr fun y b' ⟨q', _, e3⟩ c hc L hL hn x hx => e3 ▸ hu.keeps q' _ _ (hn x hx)) fun y bs' ⟨q', e1, e3⟩ => ?_
  subst e1; subst e3; rw [hdst, ← List.map_append]; exact h q'
theorem OpQ.part_map {α : Type} {R : α → List A} {l : List α} {ty e : TypeId} {x : Operand} {lo hi : Option Operand} {a b s1 b1 s2 b2 : Nat} {d2 : TypeDesc} [h1 : TI P ty (.slice e) s1 b1] [h2 : TI P e d2 s2 b2] (ho : o.op = .slice ty x lo hi none) (hx : Wk (evA t x) (.sl (l.map R))) (hR : ∀ x, (R x).length = s2)
    (hlo : Bnd t lo 0 a) (hhi : Bnd t hi l.length b) (hl : a ≤ b) (hh : b ≤ l.length) : OpQ P o t bs (.sl (((l.take b).drop a).map R)) := by
  have := OpQ.part_sl (P := P) (bs := bs) ho hx (fun r hr => by obtain ⟨x, _, rfl⟩ := List.mem_map.1 hr; exact hR x) hlo (by simpa using hhi) hl (by simpa using hh)
  rw [← List.map_take, ← List.map_drop] at this
  exact this
theorem OpQ.clip_map {α : Type} {R : α → List A} {l : List α} {ty e : TypeId} {x : Operand} {hi mx : Option Operand} {s1 b1 s2 b2 : Nat} {d2 : TypeDesc} [h1 : TI P ty (.slice e) s1 b1] [h2 : TI P e d2 s2 b2] (ho : o.op = .slice ty x none hi mx) (hx : Wk (evA t x) (.sl (l.map R))) (hR : ∀ x, (R x).length = s2)
    (hhi : Bnd t hi l.length l.length) (hmx : ∀ c, Bnd t mx c l.length) (hsm : mx ≠ none ∧ hi ≠ none := by exact ⟨Option.some_ne_none _, Option.some_ne_none _⟩) : OpQ P o t bs (.clip (l.map R)) :=
  OpQ.clip_all (P := P) (bs := bs) ho hx (fun r hr => by obtain ⟨x, _, rfl⟩ := List.mem_map.1 hr; exact hR x) (by simpa using hhi) hmx hsm (by simp)
theorem OpQ.app_full {α : Type} {R : α → List A} {l l2 : List α} {e ty : TypeId} {x z : Operand} {s1 b1 s2 b2 : Nat} {d2 : TypeDesc} {zs : List Value} {cs : List A} {q : A} [h1 : TI P ty (.slice e) s1 b1] [h2 : TI P e d2 s2 b2] [hz : TC P e zs cs] (ho : o.op = .call { callee := .builtin .append, args := #[x, z], argTypes := #[ty, ty] })
    (hx : evA t x = q) (hf : Full q (l.map R)) (hy : Wk (evA t z) (.sl (l2.map R))) (hR : ∀ x, (R x).length = s2) (hbd : (l.length + l2.length) * b2 ≤ 140737488355328) (hzl : cs.length = s2 := by rfl) (hpos : 0 < s2 := by decide) (hb2 : 0 < b2 := by decide) : OpQ P o t bs (.sl ((l ++ l2).map R)) := by
  rw [List.map_append]
  exact OpQ.app_new ho hx hf hy hzl hpos hb2 (fun r hr => by rw [← List.map_append] at hr; obtain ⟨x, _, rfl⟩ := List.mem_map.1 hr; exact hR x) (by simpa using hbd)
theorem OpQ.callB {K : Nat} {args : Array Operand} {tys : Array TypeId} {xs : List A} (hc : ACalls P K xs bs fun y' b => y' = y ∧ b = bs) (ho : o.op = .call { callee := .value (.func K), args, argTypes := tys } := by rfl) [hF : FI P K] (ha : Wks (args.toList.map (evA t)) xs := by (repeat (first | exact Wks.nil | refine Wks.cons (by first | exact Wk.refl _ | exact Wk.nil | exact Wk.clip _ | exact Wk.tip _ _ _ | exact Wk.opt _ _ (by first | assumption | rfl) | exact Wk.gr _ _ | exact Wk.nil_gr | exact Wk.trans (Wk.opt _ _ (by first | assumption | rfl)) (by first | exact Wk.gr _ _ | exact Wk.nil | exact Wk.clip _ | exact Wk.tip _ _ _) | exact Wk.aggs (by repeat (first | exact Wks.nil | refine Wks.cons (by first | exact Wk.refl _ | exact Wk.nil | exact Wk.clip _ | exact Wk.tip _ _ _ | exact Wk.gr _ _ | exact Wk.nil_gr | exact Wk.nil_ow | exact Wk.ms_ow _ _ _) ?_)) rfl | exact Wk.nil_ow | exact Wk.ms_ow _ _ _ | exact Wk.ow_ms _ _ _) ?_))) : OpQ P o t bs y := fun a w hx hb K Q hK =>
  OpW.call ho hc ha a w hx hb K Q fun u w' y' bs' ⟨e1, e2⟩ => by subst e1; subst e2; exact hK u w'
theorem OpQ.callvB {K : Nat} {x : Operand} {args : Array Operand} {tys : Array TypeId} {xs x1 x2 : List A} (hc : ACalls P K xs bs fun y' b => y' = y ∧ b = bs) (ho : o.op = .call { callee := .value x, args, argTypes := tys } := by rfl) [hF : FI P K] (hx : Wk (evA t x) (.fn (.func K) x1 x2) := by exact (by first | exact Wk.refl _ | exact Wk.nil | exact Wk.clip _ | exact Wk.tip _ _ _ | exact Wk.opt _ _ (by first | assumption | rfl) | exact Wk.gr _ _ | exact Wk.nil_gr | exact Wk.trans (Wk.opt _ _ (by first | assumption | rfl)) (by first | exact Wk.gr _ _ | exact Wk.nil | exact Wk.clip _ | exact Wk.tip _ _ _) | exact Wk.aggs (by repeat (first | exact Wks.nil | refine Wks.cons (by first | exact Wk.refl _ | exact Wk.nil | exact Wk.clip _ | exact Wk.tip _ _ _ | exact Wk.gr _ _ | exact Wk.nil_gr | exact Wk.nil_ow | exact Wk.ms_ow _ _ _) ?_)) rfl | exact Wk.nil_ow | exact Wk.ms_ow _ _ _ | exact Wk.ow_ms _ _ _)) (ha : Wks (x1 ++ args.toList.map (evA t) ++ x2) xs := by (repeat (first | exact Wks.nil | refine Wks.cons (by first | exact Wk.refl _ | exact Wk.nil | exact Wk.clip _ | exact Wk.tip _ _ _ | exact Wk.opt _ _ (by first | assumption | rfl) | exact Wk.gr _ _ | exact Wk.nil_gr | exact Wk.trans (Wk.opt _ _ (by first | assumption | rfl)) (by first | exact Wk.gr _ _ | exact Wk.nil | exact Wk.clip _ | exact Wk.tip _ _ _) | exact Wk.aggs (by repeat (first | exact Wks.nil | refine Wks.cons (by first | exact Wk.refl _ | exact Wk.nil | exact Wk.clip _ | exact Wk.tip _ _ _ | exact Wk.gr _ _ | exact Wk.nil_gr | exact Wk.nil_ow | exact Wk.ms_ow _ _ _) ?_)) rfl | exact Wk.nil_ow | exact Wk.ms_ow _ _ _ | exact Wk.ow_ms _ _ _) ?_))) : OpQ P o t bs y := fun a w hx2 hb K Q hK =>
  OpW.callv ho hx hc rfl ha a w hx2 hb K Q fun u w' y' bs' ⟨e1, e2⟩ => by subst e1; subst e2; exact hK u w'
/-- Ways that meet, their two new blocks in either order. -/
def jnG2 (T' : Nat → Nat → T) (B : Nat → Nat → BS) (Q : Exit → T → BS → Prop) : Exit → T → BS → Prop
  | .normal, t, bs => ∃ g g2, Sub t (T' g g2) ∧ ∃ l, bs.Perm l ∧ List.Sublist (B g g2) l
  | e, t, bs => Q e t bs
theorem jnG2.nn {T' : Nat → Nat → T} {B : Nat → Nat → BS} (g g2 : Nat) (hs : Sub t (T' g g2)) (hb : ∃ l, bs.Perm l ∧ List.Sublist (B g g2) l) : jnG2 T' B Q .normal t bs := ⟨g, g2, hs, hb⟩
theorem AW.joinG2 {x : Code} (T' : Nat → Nat → T) (B : Nat → Nat → BS) (hx : AW P N x (jnG2 T' B Q) t bs) (hk : ∀ g g2, Q .normal (T' g g2) (B g g2)) : AW P N x Q t bs := fun w0 Z0 a w hg he =>
  wp_mono (hx w0 Z0 a w hg he) fun e a' w' hq => by
    obtain ⟨t', bs', h1, h2, h3⟩ := hq
    cases e with
    | normal =>
      obtain ⟨g, g2, hs, l, hp, hl⟩ := h1
      have hz := zones_perm hp
      obtain ⟨q1, q2⟩ := (h2.bs.perm hp).less hl
      have h4 := h2.sub hs
      exact ⟨_, _, hk g g2, ⟨h4.defers, h4.size, fun i => ((h4.tmps i).less hz).less q2, q1⟩, (h3.perm hp).less q2⟩
    | _ => exact ⟨t', bs', h1, h2, h3⟩
/-- One step on; no test, no loop, no block. -/
theorem gl {G H : Prop} (s : H → G := by
    first
    | ((with_reducible show _ → AL _ _ _ _ (⟨_, _, _, _, _, some _⟩ :: _) _ _); first | exact fun h => AL.gs (h := h) | exact fun h => AL.gs0 (h := h) | exact fun h => AL.gk (h := h) | exact fun h => AL.gTf (h := h) | exact fun h => AL.gFt (h := h) | exact fun h => AL.gTt (h := h) | exact fun h => AL.gFf (h := h) | exact fun h => AL.gd (h := h))
    | ((with_reducible show _ → AL _ _ _ _ (⟨_, .store _ _ _, _, _, _, _⟩ :: _) _ _); first | exact fun h => AL.store (h := h) | exact fun h => AL.store_all (h := h) | exact fun h => AL.store_row (h := h))
    | ((with_reducible show _ → AL _ _ _ _ (⟨_, .alloc _, _, _, _, _⟩ :: _) _ _); first | exact fun h => AL.alloc (h := h))
    | ((with_reducible show _ → AL _ _ _ _ (⟨_, .box _ _, _, _, _, _⟩ :: _) _ _); first | exact fun h => AL.box (h := h))
    | ((with_reducible show _ → AL _ _ _ _ (_ :: _) _ _); first | exact fun h => AL.s (h := h) | exact fun h => AL.s0 (h := h))
    | ((with_reducible show _ → AL _ _ _ _ [] _ _); first | exact fun h => AL.nil h)) (h : H) : G := s h
theorem gc {G H : Prop} (s : H → G := by
    first
    | ((with_reducible show _ → AW _ _ (.seq _ _) _ _ _); first | exact fun h => AW.seq h)
    | ((with_reducible show _ → AW _ _ .ret _ _ _); first | exact fun h => AW.ret h)
    | ((with_reducible show _ → AW _ _ .skip _ _ _); first | exact fun h => AW.skip h)
    | ((with_reducible show _ → AW _ _ (.exit _) _ _ _); first | exact fun h => AW.exit h)
    | ((with_reducible show _ → AW _ _ (.goto _) _ _ _); first | exact fun h => AW.goto h)
    | ((with_reducible show _ → thenQ _ _ .normal _ _); first | exact fun h => thenQ.n h)
    | ((with_reducible show _ → thenQ _ _ .ret _ _); first | exact fun h => thenQ.r h)
    | ((with_reducible show _ → thenQ _ _ (.exit _) _ _); first | exact fun h => thenQ.e h)
    | ((with_reducible show _ → thenQ _ _ (.goto _) _ _); first | exact fun h => thenQ.g h)
    | ((with_reducible show _ → blockQ _ _ .normal _ _); first | exact fun h => blockQ.n h)
    | ((with_reducible show _ → blockQ _ _ .ret _ _); first | exact fun h => blockQ.r h)
    | ((with_reducible show _ → blockQ _ _ (.exit _) _ _); first | exact fun h => blockQ.e h | exact fun h => blockQ.x rfl h)
    | ((with_reducible show _ → blockQ _ _ (.goto _) _ _); first | exact fun h => blockQ.g h)
    | ((with_reducible show _ → jnQ _ _ _ _ .ret _ _); first | exact fun h => jnQ.r h)
    | ((with_reducible show _ → jnQ _ _ _ _ (.exit _) _ _); first | exact fun h => jnQ.e h)) (h : H) : G := s h
end
end Go.Proofs.YtnkkfmnpkgjabaaGreat.X

/- Calls by blocks in any order; rows of one's own that may be none yet; rows that are read for a while, or for good; arrays. -/
namespace Go.Proofs.YtnkkfmnpkgjabaaGreat.X
open Go.RowKit
set_option linter.unusedVariables false
set_option linter.unusedSimpArgs false
section
variable {P : Program} {N : Nat} {ops : Array Oper} {Q : Exit → T → BS → Prop} {o : Oper} {rest : List Oper} {t : T} {bs : BS} {y : A} {cl : List Clm} {n m d : Nat} {idx : Idx} {x z : Operand} {ty ty2 : TypeId} {sz by_ : Nat} {td : TypeDesc}

/-! ### operations with what they leave -/
theorem AL.k0 {q : A} {B : BS} (hq : OpW P o t bs fun y b => y = q ∧ b = B) (hg : Go_ N ops o t := by exact (by first | exact Go_.none rfl | exact Go_.known rfl rfl rfl (by first | exact Wk.refl _ | exact Wk.nil | exact Wk.clip _ | exact Wk.tip _ _ _ | exact Wk.opt _ _ (by first | assumption | rfl) | exact Wk.gr _ _ | exact Wk.nil_gr | exact Wk.trans (Wk.opt _ _ (by first | assumption | rfl)) (by first | exact Wk.gr _ _ | exact Wk.nil | exact Wk.clip _ | exact Wk.tip _ _ _) | exact Wk.aggs (by repeat (first | exact Wks.nil | refine Wks.cons (by first | exact Wk.refl _ | exact Wk.nil | exact Wk.clip _ | exact Wk.tip _ _ _ | exact Wk.gr _ _ | exact Wk.nil_gr | exact Wk.nil_ow | exact Wk.ms_ow _ _ _) ?_)) rfl | exact Wk.nil_ow | exact Wk.ms_ow _ _ _ | exact Wk.ow_ms _ _ _) (by first | rfl | assumption) (by decide))) (hk : okOps o = true := by rfl) (hd : o.dst = some d := by rfl) (hN : Nat.blt d N = true := by rfl) (h : AL P N ops Q rest ((d, q) :: t) B) : AL P N ops Q (o :: rest) t bs :=
  .wo hq hg hk (by rw [hd]; exact hN) fun _ _ ⟨e1, e2⟩ => by subst e1; subst e2; rw [hd]; exact h
theorem AL.k1 {α : Type} {q : α → A} {B : α → BS} (hq : OpW P o t bs fun y b => ∃ a, y = q a ∧ b = B a) (hg : Go_ N ops o t := by exact (by first | exact Go_.none rfl | exact Go_.known rfl rfl rfl (by first | exact Wk.refl _ | exact Wk.nil | exact Wk.clip _ | exact Wk.tip _ _ _ | exact Wk.opt _ _ (by first | assumption | rfl) | exact Wk.gr _ _ | exact Wk.nil_gr | exact Wk.trans (Wk.opt _ _ (by first | assumption | rfl)) (by first | exact Wk.gr _ _ | exact Wk.nil | exact Wk.clip _ | exact Wk.tip _ _ _) | exact Wk.aggs (by repeat (first | exact Wks.nil | refine Wks.cons (by first | exact Wk.refl _ | exact Wk.nil | exact Wk.clip _ | exact Wk.tip _ _ _ | exact Wk.gr _ _ | exact Wk.nil_gr | exact Wk.nil_ow | exact Wk.ms_ow _ _ _) ?_)) rfl | exact Wk.nil_ow | exact Wk.ms_ow _ _ _ | exact Wk.ow_ms _ _ _) (by first | rfl | assumption) (by decide))) (hk : okOps o = true := by rfl) (hd : o.dst = some d := by rfl) (hN : Nat.blt d N = true := by rfl) (h : ∀ a, AL P N ops Q rest ((d, q a) :: t) (B a)) : AL P N ops Q (o :: rest) t bs :=
  .wo hq hg hk (by rw [hd]; exact hN) fun _ _ ⟨a, e1, e2⟩ => by subst e1; subst e2; rw [hd]; exact h a
theorem AL.k2 {α β : Type} {q : α → β → A} {B : α → β → BS} (hq : OpW P o t bs fun y b => ∃ a a2, y = q a a2 ∧ b = B a a2) (hg : Go_ N ops o t := by exact (by first | exact Go_.none rfl | exact Go_.known rfl rfl rfl (by first | exact Wk.refl _ | exact Wk.nil | exact Wk.clip _ | exact Wk.tip _ _ _ | exact Wk.opt _ _ (by first | assumption | rfl) | exact Wk.gr _ _ | exact Wk.nil_gr | exact Wk.trans (Wk.opt _ _ (by first | assumption | rfl)) (by first | exact Wk.gr _ _ | exact Wk.nil | exact Wk.clip _ | exact Wk.tip _ _ _) | exact Wk.aggs (by repeat (first | exact Wks.nil | refine Wks.cons (by first | exact Wk.refl _ | exact Wk.nil | exact Wk.clip _ | exact Wk.tip _ _ _ | exact Wk.gr _ _ | exact Wk.nil_gr | exact Wk.nil_ow | exact Wk.ms_ow _ _ _) ?_)) rfl | exact Wk.nil_ow | exact Wk.ms_ow _ _ _ | exact Wk.ow_ms _ _ _) (by first | rfl | assumption) (by decide))) (hk : okOps o = true := by rfl) (hd : o.dst = some d := by rfl) (hN : Nat.blt d N = true := by rfl) (h : ∀ a a2, AL P N ops Q rest ((d, q a a2) :: t) (B a a2)) : AL P N ops Q (o :: rest) t bs :=
  .wo hq hg hk (by rw [hd]; exact hN) fun _ _ ⟨a, a2, e1, e2⟩ => by subst e1; subst e2; rw [hd]; exact h a a2
theorem AL.k3 {α β γ : Type} {q : α → β → γ → A} {B : α → β → γ → BS} (hq : OpW P o t bs fun y b => ∃ a a2 a3, y = q a a2 a3 ∧ b = B a a2 a3) (hg : Go_ N ops o t := by exact (by first | exact Go_.none rfl | exact Go_.known rfl rfl rfl (by first | exact Wk.refl _ | exact Wk.nil | exact Wk.clip _ | exact Wk.tip _ _ _ | exact Wk.opt _ _ (by first | assumption | rfl) | exact Wk.gr _ _ | exact Wk.nil_gr | exact Wk.trans (Wk.opt _ _ (by first | assumption | rfl)) (by first | exact Wk.gr _ _ | exact Wk.nil | exact Wk.clip _ | exact Wk.tip _ _ _) | exact Wk.aggs (by repeat (first | exact Wks.nil | refine Wks.cons (by first | exact Wk.refl _ | exact Wk.nil | exact Wk.clip _ | exact Wk.tip _ _ _ | exact Wk.gr _ _ | exact Wk.nil_gr | exact Wk.nil_ow | exact Wk.ms_ow _ _ _) ?_)) rfl | exact Wk.nil_ow | exact Wk.ms_ow _ _ _ | exact Wk.ow_ms _ _ _) (by first | rfl | assumption) (by decide))) (hk : okOps o = true := by rfl) (hd : o.dst = some d := by rfl) (hN : Nat.blt d N = true := by rfl) (h : ∀ a a2 a3, AL P N ops Q rest ((d, q a a2 a3) :: t) (B a a2 a3)) : AL P N ops Q (o :: rest) t bs :=
  .wo hq hg hk (by rw [hd]; exact hN) fun _ _ ⟨a, a2, a3, e1, e2⟩ => by subst e1; subst e2; rw [hd]; exact h a a2 a3
theorem AL.n0 {q : A} {B : BS} (hq : OpW P o t bs fun y b => y = q ∧ b = B) (hg : Go_ N ops o t := by exact (by first | exact Go_.none rfl | exact Go_.known rfl rfl rfl (by first | exact Wk.refl _ | exact Wk.nil | exact Wk.clip _ | exact Wk.tip _ _ _ | exact Wk.opt _ _ (by first | assumption | rfl) | exact Wk.gr _ _ | exact Wk.nil_gr | exact Wk.trans (Wk.opt _ _ (by first | assumption | rfl)) (by first | exact Wk.gr _ _ | exact Wk.nil | exact Wk.clip _ | exact Wk.tip _ _ _) | exact Wk.aggs (by repeat (first | exact Wks.nil | refine Wks.cons (by first | exact Wk.refl _ | exact Wk.nil | exact Wk.clip _ | exact Wk.tip _ _ _ | exact Wk.gr _ _ | exact Wk.nil_gr | exact Wk.nil_ow | exact Wk.ms_ow _ _ _) ?_)) rfl | exact Wk.nil_ow | exact Wk.ms_ow _ _ _ | exact Wk.ow_ms _ _ _) (by first | rfl | assumption) (by decide))) (hk : okOps o = true := by rfl) (hd : o.dst = none := by rfl) (h : AL P N ops Q rest t B) : AL P N ops Q (o :: rest) t bs :=
  .wo hq hg hk (by rw [hd]; rfl) fun _ _ ⟨e1, e2⟩ => by subst e1; subst e2; rw [hd]; exact h
theorem ADl.k0 {q : A} {B : BS} (hq : OpW P o t bs fun y b => y = q ∧ b = B) (hg : Opn N ops o t := by exact (by first | exact Opn.none rfl | exact Opn.known rfl rfl rfl (by first | exact Wk.refl _ | exact Wk.nil | exact Wk.clip _ | exact Wk.tip _ _ _ | exact Wk.opt _ _ (by first | assumption | rfl) | exact Wk.gr _ _ | exact Wk.nil_gr | exact Wk.trans (Wk.opt _ _ (by first | assumption | rfl)) (by first | exact Wk.gr _ _ | exact Wk.nil | exact Wk.clip _ | exact Wk.tip _ _ _) | exact Wk.aggs (by repeat (first | exact Wks.nil | refine Wks.cons (by first | exact Wk.refl _ | exact Wk.nil | exact Wk.clip _ | exact Wk.tip _ _ _ | exact Wk.gr _ _ | exact Wk.nil_gr | exact Wk.nil_ow | exact Wk.ms_ow _ _ _) ?_)) rfl | exact Wk.nil_ow | exact Wk.ms_ow _ _ _ | exact Wk.ow_ms _ _ _) (by first | rfl | assumption) (by decide))) (hdst : o.dst = some d := by rfl) (hN : Nat.blt d N = true := by rfl) (hk : okOps o = true := by rfl) (hd : depsI ops idx n = true := by decide +kernel) (hld : loudI ops idx n = true := by decide +kernel) (hm : n + 1 = m := by exact (by (conv => lhs; whnf) <;> rfl)) (hst : needsC cl B := by exact (by repeat (first | exact trivial | exact List.mem_cons_self | assumption | refine ⟨?_, ?_⟩ | refine List.mem_cons_of_mem _ ?_ | refine mem_gB ?_ | refine mem_gO ?_)))
    (h : ADl P N ops Q m ((n, true) :: idx) rest (⟨n, q, some []⟩ :: cl) ((d, q) :: t) B) : ADl P N ops Q n idx (o :: rest) cl t bs :=
  .wo hq hg (by rw [hdst]; exact hN) hk hd hld hm (.inr fun _ _ ⟨_, e2⟩ c hc L hL _ => e2 ▸ hst.all c hc L hL) fun _ _ ⟨e1, e2⟩ => by subst e1; subst e2; rw [hdst]; exact h
theorem ADl.k1 {α : Type} {q : α → A} {B : α → BS} (hq : OpW P o t bs fun y b => ∃ a, y = q a ∧ b = B a) (hg : Opn N ops o t := by exact (by first | exact Opn.none rfl | exact Opn.known rfl rfl rfl (by first | exact Wk.refl _ | exact Wk.nil | exact Wk.clip _ | exact Wk.tip _ _ _ | exact Wk.opt _ _ (by first | assumption | rfl) | exact Wk.gr _ _ | exact Wk.nil_gr | exact Wk.trans (Wk.opt _ _ (by first | assumption | rfl)) (by first | exact Wk.gr _ _ | exact Wk.nil | exact Wk.clip _ | exact Wk.tip _ _ _) | exact Wk.aggs (by repeat (first | exact Wks.nil | refine Wks.cons (by first | exact Wk.refl _ | exact Wk.nil | exact Wk.clip _ | exact Wk.tip _ _ _ | exact Wk.gr _ _ | exact Wk.nil_gr | exact Wk.nil_ow | exact Wk.ms_ow _ _ _) ?_)) rfl | exact Wk.nil_ow | exact Wk.ms_ow _ _ _ | exact Wk.ow_ms _ _ _) (by first | rfl | assumption) (by decide))) (hdst : o.dst = some d := by rfl) (hN : Nat.blt d N = true := by rfl) (hk : okOps o = true := by rfl) (hd : depsI ops idx n = true := by decide +kernel) (hld : loudI ops idx n = true := by decide +kernel) (hm : n + 1 = m := by exact (by (conv => lhs; whnf) <;> rfl)) (hst : ∀ a, needsC cl (B a) := by (intro a; exact (by repeat (first | exact trivial | exact List.mem_cons_self | assumption | refine ⟨?_, ?_⟩ | refine List.mem_cons_of_mem _ ?_ | refine mem_gB ?_ | refine mem_gO ?_))))
    (h : ∀ a, ADl P N ops Q m ((n, true) :: idx) rest (⟨n, q a, some []⟩ :: cl) ((d, q a) :: t) (B a)) : ADl P N ops Q n idx (o :: rest) cl t bs :=
  .wo hq hg (by rw [hdst]; exact hN) hk hd hld hm (.inr fun _ _ ⟨a, _, e2⟩ c hc L hL _ => e2 ▸ (hst a).all c hc L hL) fun _ _ ⟨a, e1, e2⟩ => by subst e1; subst e2; rw [hdst]; exact h a
theorem ADl.k2 {α β : Type} {q : α → β → A} {B : α → β → BS} (hq : OpW P o t bs fun y b => ∃ a a2, y = q a a2 ∧ b = B a a2) (hg : Opn N ops o t := by exact (by first | exact Opn.none rfl | exact Opn.known rfl rfl rfl (by first | exact Wk.refl _ | exact Wk.nil | exact Wk.clip _ | exact Wk.tip _ _ _ | exact Wk.opt _ _ (by first | assumption | rfl) | exact Wk.gr _ _ | exact Wk.nil_gr | exact Wk.trans (Wk.opt _ _ (by first | assumption | rfl)) (by first | exact Wk.gr _ _ | exact Wk.nil | exact Wk.clip _ | exact Wk.tip _ _ _) | exact Wk.aggs (by repeat (first | exact Wks.nil | refine Wks.cons (by first | exact Wk.refl _ | exact Wk.nil | exact Wk.clip _ | exact Wk.tip _ _ _ | exact Wk.gr _ _ | exact Wk.nil_gr | exact Wk.nil_ow | exact Wk.ms_ow _ _ _) ?_)) rfl | exact Wk.nil_ow | exact Wk.ms_ow _ _ _ | exact Wk.ow_ms _ _ _) (by first | rfl | assumption) (by decide))) (hdst : o.dst = some d := by rfl) (hN : Nat.blt d N = true := by rfl) (hk : okOps o = true := by rfl) (hd : depsI ops idx n = true := by decide +kernel) (hld : loudI ops idx n = true := by decide +kernel) (hm : n + 1 = m := by exact (by (conv => lhs; whnf) <;> rfl)) (hst : ∀ a a2, needsC cl (B a a2) := by (intro a a2; exact (by repeat (first | exact trivial | exact List.mem_cons_self | assumption | refine ⟨?_, ?_⟩ | refine List.mem_cons_of_mem _ ?_ | refine mem_gB ?_ | refine mem_gO ?_))))
    (h : ∀ a a2, ADl P N ops Q m ((n, true) :: idx) rest (⟨n, q a a2, some []⟩ :: cl) ((d, q a a2) :: t) (B a a2)) : ADl P N ops Q n idx (o :: rest) cl t bs :=
  .wo hq hg (by rw [hdst]; exact hN) hk hd hld hm (.inr fun _ _ ⟨a, a2, _, e2⟩ c hc L hL _ => e2 ▸ (hst a a2).all c hc L hL) fun _ _ ⟨a, a2, e1, e2⟩ => by subst e1; subst e2; rw [hdst]; exact h a a2
theorem ADl.k3 {α β γ : Type} {q : α → β → γ → A} {B : α → β → γ → BS} (hq : OpW P o t bs fun y b => ∃ a a2 a3, y = q a a2 a3 ∧ b = B a a2 a3) (hg : Opn N ops o t := by exact (by first | exact Opn.none rfl | exact Opn.known rfl rfl rfl (by first | exact Wk.refl _ | exact Wk.nil | exact Wk.clip _ | exact Wk.tip _ _ _ | exact Wk.opt _ _ (by first | assumption | rfl) | exact Wk.gr _ _ | exact Wk.nil_gr | exact Wk.trans (Wk.opt _ _ (by first | assumption | rfl)) (by first | exact Wk.gr _ _ | exact Wk.nil | exact Wk.clip _ | exact Wk.tip _ _ _) | exact Wk.aggs (by repeat (first | exact Wks.nil | refine Wks.cons (by first | exact Wk.refl _ | exact Wk.nil | exact Wk.clip _ | exact Wk.tip _ _ _ | exact Wk.gr _ _ | exact Wk.nil_gr | exact Wk.nil_ow | exact Wk.ms_ow _ _ _) ?_)) rfl | exact Wk.nil_ow | exact Wk.ms_ow _ _ _ | exact Wk.ow_ms _ _ _) (by first | rfl | assumption) (by decide))) (hdst : o.dst = some d := by rfl) (hN : Nat.blt d N = true := by rfl) (hk : okOps o = true := by rfl) (hd : depsI ops idx n = true := by decide +kernel) (hld : loudI ops idx n = true := by decide +kernel) (hm : n + 1 = m := by exact (by (conv => lhs; whnf) <;> rfl)) (hst : ∀ a a2 a3, needsC cl (B a a2 a3) := by (intro a a2 a3; exact (by repeat (first | exact trivial | exact List.mem_cons_self | assumption | refine ⟨?_, ?_⟩ | refine List.mem_cons_of_mem _ ?_ | refine mem_gB ?_ | refine mem_gO ?_))))
    (h : ∀ a a2 a3, ADl P N ops Q m ((n, true) :: idx) rest (⟨n, q a a2 a3, some []⟩ :: cl) ((d, q a a2 a3) :: t) (B a a2 a3)) : ADl P N ops Q n idx (o :: rest) cl t bs :=
  .wo hq hg (by rw [hdst]; exact hN) hk hd hld hm (.inr fun _ _ ⟨a, a2, a3, _, e2⟩ c hc L hL _ => e2 ▸ (hst a a2 a3).all c hc L hL) fun _ _ ⟨a, a2, a3, e1, e2⟩ => by subst e1; subst e2; rw [hdst]; exact h a a2 a3
theorem ADl.n0 {q : A} {B : BS} (hq : OpW P o t bs fun y b => y = q ∧ b = B) (hg : Opn N ops o t := by exact (by first | exact Opn.none rfl | exact Opn.known rfl rfl rfl (by first | exact Wk.refl _ | exact Wk.nil | exact Wk.clip _ | exact Wk.tip _ _ _ | exact Wk.opt _ _ (by first | assumption | rfl) | exact Wk.gr _ _ | exact Wk.nil_gr | exact Wk.trans (Wk.opt _ _ (by first | assumption | rfl)) (by first | exact Wk.gr _ _ | exact Wk.nil | exact Wk.clip _ | exact Wk.tip _ _ _) | exact Wk.aggs (by repeat (first | exact Wks.nil | refine Wks.cons (by first | exact Wk.refl _ | exact Wk.nil | exact Wk.clip _ | exact Wk.tip _ _ _ | exact Wk.gr _ _ | exact Wk.nil_gr | exact Wk.nil_ow | exact Wk.ms_ow _ _ _) ?_)) rfl | exact Wk.nil_ow | exact Wk.ms_ow _ _ _ | exact Wk.ow_ms _ _ _) (by first | rfl | assumption) (by decide))) (hdst : o.dst = none := by rfl) (hk : okOps o = true := by rfl) (hd : depsI ops idx n = true := by decide +kernel) (hld : loudI ops idx n = true := by decide +kernel) (hm : n + 1 = m := by exact (by (conv => lhs; whnf) <;> rfl)) (hst : needsC cl B := by exact (by repeat (first | exact trivial | exact List.mem_cons_self | assumption | refine ⟨?_, ?_⟩ | refine List.mem_cons_of_mem _ ?_ | refine mem_gB ?_ | refine mem_gO ?_)))
    (h : ADl P N ops Q m ((n, true) :: idx) rest (⟨n, q, some []⟩ :: cl) t B) : ADl P N ops Q n idx (o :: rest) cl t bs :=
  .wo hq hg (by rw [hdst]; rfl) hk hd hld hm (.inr fun _ _ ⟨_, e2⟩ c hc L hL _ => e2 ▸ hst.all c hc L hL) fun _ _ ⟨e1, e2⟩ => by subst e1; subst e2; rw [hdst]; exact h

/-! ### calls by blocks in any order -/
theorem OpW.callP {K : Nat} {args : Array Operand} {tys : Array TypeId} {xs : List A} {F : BS → BS} {r : BS} {R : BS → A → BS → Prop} (hc : ∀ r, ACalls P K xs (F r) (R r)) [hF : FI P K] (ho : o.op = .call { callee := .value (.func K), args, argTypes := tys } := by rfl)
    (hp : bs.Perm (F r) := by exact (by repeat (first | exact List.Perm.refl _ | refine Pm.x (by ((repeat (first | exact Pick.here | apply Pick.tail | apply Pick.gB | apply Pick.gO)); done)) ?_ | refine Pm.b (by ((repeat (first | exact PickL.here | apply PickL.tail | apply PickL.gB | apply PickL.gO)); done)) ?_ | refine Pm.o (by ((repeat (first | exact PickL.here | apply PickL.tail | apply PickL.gB | apply PickL.gO)); done)) ?_))) (ha : Wks (args.toList.map (evA t)) xs := by (repeat (first | exact Wks.nil | refine Wks.cons (by first | exact Wk.refl _ | exact Wk.nil | exact Wk.clip _ | exact Wk.tip _ _ _ | exact Wk.opt _ _ (by first | assumption | rfl) | exact Wk.gr _ _ | exact Wk.nil_gr | exact Wk.trans (Wk.opt _ _ (by first | assumption | rfl)) (by first | exact Wk.gr _ _ | exact Wk.nil | exact Wk.clip _ | exact Wk.tip _ _ _) | exact Wk.aggs (by repeat (first | exact Wks.nil | refine Wks.cons (by first | exact Wk.refl _ | exact Wk.nil | exact Wk.clip _ | exact Wk.tip _ _ _ | exact Wk.gr _ _ | exact Wk.nil_gr | exact Wk.nil_ow | exact Wk.ms_ow _ _ _) ?_)) rfl | exact Wk.nil_ow | exact Wk.ms_ow _ _ _ | exact Wk.ow_ms _ _ _) ?_))) : OpW P o t bs (R r) :=
  (OpW.call ho (hc r) ha).perm hp fun y b hR => ⟨b, hR, .refl _⟩
theorem OpQ.callP {K : Nat} {args : Array Operand} {tys : Array TypeId} {xs : List A} {F : BS → BS} {r : BS} (hc : ∀ r, ACalls P K xs (F r) fun u b => u = y ∧ b = F r) [hF : FI P K] (ho : o.op = .call { callee := .value (.func K), args, argTypes := tys } := by rfl)
    (hp : bs.Perm (F r) := by exact (by repeat (first | exact List.Perm.refl _ | refine Pm.x (by ((repeat (first | exact Pick.here | apply Pick.tail | apply Pick.gB | apply Pick.gO)); done)) ?_ | refine Pm.b (by ((repeat (first | exact PickL.here | apply PickL.tail | apply PickL.gB | apply PickL.gO)); done)) ?_ | refine Pm.o (by ((repeat (first | exact PickL.here | apply PickL.tail | apply PickL.gB | apply PickL.gO)); done)) ?_))) (ha : Wks (args.toList.map (evA t)) xs := by (repeat (first | exact Wks.nil | refine Wks.cons (by first | exact Wk.refl _ | exact Wk.nil | exact Wk.clip _ | exact Wk.tip _ _ _ | exact Wk.opt _ _ (by first | assumption | rfl) | exact Wk.gr _ _ | exact Wk.nil_gr | exact Wk.trans (Wk.opt _ _ (by first | assumption | rfl)) (by first | exact Wk.gr _ _ | exact Wk.nil | exact Wk.clip _ | exact Wk.tip _ _ _) | exact Wk.aggs (by repeat (first | exact Wks.nil | refine Wks.cons (by first | exact Wk.refl _ | exact Wk.nil | exact Wk.clip _ | exact Wk.tip _ _ _ | exact Wk.gr _ _ | exact Wk.nil_gr | exact Wk.nil_ow | exact Wk.ms_ow _ _ _) ?_)) rfl | exact Wk.nil_ow | exact Wk.ms_ow _ _ _ | exact Wk.ow_ms _ _ _) ?_))) : OpQ P o t bs y := by
  have h := (OpW.call ho (hc r) ha).perm (R' := fun u b => u = y ∧ b = bs) hp fun u b ⟨h1, h2⟩ => ⟨bs, ⟨h1, rfl⟩, by subst h2; exact hp.symm⟩
  intro a w hx hb K Q hK
  exact h a w hx hb K Q fun u w' y' bs' ⟨h1, h2⟩ hu hb' he => by subst h1; subst h2; exact hK u w' hu hb' he
theorem OpW.callvP {K : Nat} {args : Array Operand} {tys : Array TypeId} {xs x1 x2 : List A} {F : BS → BS} {r : BS} {R : BS → A → BS → Prop} (hc : ∀ r, ACalls P K xs (F r) (R r)) [hF : FI P K] (ho : o.op = .call { callee := .value x, args, argTypes := tys } := by rfl) (hx : Wk (evA t x) (.fn (.func K) x1 x2) := by exact (by first | exact Wk.refl _ | exact Wk.nil | exact Wk.clip _ | exact Wk.tip _ _ _ | exact Wk.opt _ _ (by first | assumption | rfl) | exact Wk.gr _ _ | exact Wk.nil_gr | exact Wk.trans (Wk.opt _ _ (by first | assumption | rfl)) (by first | exact Wk.gr _ _ | exact Wk.nil | exact Wk.clip _ | exact Wk.tip _ _ _) | exact Wk.aggs (by repeat (first | exact Wks.nil | refine Wks.cons (by first | exact Wk.refl _ | exact Wk.nil | exact Wk.clip _ | exact Wk.tip _ _ _ | exact Wk.gr _ _ | exact Wk.nil_gr | exact Wk.nil_ow | exact Wk.ms_ow _ _ _) ?_)) rfl | exact Wk.nil_ow | exact Wk.ms_ow _ _ _ | exact Wk.ow_ms _ _ _))
    (hp : bs.Perm (F r) := by exact (by repeat (first | exact List.Perm.refl _ | refine Pm.x (by ((repeat (first | exact Pick.here | apply Pick.tail | apply Pick.gB | apply Pick.gO)); done)) ?_ | refine Pm.b (by ((repeat (first | exact PickL.here | apply PickL.tail | apply PickL.gB | apply PickL.gO)); done)) ?_ | refine Pm.o (by ((repeat (first | exact PickL.here | apply PickL.tail | apply PickL.gB | apply PickL.gO)); done)) ?_))) (ha : Wks (x1 ++ args.toList.map (evA t) ++ x2) xs := by (repeat (first | exact Wks.nil | refine Wks.cons (by first | exact Wk.refl _ | exact Wk.nil | exact Wk.clip _ | exact Wk.tip _ _ _ | exact Wk.opt _ _ (by first | assumption | rfl) | exact Wk.gr _ _ | exact Wk.nil_gr | exact Wk.trans (Wk.opt _ _ (by first | assumption | rfl)) (by first | exact Wk.gr _ _ | exact Wk.nil | exact Wk.clip _ | exact Wk.tip _ _ _) | exact Wk.aggs (by repeat (first | exact Wks.nil | refine Wks.cons (by first | exact Wk.refl _ | exact Wk.nil | exact Wk.clip _ | exact Wk.tip _ _ _ | exact Wk.gr _ _ | exact Wk.nil_gr | exact Wk.nil_ow | exact Wk.ms_ow _ _ _) ?_)) rfl | exact Wk.nil_ow | exact Wk.ms_ow _ _ _ | exact Wk.ow_ms _ _ _) ?_))) : OpW P o t bs (R r) :=
  (OpW.callv ho hx (hc r) rfl ha).perm hp fun y b hR => ⟨b, hR, .refl _⟩
theorem OpQ.callvP {K : Nat} {args : Array Operand} {tys : Array TypeId} {xs x1 x2 : List A} {F : BS → BS} {r : BS} (hc : ∀ r, ACalls P K xs (F r) fun u b => u = y ∧ b = F r) [hF : FI P K] (ho : o.op = .call { callee := .value x, args, argTypes := tys } := by rfl) (hx : Wk (evA t x) (.fn (.func K) x1 x2) := by exact (by first | exact Wk.refl _ | exact Wk.nil | exact Wk.clip _ | exact Wk.tip _ _ _ | exact Wk.opt _ _ (by first | assumption | rfl) | exact Wk.gr _ _ | exact Wk.nil_gr | exact Wk.trans (Wk.opt _ _ (by first | assumption | rfl)) (by first | exact Wk.gr _ _ | exact Wk.nil | exact Wk.clip _ | exact Wk.tip _ _ _) | exact Wk.aggs (by repeat (first | exact Wks.nil | refine Wks.cons (by first | exact Wk.refl _ | exact Wk.nil | exact Wk.clip _ | exact Wk.tip _ _ _ | exact Wk.gr _ _ | exact Wk.nil_gr | exact Wk.nil_ow | exact Wk.ms_ow _ _ _) ?_)) rfl | exact Wk.nil_ow | exact Wk.ms_ow _ _ _ | exact Wk.ow_ms _ _ _))
    (hp : bs.Perm (F r) := by exact (by repeat (first | exact List.Perm.refl _ | refine Pm.x (by ((repeat (first | exact Pick.here | apply Pick.tail | apply Pick.gB | apply Pick.gO)); done)) ?_ | refine Pm.b (by ((repeat (first | exact PickL.here | apply PickL.tail | apply PickL.gB | apply PickL.gO)); done)) ?_ | refine Pm.o (by ((repeat (first | exact PickL.here | apply PickL.tail | apply PickL.gB | apply PickL.gO)); done)) ?_))) (ha : Wks (x1 ++ args.toList.map (evA t) ++ x2) xs := by (repeat (first | exact Wks.nil | refine Wks.cons (by first | exact Wk.refl _ | exact Wk.nil | exact Wk.clip _ | exact Wk.tip _ _ _ | exact Wk.opt _ _ (by first | assumption | rfl) | exact Wk.gr _ _ | exact Wk.nil_gr | exact Wk.trans (Wk.opt _ _ (by first | assumption | rfl)) (by first | exact Wk.gr _ _ | exact Wk.nil | exact Wk.clip _ | exact Wk.tip _ _ _) | exact Wk.aggs (by repeat (first | exact Wks.nil | refine Wks.cons (by first | exact Wk.refl _ | exact Wk.nil | exact Wk.clip _ | exact Wk.tip _ _ _ | exact Wk.gr _ _ | exact Wk.nil_gr | exact Wk.nil_ow | exact Wk.ms_ow _ _ _) ?_)) rfl | exact Wk.nil_ow | exact Wk.ms_ow _ _ _ | exact Wk.ow_ms _ _ _) ?_))) : OpQ P o t bs y := by
  have h := (OpW.callv ho hx (hc r) rfl ha).perm (R' := fun u b => u = y ∧ b = bs) hp fun u b ⟨h1, h2⟩ => ⟨bs, ⟨h1, rfl⟩, by subst h2; exact hp.symm⟩
  intro a w hx hb K Q hK
  exact h a w hx hb K Q fun u w' y' bs' ⟨h1, h2⟩ hu hb' he => by subst h1; subst h2; exact hK u w' hu hb' he

/-! ### rows of one's own -/
theorem OpW.imp {R R' : A → BS → Prop} (h : OpW P o t bs R) (k : ∀ y b, R y b → R' y b) : OpW P o t bs R' := fun a w hx hb K Q hK => h a w hx hb K Q fun u w' y b hR => hK u w' y b (k y b hR)
theorem OpW.impw {R R' : A → BS → Prop} (h : OpW P o t bs R) (k : ∀ y b, R y b → ∃ y', Wk y y' ∧ R' y' b) : OpW P o t bs R' := fun a w hx hb K Q hK => h a w hx hb K Q fun u w' y b hR hu hb' he => by
  obtain ⟨y', h1, h2⟩ := k y b hR
  exact hK u w' y' b h2 (hu.wk h1) hb' he
/-- By what an operand is at the time. -/
theorem OpW.of_rep {R : A → BS → Prop} (h : ∀ (a : Act) (w : World), (∀ x ∈ o.op.operands, Rep w (zones bs) (a.eval x) (evA t x)) → BsOk w bs → OpW P o t bs R) : OpW P o t bs R := fun a w hx hb => h a w hx hb a w hx hb
theorem OpW.app_ow0 {e : TypeId} {s1 b1 s2 b2 : Nat} {d2 : TypeDesc} {zs : List Value} {cs : List A} {rows2 : List (List A)} [h1 : TI P ty (.slice e) s1 b1] [h2 : TI P e d2 s2 b2] [hz : TC P e zs cs] (ho : o.op = .call { callee := .builtin .append, args := #[x, z], argTypes := #[ty, ty] })
    (hx : Wk (evA t x) .nil) (hy : Wk (evA t z) (.sl rows2)) (hzl : cs.length = s2) (hpos : 0 < s2) (hb2 : 0 < b2) (hs : ∀ r ∈ rows2, r.length = s2) (hp : 0 < rows2.length) (hbd : rows2.length * b2 ≤ 140737488355328) :
    OpW P o t bs fun y bs' => ∃ g c, y = .ms g 0 rows2.length c ∧ bs' = (g, .rows rows2 c s2 e) :: bs ∧ rows2.length ≤ c := by
  intro a w h hb K Q hK
  obtain ⟨hr1, hr2⟩ := append_ops ho h
  have hr1 := hr1.wk hx
  obtain ⟨v, w', us, us2, hrun, hown, hgr, hl, hone, r1, r2⟩ := run_app_new h1 h2 hz.z (by have := congrArg List.length hz.abs; simp at this; omega) hpos hb2 o.type (rows := []) (by simpa using hs) (hr1.full .nil) (hr2.wk hy) hp (by simpa using hbd)
  obtain ⟨g, c, arr, rfl, hg, hh, hnc, hcm, hsz, hR⟩ := own_new hown hgr hb (rows := []) (by simpa using hs) (by simp) hl hone r1 r2 (by omega)
  obtain ⟨b1', e1'⟩ := BsOk.push hb (g := g) (b := .rows rows2 c s2 e) hg hgr.os hgr.tape hgr.output hgr.size (fun k hk => hgr.block k hk (by simp)) fun he => by
    exact ⟨arr, hh, by simp at hnc; omega, hcm, hsz, hs, fun k x hk => ⟨(hR k x (by simpa using hk)).1.ext he, (hR k x (by simpa using hk)).2.1⟩⟩
  unfold Oper.wp
  rw [append_run ho rfl rfl hrun]
  simp only [List.length_nil, Nat.zero_add]
  exact hK _ _ _ _ ⟨g, c, rfl, rfl, by simp at hnc; omega⟩ .ms b1' e1'
/-- 'append' of nothing to a slice of whatever kind. -/
theorem OpQ.app_none {e : TypeId} {s1 b1 s2 b2 : Nat} {d2 : TypeDesc} [h1 : TI P ty (.slice e) s1 b1] [h2 : TI P e d2 s2 b2] (ho : o.op = .call { callee := .builtin .append, args := #[x, z], argTypes := #[ty, ty] }) (hx : evA t x = y) (hz : Wk (evA t z) (.sl []))
    (ha : ∀ (w : World) (u : Value), BsOk w bs → Rep w (zones bs) u y → ∃ b n c, u = .slice b n c ∧ n ≤ c) : OpQ P o t bs y :=
  .of_run fun a w h hb => by
    obtain ⟨hr1, hr2⟩ := append_ops ho h
    rw [hx] at hr1
    obtain ⟨b, n, c, e1, hnc⟩ := ha w _ hb hr1
    obtain ⟨Ad, c2, e2, _⟩ := (hr2.wk hz).slice_inv
    refine ⟨a.eval x, ?_, hr1⟩
    rw [append_run ho e1 e2 (run_append_zero h1 h2 o.type b n c hnc Ad c2 w), e1]
theorem blk_rows_le {w : World} {Z : Zones} {g cap s : Nat} {e : TypeId} {rs : List (List A)} (h : BlkOk w Z g (.rows rs cap s e)) : rs.length ≤ cap := by obtain ⟨_, _, h, _⟩ := h; exact h
theorem Rep.ow_none {w : World} {Z : Zones} {u : Value} {n : Nat} (h : Rep w Z u (.ow none n)) : u = .slice none 0 0 ∧ n = 0 := by cases h; exact ⟨rfl, rfl⟩
theorem Rep.ow_some {w : World} {Z : Zones} {u : Value} {g c n : Nat} (h : Rep w Z u (.ow (some (g, c)) n)) : u = .slice (some ⟨g, 0, none⟩) n c := by cases h; rfl
/-- 'append' to rows of one's own, or to none. -/
theorem OpW.app_ow {e : TypeId} {s1 b1 s2 b2 k : Nat} {d2 : TypeDesc} {zs : List Value} {cs : List A} {q : Option (Nat × Nat)} {rs rows2 : List (List A)} {r : BS} [h1 : TI P ty (.slice e) s1 b1] [h2 : TI P e d2 s2 b2] [hz : TC P e zs cs] (ho : o.op = .call { callee := .builtin .append, args := #[x, z], argTypes := #[ty, ty] })
    (hx : Wk (evA t x) (.ow q k)) (hxe : evA t x = .ow q k ∨ evA t x = .nil) (hy : Wk (evA t z) (.sl rows2)) (hm : PickL bs (gO q rs s2 e) r) (hk : rs.length = k) (hzl : cs.length = s2) (hpos : 0 < s2) (hb2 : 0 < b2) (hs2 : ∀ r ∈ rows2, r.length = s2) (hbd : (k + rows2.length) * b2 ≤ 140737488355328) :
    OpW P o t bs fun y bs' => ∃ q', y = .ow q' (k + rows2.length) ∧ bs' = gO q' (rs ++ rows2) s2 e r := by
  subst hk
  refine OpW.perm (bs1 := gO q rs s2 e r) ?_ hm.permO fun y b hR => ⟨b, hR, .refl _⟩
  refine OpW.of_rep fun a w hrep hb => ?_
  have hrx := (append_ops ho hrep).1.wk hx
  rcases Nat.eq_zero_or_pos rows2.length with h0 | h0
  · have e0 : rows2 = [] := List.eq_nil_of_length_eq_zero h0
    subst e0
    rcases hxe with hxe | hxe
    · refine (OpQ.app_none ho hxe hy fun w u hb' hr => ?_).w.imp fun y b ⟨e1, e2⟩ => ⟨q, by rw [e1]; rfl, by rw [e2, List.append_nil]⟩
      cases q with
      | none => exact ⟨_, _, _, hr.ow_none.1, Nat.le_refl _⟩
      | some gc => exact ⟨_, _, _, hr.ow_some, blk_rows_le (hb'.get List.mem_cons_self)⟩
    · rw [hxe] at hx
      have hn : Rep w (zones (gO q rs s2 e r)) (.slice none 0 0) (.ow q rs.length) := (Rep.nil (w := w) (Z := zones (gO q rs s2 e r))).wk hx
      refine (OpQ.app_none ho hxe hy fun w u hb' hr => ?_).w.impw fun y b ⟨e1, e2⟩ => ⟨.ow none 0, by rw [e1]; exact .nil_ow, none, ?_, ?_⟩
      · cases hr; exact ⟨_, _, _, rfl, Nat.le_refl _⟩
      · cases q with
        | none => obtain ⟨_, h⟩ := hn.ow_none; simp [h]
        | some gc => have := hn.ow_some; cases this
      · cases q with
        | none => exact e2
        | some gc => have := hn.ow_some; cases this
  · cases q with
    | none =>
      obtain ⟨_, e0⟩ := hrx.ow_none
      have e0 : rs = [] := List.eq_nil_of_length_eq_zero e0
      subst e0
      refine (OpW.app_ow0 ho (.trans hx (.ow_nil _)) hy hzl hpos hb2 hs2 h0 (by simpa using hbd)).impw fun y b ⟨g, c, e1, e2, _⟩ => ⟨.ow (some (g, c)) rows2.length, by rw [e1]; exact .ms_ow _ _ _, some (g, c), by simp, by rw [e2]; rfl⟩
    | some gc =>
      obtain ⟨g, c⟩ := gc
      refine (OpW.app_rows ho (.trans hx (.ow_ms _ _ _)) hy (List.take_of_length_le (Nat.le_refl _)) (B := fun g' c' => gO (some (g', c')) (rs ++ rows2) s2 e r) (fun g' c' => .head) (Nat.le_refl _) hzl hpos hb2 hs2 h0 hbd).impw fun y b ⟨g', c', e1, e2, _⟩ => ⟨.ow (some (g', c')) (rs.length + rows2.length), by rw [e1]; exact .ms_ow _ _ _, some (g', c'), rfl, e2⟩
/-- Rows of which one is read are there. -/
theorem AW.ow_cases {x : Code} (i : Nat) {q : Option (Nat × Nat)} {k : Nat} (hl : look t i = .ow q k) (h0 : q = none → k = 0 → AW P N x Q t bs) (h1 : ∀ g c, q = some (g, c) → AW P N x Q t bs) : AW P N x Q t bs := fun w0 Z0 a w hg he => by
  have h := hg.tmps i
  rw [hl] at h
  cases q with
  | none => exact h0 rfl h.ow_none.2 w0 Z0 a w hg he
  | some gc => exact h1 gc.1 gc.2 rfl w0 Z0 a w hg he
theorem OpQ.load_map {α : Type} {R : α → List A} {v : List α} {q : α} {g i j c s : Nat} {e : TypeId} [h1 : TI P ty td sz by_] (ho : o.op = .load ty x) (hx : Wk (evA t x) (.rp g s i j)) (hm : (g, .rows (v.map R) c s e) ∈ bs) (hv : v[i]? = some q) (hd : td.isRow = false) (hy : (R q)[j]? = some y) : OpQ P o t bs y :=
  OpQ.load_row ho hx hm (row := R q) (by rw [List.getElem?_map, hv]; rfl) hd hy
theorem OpQ.loads_map {α : Type} {R : α → List A} {v : List α} {q : α} {g i c s : Nat} {e : TypeId} [h1 : TI P ty td sz by_] (ho : o.op = .load ty x) (hx : Wk (evA t x) (.rp g s i 0)) (hm : (g, .rows (v.map R) c s e) ∈ bs) (hv : v[i]? = some q) (hd : td.isRow = true) (hs : s = sz) : OpQ P o t bs (.agg (R q)) :=
  OpQ.loads_row ho hx hm (row := R q) (by rw [List.getElem?_map, hv]; rfl) hd hs
theorem OpW.store_map {α : Type} {R : α → List A} {v : List α} {q q' : α} {g i j c s : Nat} {e : TypeId} {bs' : BS} [h1 : TI P ty td sz by_] (ho : o.op = .store ty x z) (hx : Wk (evA t x) (.rp g s i j)) (hz : Wk (evA t z) y) (hc : y.isCell = true ∨ ∃ xs, y = .agg xs) (hm : (g, .rows (v.map R) c s e) ∈ bs) (hv : v[i]? = some q)
    (hy : spl (R q) j (cellsOf y) = R q') (hu : BUpd bs g (.rows (v.map R) c s e) g (.rows ((v.set i q').map R) c s e) bs') (hl : j + sz ≤ s) (hs : (cellsOf y).length = sz) : OpW P o t bs fun u b => u = .junk ∧ b = bs' :=
  OpW.store_row ho hx hz hc hm (row := R q) (by rw [List.getElem?_map, hv]; rfl) (rs' := (v.set i q').map R) (by rw [hy, List.map_set]) hu hl hs

/-! ### rows that are read for a while, or for good -/
/-- What tells rows of one's own tells them as read only. -/
inductive FzV (q : Option (Nat × Nat)) (rs : List (List A)) : A → A → Prop where
  | refl (a : A) : FzV q rs a a
  | ow {n : Nat} {ys : List (List A)} (hn : rs.length = n) (hy : rs = ys) : FzV q rs (.ow q n) (.sl ys)
  | ms {g c n : Nat} {ys : List (List A)} (hq : q = some (g, c)) (hn : rs.length = n) (hy : rs = ys) : FzV q rs (.ms g 0 n c) (.sl ys)
  | agg (xs ys : List A) (l : xs.length = ys.length) (h : ∀ (k : Nat) (a b : A), xs[k]? = some a → ys[k]? = some b → FzV q rs a b) : FzV q rs (.agg xs) (.agg ys)
inductive FzL (q : Option (Nat × Nat)) (rs : List (List A)) : List A → List A → Prop where
  | nil : FzL q rs [] []
  | cons {a b : A} {r s : List A} (h : FzV q rs a b) (k : FzL q rs r s) : FzL q rs (a :: r) (b :: s)
theorem FzL.get {q : Option (Nat × Nat)} {rs : List (List A)} {xs ys : List A} (h : FzL q rs xs ys) : xs.length = ys.length ∧ ∀ (k : Nat) (a b : A), xs[k]? = some a → ys[k]? = some b → FzV q rs a b := by
  induction h with
  | nil => exact ⟨rfl, by simp⟩
  | cons h _ ih =>
    refine ⟨by simp [ih.1], fun k a b ha hb => ?_⟩
    cases k with
    | zero => simp at ha hb; subst ha; subst hb; exact h
    | succ k => exact ih.2 k a b (by simpa using ha) (by simpa using hb)
theorem FzV.aggs {q : Option (Nat × Nat)} {rs : List (List A)} {xs ys : List A} (h : FzL q rs xs ys) : FzV q rs (.agg xs) (.agg ys) := .agg _ _ h.get.1 h.get.2
theorem FzV.rep {w : World} {q : Option (Nat × Nat)} {rs : List (List A)} {s : Nat} {e : TypeId} {r : BS} {u : Value} {x y : A} (hb : BsOk w (gO q rs s e r)) (h : Rep w (zones (gO q rs s e r)) u x) (k : FzV q rs x y) : Rep w (zones r) u y := by
  have hsub : List.Sublist r (gO q rs s e r) := Sl.gO (List.Sublist.refl _)
  obtain ⟨_, hz⟩ := hb.less hsub
  induction k generalizing u with
  | refl => exact h.less hz
  | @ow n ys hn hy =>
    subst hy
    cases q with
    | none =>
      obtain ⟨e1, e2⟩ := h.ow_none
      subst e1
      have : rs = [] := List.eq_nil_of_length_eq_zero (by omega)
      subst this
      exact .nil_sl
    | some gc =>
      obtain ⟨g, c⟩ := gc
      have e1 := h.ow_some
      subst e1
      have hle := blk_rows_le (hb.get List.mem_cons_self)
      exact FrzV.rep (g := g) (cap := c) (s := s) (e := e) (rs := rs) hb List.mem_cons_self hsub (fun z hz e => (List.nodup_cons.1 hb.nodup).1 (e ▸ List.mem_map.2 ⟨z, hz, rfl⟩)) (x := .ms g 0 n c) .ms (.ms (by omega) (by omega) (Nat.le_refl _) (List.take_of_length_le (by omega)))
  | @ms g c n ys hq hn hy =>
    subst hq; subst hy
    have hle := blk_rows_le (hb.get List.mem_cons_self)
    exact FrzV.rep (g := g) (cap := c) (s := s) (e := e) (rs := rs) hb List.mem_cons_self hsub (fun z hz e => (List.nodup_cons.1 hb.nodup).1 (e ▸ List.mem_map.2 ⟨z, hz, rfl⟩)) h (.ms (by omega) (by omega) (Nat.le_refl _) (List.take_of_length_le (by omega)))
  | agg xs ys l hh ih =>
    cases h with
    | agg l2 hr h1 =>
      refine .agg (l2.trans l) (fun k q hq => ?_) (fun k q hq => ?_)
      all_goals
        obtain ⟨p, hp⟩ : ∃ p, xs[k]? = some p := ⟨_, List.getElem?_eq_getElem (by rw [l]; exact (List.getElem?_eq_some_iff.1 hq).1)⟩
      · exact ih k p q hp hq (hr k p hp)
      · exact h1 k p hp
/-- All temporaries that are told tell so. -/
def FzT (q : Option (Nat × Nat)) (rs : List (List A)) (t : T) : T → Prop
  | [] => True
  | (i, x) :: r => FzV q rs (look t i) x ∧ FzT q rs t r
theorem FzT.at_ {q : Option (Nat × Nat)} {rs : List (List A)} {t t' : T} (h : FzT q rs t t') (i : Nat) : FzV q rs (look t i) (look t' i) ∨ look t' i = .junk := by
  induction t' with
  | nil => exact .inr rfl
  | cons x r ih =>
    obtain ⟨j, x⟩ := x
    rw [look_cons]
    by_cases hi : i = j
    · rw [if_pos hi]; subst hi; exact .inl h.1
    · rw [if_neg hi]; exact ih h.2
theorem FzT.rep {w : World} {q : Option (Nat × Nat)} {rs : List (List A)} {s : Nat} {e : TypeId} {r : BS} {t t' : T} (k : FzT q rs t t') (hb : BsOk w (gO q rs s e r)) {u : Value} {i : Nat} (h : Rep w (zones (gO q rs s e r)) u (look t i)) : Rep w (zones r) u (look t' i) := by
  rcases k.at_ i with h1 | h1
  · exact FzV.rep hb h h1
  · rw [h1]; exact .junk
/-- Other blocks, in which they stand. -/
inductive FzB (q : Option (Nat × Nat)) (rs : List (List A)) : BS → BS → Prop where
  | refl (r : BS) : FzB q rs r r
  | cons {x : Nat × Blk} {r r' : BS} (k : FzB q rs r r') : FzB q rs (x :: r) (x :: r')
  | cells {g : Nat} {cs cs' : List A} {r r' : BS} (h : FzL q rs cs cs') (k : FzB q rs r r') : FzB q rs ((g, .cells cs) :: r) ((g, .cells cs') :: r')
theorem FzB.zones {q : Option (Nat × Nat)} {rs : List (List A)} {r r' : BS} (h : FzB q rs r r') : zones r' = zones r := by
  induction h with
  | refl => rfl
  | cons _ ih => rw [zones_cons, zones_cons, ih]
  | cells _ _ ih => rw [zones_cons, zones_cons, ih]; rfl
theorem FzB.gB {q : Option (Nat × Nat)} {rs : List (List A)} {o : Option (Nat × Nat)} {n sz : Nat} {e : TypeId} {r r' : BS} (k : FzB q rs r r') : FzB q rs (X.gB o n sz e r) (X.gB o n sz e r') := by
  cases o with
  | none => exact k
  | some y => exact .cons k
theorem FzB.gO {q : Option (Nat × Nat)} {rs : List (List A)} {o : Option (Nat × Nat)} {rs2 : List (List A)} {sz : Nat} {e : TypeId} {r r' : BS} (k : FzB q rs r r') : FzB q rs (X.gO o rs2 sz e r) (X.gO o rs2 sz e r') := by
  cases o with
  | none => exact k
  | some y => exact .cons k
theorem FzB.mem {q : Option (Nat × Nat)} {rs : List (List A)} {r r' : BS} (h : FzB q rs r r') : ∀ x ∈ r', x ∈ r ∨ ∃ g cs cs', x = (g, .cells cs') ∧ (g, .cells cs) ∈ r ∧ FzL q rs cs cs' := by
  induction h with
  | refl => exact fun x hx => .inl hx
  | cons _ ih =>
    intro x hx
    rcases List.mem_cons.1 hx with rfl | hx
    · exact .inl List.mem_cons_self
    · rcases ih x hx with h | ⟨g, cs, cs', h1, h2, h3⟩
      · exact .inl (List.mem_cons_of_mem _ h)
      · exact .inr ⟨g, cs, cs', h1, List.mem_cons_of_mem _ h2, h3⟩
  | cells h _ ih =>
    intro x hx
    rcases List.mem_cons.1 hx with rfl | hx
    · exact .inr ⟨_, _, _, rfl, List.mem_cons_self, h⟩
    · rcases ih x hx with h | ⟨g, cs, cs', h1, h2, h3⟩
      · exact .inl (List.mem_cons_of_mem _ h)
      · exact .inr ⟨g, cs, cs', h1, List.mem_cons_of_mem _ h2, h3⟩
theorem FzB.names {q : Option (Nat × Nat)} {rs : List (List A)} {r r' : BS} (h : FzB q rs r r') : r'.map (·.1) = r.map (·.1) := by
  induction h with
  | refl => rfl
  | cons _ ih => simp [ih]
  | cells _ _ ih => simp [ih]
/-- Rows of one's own turn no more. -/
theorem AW.frz {x : Code} {q : Option (Nat × Nat)} {rs : List (List A)} {s : Nat} {e : TypeId} {r bs' : BS} {t' : T} (hp : PickL bs (gO q rs s e) r) (ht : FzT q rs t t') (hB : FzB q rs r bs') (h : AW P N x Q t' bs') : AW P N x Q t bs := fun w0 Z0 a w hg he => by
  have hb := hg.bs.perm hp.permO
  have hz1 := zones_perm hp.permO
  have hsub : List.Sublist r (gO q rs s e r) := Sl.gO (List.Sublist.refl _)
  obtain ⟨hb2, hz2⟩ := hb.less hsub
  have hzz := hB.zones
  have hE : Ext w0 Z0 w (zones bs') := by
    rw [hzz]; exact (he.less hz1).less hz2
  refine h w0 Z0 a w ⟨hg.defers, hg.size, fun i => ?_, ?_⟩ hE
  · rw [hzz]; exact ht.rep hb ((hg.tmps i).less hz1)
  · refine ⟨by rw [hB.names]; exact hb2.nodup, fun x hx => ?_⟩
    rcases hB.mem x hx with h | ⟨g, cs, cs', rfl, h2, h3⟩
    · rw [hzz]; exact hb2.ok x h
    · obtain ⟨arr, ty, a1, a2, a3⟩ := hb.get (hsub.subset h2)
      obtain ⟨l1, l2⟩ := h3.get
      refine ⟨arr, ty, a1, a2.trans l1, fun k y hk => ?_⟩
      obtain ⟨p, hp⟩ : ∃ p, cs[k]? = some p := ⟨_, List.getElem?_eq_getElem (by rw [l1]; exact (List.getElem?_eq_some_iff.1 hk).1)⟩
      obtain ⟨c1, c2⟩ := a3 k p hp
      rw [hzz]
      exact ⟨FzV.rep hb c1 (l2 k p y hp hk), c2⟩
/-- What hangs on no memory. -/
def flatA : A → Bool
  | .v _ => true
  | .tup xs => xs.all fun x => match x with | .v _ => true | _ => false
  | _ => false
theorem Rep.flat {w : World} {Z Z' : Zones} {u : Value} {y : A} (h : Rep w Z u y) (hf : flatA y = true) : Rep w Z' u y := by
  cases y with
  | v v => cases h with | v h => exact .v h
  | tup xs =>
    cases h with
    | tup l hr =>
      refine .tup l fun k x hk => ?_
      have := hr k x hk
      have hx := List.all_eq_true.1 hf x (List.mem_of_getElem? hk)
      generalize Array.getD _ k undef = u' at this ⊢
      cases x with
      | v u => cases this with | v h => exact .v h
      | _ => cases hx
  | _ => cases hf
/-- What is told where nothing is one's own. -/
def Bor (bs : BS) (t t' : T) : Prop := ∀ (w : World) (u : Value) (i : Nat), BsOk w bs → Rep w (zones bs) u (look t i) → Rep w [] u (look t' i)
theorem Bor.fin : Bor bs t t := fun w u i hb h => h.less fun z hz => nomatch hz
theorem Bor.step {q : Option (Nat × Nat)} {rs : List (List A)} {s : Nat} {e : TypeId} {r : BS} {t1 t2 : T} (hp : PickL bs (gO q rs s e) r) (ht : FzT q rs t t1) (k : Bor r t1 t2) : Bor bs t t2 := fun w u i hb h => by
  have hb1 := hb.perm hp.permO
  exact k w u i (hb1.less (Sl.gO (List.Sublist.refl _))).1 (ht.rep hb1 (h.less (zones_perm hp.permO)))
/-- Rows of one's own are read by an operation that tells nothing of memory. -/
theorem OpQ.borrow {t' : T} (hq : OpQ P o t' [] y) (ht : Bor bs t t') (hk : okOps o = true := by rfl) (hf : flatA y = true := by rfl) : OpQ P o t bs y := fun a w h hb K Q hK => by
  have hb0 : BsOk w [] := ⟨by simp, fun x hx => nomatch hx⟩
  refine hq a w (fun x hx => ?_) hb0 K Q fun u w' hu hb' he => ?_
  · cases x with
    | tmp i => exact ht w _ i hb (h (.tmp i) hx)
    | const v =>
      have hkx : okC (.const v) = true := List.all_eq_true.1 hk _ (by simpa using hx)
      exact rep_ev (N := 0) (t := []) (a := { tmps := #[], defers := [] }) (fun i => .junk) (.const v) hkx
    | global g => exact .junk
    | func f => exact .fn rfl rfl (by simp) (by simp)
  · have hh : ∀ k, k < w.heap.size → w'.heap[k]? = w.heap[k]? := fun k hk => he.block k hk fun z hz => nomatch hz
    obtain ⟨q1, q2⟩ := hb.keep he.os he.tape he.output he.size hh
    exact hK u w' (hu.flat hf) q1 q2
end
end Go.Proofs.YtnkkfmnpkgjabaaGreat.X

/- Texts, numbers; arrays; texts of bytes. -/
namespace Go.Proofs.YtnkkfmnpkgjabaaGreat.X
open Go.RowKit
set_option linter.unusedVariables false
set_option linter.unusedSimpArgs false
abbrev OG := Option (Nat × Nat)
abbrev Txt := ByteArray
def idxT (s : Txt) (i : Int) : Option UInt8 := if 0 ≤ i then s[i.toNat]? else none
theorem idxT_some {s : Txt} {i : Int} {x : UInt8} (h : idxT s i = some x) : 0 ≤ i ∧ s[i.toNat]? = some x := by
  unfold idxT at h
  by_cases hi : 0 ≤ i
  · rw [if_pos hi] at h; exact ⟨hi, h⟩
  · rw [if_neg hi] at h; cases h
theorem idxT_b {β : Type} {s : Txt} {i : Int} {f : UInt8 → Option β} {r : β} (h : (idxT s i).bind f = some r) : ∃ x, 0 ≤ i ∧ s[i.toNat]? = some x ∧ f x = some r := by
  obtain ⟨x, h1, h2⟩ := bnd h
  exact ⟨x, (idxT_some h1).1, (idxT_some h1).2, h2⟩
theorem gba {c b : Bool} (hc : c = true) (hb : b = true) : (c && b) = true := by rw [hc, hb]; rfl
theorem gbo {c b : Bool} (hc : c = true) (hb : b = false) : (c && !b) = true := by rw [hc, hb]; rfl
abbrev sA (s : Txt) : A := .v (.string s)
abbrev iA (n : Int) : A := .v (.int .i64 n)
abbrev bA (b : Bool) : A := .v (.bool b)
def strR (s : Txt) : List A := [.v (.string s)]
def intR (n : Int) : List A := [.v (.int .i64 n)]
def boolR (b : Bool) : List A := [.v (.bool b)]
def kR (k : IntKind) (n : Int) : List A := [.v (.int k n)]
def slR {α : Type} (R : α → List A) (l : List α) : List A := [.sl (l.map R)]
theorem ens1 {p : Prop} [Decidable p] {u : Unit} (h : ensure p = some u) : p := by
  unfold ensure at h
  by_cases hp : p
  · exact hp
  · rw [if_neg hp] at h; cases h

def setO {α : Type} (l : List α) (i : Int) (x : α) : Option (List α) := if 0 ≤ i ∧ i.toNat < l.length then some (l.set i.toNat x) else none
def arR {α : Type} (R : α → List A) (l : List α) : List A := (l.map R).flatten
theorem arR_len {α : Type} {R : α → List A} {l : List α} {s n : Nat} (h : ∀ x, (R x).length = s) (hn : l.length = n) : (arR R l).length = n * s := by
  unfold arR
  rw [flat_len0 (s := s) (fun r hr => by obtain ⟨x, _, rfl⟩ := List.mem_map.1 hr; exact h x), List.length_map, hn]
def txtOf (l : List Int) : Txt := ⟨(l.map fun n => UInt8.ofNat n.toNat).toArray⟩
def bytesOf (s : Txt) : List Int := s.data.toList.map fun b => (b.toNat : Int)
theorem bytesOf_rows (s : Txt) : (bytesOf s).map (kR .u8) = s.data.toList.map byteRow := by
  unfold bytesOf
  rw [List.map_map]; rfl
section
variable {P : Program} {o : Oper} {t : T} {bs : BS} {y : A} {x z : Operand} {ty ty2 : TypeId} {d : TypeDesc} {sz by_ : Nat}
/-! ### arrays -/
theorem OpW.alloc_arr {zs : List Value} {cs : List A} {rs : List (List A)} {n s : Nat} [hz : TC P ty zs cs] (ho : o.op = .alloc ty) (hr : rs.flatten = cs) (hs : ∀ r ∈ rs, r.length = s) (hn : rs.length = n) (hm : n ≤ maxLen) : OpW P o t bs fun y bs' => ∃ g, y = .ptr g 0 ∧ bs' = (g, .rows rs n s ty) :: bs := by
  subst hr
  intro a w hx hb K Q hK
  obtain ⟨zv, h1, h2⟩ := hz.z.run
  have hrun : (execOp a.eval o).run P w = .ok (.value (.pointer (some ⟨w.heap.size, 0, none⟩))) (w.alloc (.cells zs.toArray ty)) := by
    simp only [execOp, ho, Instr.alloc, Sem.run_bind, h1, Result.andThen_ok, newVar, h2, run_newRow, Sem.run_pure]
  have hlen : zs.toArray.size = n * s := by
    have := congrArg List.length hz.abs
    rw [List.length_map, flat_len0 hs, hn] at this
    simpa using this
  obtain ⟨b1, b2⟩ := hb.push (w' := w.alloc (.cells zs.toArray ty)) (g := w.heap.size) (b := .rows rs n s ty) (Nat.le_refl _) rfl rfl rfl (by simp) (fun k hk => Below.heap_alloc w _ k hk) fun he =>
    ⟨zs.toArray, heap_alloc_new w _, by omega, hm, hlen, hs, fun k q hk => (zero_rep hz _ _).2 k q hk⟩
  unfold Oper.wp
  rw [hrun]
  exact hK _ _ _ _ ⟨w.heap.size, rfl, rfl⟩ .ptr b1 b2
theorem OpW.box_arr {rs : List (List A)} {n s : Nat} (ho : o.op = .box ty x) (hx : Wk (evA t x) (.agg rs.flatten)) (hs : ∀ r ∈ rs, r.length = s) (hn : rs.length = n) (hm : n ≤ maxLen) : OpW P o t bs fun y bs' => ∃ g, y = .ptr g 0 ∧ bs' = (g, .rows rs n s ty) :: bs := by
  intro a w h hb K Q hK
  have hr := op_rep h (x := x) (by simp [ho, Op.operands]) hx
  obtain ⟨l1, l2⟩ := hr.cells (.inr ⟨_, rfl⟩)
  have hrun : (execOp a.eval o).run P w = .ok (.value (.pointer (some ⟨w.heap.size, 0, none⟩))) (w.alloc (.cells (a.eval x).cells ty)) := by
    simp only [execOp, ho, Instr.box, Sem.run_bind, Result.andThen_ok, newVar, run_newRow, Sem.run_pure]
  obtain ⟨b1, b2⟩ := hb.push (w' := w.alloc (.cells (a.eval x).cells ty)) (g := w.heap.size) (b := .rows rs n s ty) (Nat.le_refl _) rfl rfl rfl (by simp) (fun k hk => Below.heap_alloc w _ k hk) fun he =>
    ⟨(a.eval x).cells, heap_alloc_new w _, by omega, hm, by rw [l1]; show rs.flatten.length = _; rw [flat_len0 hs, hn], hs, fun k q hk => ⟨(l2 k q hk).1.ext he, (l2 k q hk).2⟩⟩
  unfold Oper.wp
  rw [hrun]
  exact hK _ _ _ _ ⟨w.heap.size, rfl, rfl⟩ .ptr b1 b2
theorem OpW.store_arr {g n s : Nat} {e : TypeId} {rs rs' : List (List A)} {bs' : BS} [h1 : TI P ty d sz by_] (ho : o.op = .store ty x z) (hx : Wk (evA t x) (.ptr g 0)) (hz : Wk (evA t z) (.agg rs'.flatten)) (hm : (g, .rows rs n s e) ∈ bs) (hs : ∀ r ∈ rs', r.length = s) (hn : rs'.length = n) (hsz : n * s = sz)
    (hu : BUpd bs g (.rows rs n s e) g (.rows rs' n s e) bs') : OpW P o t bs fun u b => u = .junk ∧ b = bs' := by
  intro a w h hb K Q hK
  have e1 := (op_rep h (x := x) (by simp [ho, Op.operands]) hx).ptr_inv
  have hrp := op_rep h (x := z) (by simp [ho, Op.operands]) hz
  obtain ⟨l, hcell⟩ := hrp.cells (.inr ⟨_, rfl⟩)
  have l : (a.eval z).cells.size = n * s := by rw [l]; show rs'.flatten.length = _; rw [flat_len0 hs, hn]
  obtain ⟨arr, ha1, ha2, ha3, ha4, ha5, ha6⟩ := hb.get hm
  have hone : ∀ v ∈ (a.eval z).cells.toList, v.oneCell' = true := fun v hv => by
    obtain ⟨k, hk⟩ := List.mem_iff_getElem?.1 hv
    have hlt : k < rs'.flatten.length := by rw [flat_len0 hs, hn, ← l]; simpa using (List.getElem?_eq_some_iff.1 hk).1
    have := (hcell k _ (List.getElem?_eq_getElem hlt)).2
    rwa [getD_toList hk] at this
  have hcl : ∀ k, w.cell? ⟨g, k, none⟩ = arr[k]? := fun k => cell_of_row w g k arr e (0, 0) ha1
  have hrun : (execOp a.eval o).run P w = .ok .skip (w.setCells g 0 (a.eval z).cells.toList) := by
    simp only [execOp, ho, e1, Sem.run_bind, run_storeAt h1 (u := a.eval z) (w := w) (g := g) (p := 0) (by omega) (fun k hk => by rw [hcl, Array.getElem?_eq_getElem (by omega)]; rfl) (fun k _ => by simp [World.frozen?, ha1]) hone, Result.andThen_ok, Sem.run_pure]
  obtain ⟨q1, q2, q3, q4, q5⟩ := setCells_same g (a.eval z).cells.toList 0 w
  have hall : spl arr.toList 0 (a.eval z).cells.toList = (a.eval z).cells.toList := spl_all _ _ (by simp; omega)
  obtain ⟨b1, b2⟩ := hb.upd (w' := w.setCells g 0 (a.eval z).cells.toList) hu q1 q2 q3 (by omega) (.inl ⟨rfl, Nat.le_refl _⟩) (fun k _ hk => q5 k hk) (fun k hk => by simp [Blk.from_] at hk) fun he => by
    refine ⟨(spl arr.toList 0 (a.eval z).cells.toList).toArray, setCells_heap g e _ _ w arr ha1, by omega, ha3, by rw [hall]; simpa using l, hs, fun k q hk => ?_⟩
    rw [hall]
    have := hcell k q hk
    exact ⟨by simpa using this.1.ext he, by simpa using this.2⟩
  unfold Oper.wp
  rw [hrun]
  exact hK _ _ _ _ ⟨rfl, rfl⟩ .junk b1 b2
theorem OpQ.load_arr {g n s : Nat} {e : TypeId} {rs : List (List A)} [h1 : TI P ty d sz by_] (ho : o.op = .load ty x) (hx : Wk (evA t x) (.ptr g 0)) (hm : (g, .rows rs n s e) ∈ bs) (hn : rs.length = n) (hsz : n * s = sz) (hd : d.isRow = true) : OpQ P o t bs (.agg rs.flatten) :=
  .of_run fun a w h hb => by
    have e1 := (op_rep h (x := x) (by simp [ho, Op.operands]) hx).ptr_inv
    obtain ⟨arr, ha1, ha2, ha3, ha4, ha5, ha6⟩ := hb.get hm
    have hl : rs.flatten.length = arr.size := by rw [flat_len0 ha5, ha4, hn]
    refine ⟨.agg arr.toList.toArray, ?_, ?_⟩
    · simp only [execOp, ho, e1, Sem.run_bind, run_loadAt_row h1 hd (us := arr.toList) (by simp; omega) (fun j v hj => by rw [Nat.zero_add, cell_of_row w g j arr e (0, 0) ha1]; simpa using hj), Result.andThen_ok, Sem.run_pure]
    · rw [Array.toArray_toList]
      exact .agg hl.symm (fun k q hk => (ha6 k q hk).1) (fun k q hk => (ha6 k q hk).2)
/-- A place of an array. -/
theorem OpQ.idx_ar {α : Type} {R : α → List A} {v : List α} {q : α} {e e' : TypeId} {k : IntKind} {i : Int} {n g : Nat} {s1 b1 : Nat} {d2 : TypeDesc} {s2 b2 : Nat} [h1 : TI P ty (.array n e) s1 b1] [h2 : TI P e d2 s2 b2] (ho : o.op = .indexAddr ty x z) (hx : Wk (evA t x) (.ptr g 0)) (hz : Wk (evA t z) (.v (.int k i))) (h0 : 0 ≤ i) (hm : (g, .rows (v.map R) n s2 e') ∈ bs) (hv : v[i.toNat]? = some q) : OpQ P o t bs (.rp g s2 i.toNat 0) :=
  .of_run fun a w h hb => by
    have e1 := (op_rep h (x := x) (by simp [ho, Op.operands]) hx).ptr_inv
    have e2 := (op_rep h (x := z) (by simp [ho, Op.operands]) hz).val
    have hle : (v.map R).length ≤ n := blk_rows_le (hb.get hm)
    have hlt := (List.getElem?_eq_some_iff.1 hv).1
    have hin : i < (n : Int) := by rw [List.length_map] at hle; omega
    refine ⟨.pointer (some ⟨g, i.toNat * s2 + 0, none⟩), ?_, .rp⟩
    simp only [execOp, ho, e1, e2, Instr.indexAt, Instr.sureAddr, asIntOf, Sem.run_bind, Sem.run_pure, Result.andThen_ok, h1.run_und, h0, hin, and_self, if_true, h2.sizeOf_, Addr.add_mid, Nat.zero_add, Nat.add_zero]
/-- An item of an array's value. -/
theorem OpQ.item {α : Type} {R : α → List A} {l : List α} {q : α} {e : TypeId} {k : IntKind} {i : Int} {n : Nat} {s1 b1 : Nat} {d2 : TypeDesc} {b2 : Nat} [h1 : TI P ty (.array n e) s1 b1] [h2 : TI P e d2 1 b2] (ho : o.op = .index ty x z) (hx : Wk (evA t x) (.agg (arR R l))) (hz : Wk (evA t z) (.v (.int k i))) (h0 : 0 ≤ i) (hq : l[i.toNat]? = some q) (hn : l.length = n) (hd : d2.isRow = false) (hR : ∀ z, (R z).length = 1) (hy : R q = [y]) : OpQ P o t bs y :=
  .of_run fun a w h hb => by
    have hr := op_rep h (x := x) (by simp [ho, Op.operands]) hx
    have e2 := (op_rep h (x := z) (by simp [ho, Op.operands]) hz).val
    have hin : i < n := by have := (List.getElem?_eq_some_iff.1 hq).1; omega
    generalize hu : a.eval x = u at hr
    cases hr with
    | @agg us _ l1 hr h1' =>
      have hget : (arR R l)[i.toNat]? = some y := by
        have := flat_getA (rows := l.map R) (sz := 1) (fun r hr => by obtain ⟨q, _, rfl⟩ := List.mem_map.1 hr; exact hR q) i.toNat 0 (R q) y (by rw [List.getElem?_map, hq]; rfl) (by rw [hy]; rfl)
        simpa [arR] using this
      have hlt : i.toNat < us.size := by rw [l1]; exact (List.getElem?_eq_some_iff.1 hget).1
      have hv : us[i.toNat]? = some (us.getD i.toNat undef) := by simp [hlt]
      refine ⟨us.getD i.toNat undef, ?_, hr _ _ hget⟩
      simp only [execOp, ho, hu, e2, Instr.index, asIntOf, Sem.run_bind, Sem.run_pure, Result.andThen_ok, h1.run_und, h0, hin, and_self, if_true, h2.sizeOf_, Nat.mul_one, h2.part_one hd us i.toNat _ hv]
/-! ### texts of bytes -/
theorem OpW.to_bytes {e : TypeId} {s : ByteArray} {s1 b1 s2 b2 s3 b3 : Nat} [h1 : TI P ty .string s1 b1] [h2 : TI P ty2 (.slice e) s2 b2] [h3 : TI P e (.int .u8) s3 b3] (ho : o.op = .convert ty ty2 x) (hx : Wk (evA t x) (.v (.string s))) (hs : s.size ≤ 140737488355328) : OpW P o t bs fun y bs' => ∃ q, y = .gr q ((bytesOf s).map (kR .u8)) ∧ bs' = gB q (bytesOf s).length 1 e bs := by
  intro a w h hb K Q hK
  have e1 := (op_rep h (x := x) (by simp [ho, Op.operands]) hx).val
  have hrun := Lib.run_convert_string_bytes (P := P) w ty ty2 e s h1.und h2.und h3.und
  have hlen : (bytesOf s).length = s.size := by unfold bytesOf; simp
  have hcap := grownCap_le_maxLen (Lib.bytesWorld w e s) s.size 0 e (by unfold maxLen; omega)
  have hge : s.size ≤ grownCap w s.size 0 e := grownCap_ge _ _ _ _
  have hsz : (Lib.bytesCells w e s).size = grownCap w s.size 0 e := by
    unfold Lib.bytesCells
    have : s.data.size = s.size := rfl
    simp [this]; omega
  obtain ⟨b1', e1'⟩ := hb.push (w' := Lib.bytesWorld w e s) (g := w.heap.size) (b := .tip (bytesOf s).length (grownCap w s.size 0 e) 1 e) (Nat.le_refl _) (by unfold Lib.bytesWorld World.freeze; rw [if_neg (by decide)]; rfl) (by unfold Lib.bytesWorld World.freeze; rw [if_neg (by decide)]; rfl) (by unfold Lib.bytesWorld World.freeze; rw [if_neg (by decide)]; rfl) (by rw [Lib.bytesWorld_size]; omega) (Lib.bytesWorld_at_old w e s) fun he =>
    ⟨Lib.bytesCells w e s, _, Lib.bytesWorld_at_new w e s, by omega, grownCap_le_maxLen _ _ _ _ (by unfold maxLen; omega), by omega, fun k hk => by simp; omega⟩
  unfold Oper.wp
  rw [show (execOp a.eval o).run P w = .ok (.value (.slice (some ⟨w.heap.size, 0, none⟩) s.size (grownCap w s.size 0 e))) (Lib.bytesWorld w e s) by simp only [execOp, ho, e1, Sem.run_bind, hrun, Result.andThen_ok, Sem.run_pure]]
  refine hK _ _ _ _ ⟨some (w.heap.size, grownCap w s.size 0 e), rfl, rfl⟩ (.gr (.tip (Rep.new_row (Lib.bytesWorld_at_new w e s) (by rw [List.length_map, hlen]) hge (grownCap_le_maxLen _ _ _ _ (by unfold maxLen; omega)) (sz := 1) (fun r hr => by obtain ⟨b, _, rfl⟩ := List.mem_map.1 hr; rfl) (fun k q hk => ?_) (fun k hk z hz ez => ?_)))) b1' e1'
  · rw [bytesOf_rows, flat_bytes, List.getElem?_map, Option.map_eq_some_iff] at hk
    obtain ⟨b, hb2, rfl⟩ := hk
    have hlt : k < s.data.size := by simpa using (List.getElem?_eq_some_iff.1 hb2).1
    have hg : (Lib.bytesCells w e s)[k]? = some (.int .u8 b.toNat) := by
      unfold Lib.bytesCells
      rw [Array.getElem?_append_left (by simpa using hlt)]
      simp only [Array.getElem?_toList] at hb2
      simp [hb2]
    have hk2 : k < (Lib.bytesCells w e s).size := (Array.getElem?_eq_some_iff.1 hg).1
    rw [show (Lib.bytesCells w e s).getD k undef = .int .u8 b.toNat by simp [hg]]
    exact ⟨.v rfl, rfl, hk2⟩
  · rw [zones_cons] at hz
    rcases List.mem_cons.1 hz with rfl | hz
    · simp only [Blk.from_, hlen, Nat.mul_one]
      simpa using hk
    · have := zones_lt hb z hz; omega
theorem flat_u8 (l : List Int) : (l.map (kR .u8)).flatten = l.map fun b => A.v (.int .u8 b) := by
  induction l with
  | nil => rfl
  | cons b r ih => rw [List.map_cons, List.flatten_cons, ih]; rfl
theorem fold_bytesI : ∀ (l : List Int) (s : ByteArray), l.foldl (fun r n => r.push (UInt8.ofNat n.toNat)) s = ⟨s.data ++ (l.map fun n => UInt8.ofNat n.toNat).toArray⟩
  | [], s => by simp
  | b :: l, s => by
    rw [List.foldl_cons, fold_bytesI l]
    show (⟨s.data.push (UInt8.ofNat b.toNat) ++ _⟩ : ByteArray) = _
    congr 1
    simp
theorem OpQ.of_bytesI {e : TypeId} {l : List Int} {s1 b1 s2 b2 s3 b3 : Nat} [h1 : TI P ty (.slice e) s1 b1] [h2 : TI P ty2 .string s2 b2] [h3 : TI P e (.int .u8) s3 b3] (ho : o.op = .convert ty ty2 x) (hx : Wk (evA t x) (.sl (l.map (kR .u8)))) : OpQ P o t bs (.v (.string (txtOf l))) :=
  .of_run fun a w h hb => by
    have hflat := flat_u8 l
    obtain ⟨Ad, c, us, e1, hl, _, ha, hr⟩ := (op_rep h (x := x) (by simp [ho, Op.operands]) hx).sl_list (sz := 1) (fun r hr => by obtain ⟨b, _, rfl⟩ := List.mem_map.1 hr; rfl)
    rw [List.length_map] at e1 hl
    have hus : us = l.map fun b => Value.int .u8 b := by
      apply List.ext_getElem?
      intro k
      by_cases hk : k < l.length
      · have hx2 : ((l.map (kR .u8)).flatten)[k]? = some (.v (.int .u8 l[k])) := by rw [hflat]; simp [hk]
        have := (hr k _ hx2).val
        have hk2 : k < us.length := by omega
        rw [List.getElem?_eq_getElem hk2, List.getElem?_map, List.getElem?_eq_getElem hk]
        rw [List.getD_eq_getElem?_getD, List.getElem?_eq_getElem hk2] at this
        simpa using this
      · rw [List.getElem?_eq_none (by omega), List.getElem?_eq_none (by simp; omega)]
    refine ⟨_, ?_, .v rfl⟩
    rcases Nat.eq_zero_or_pos l.length with h0 | hp
    · have : l = [] := List.eq_nil_of_length_eq_zero h0
      subst this
      simp only [execOp, ho, e1, Sem.run_bind, run_convert_bytes_string w ty ty2 e Ad _ c h1.und h3.und h2.und]
      cases Ad with
      | none => simp [Conv.bytesToString]; rfl
      | some ad => rw [List.length_nil, run_bytesToString w ad 0 c [] (by simp [loadCells, loadCellsFrom])]; rfl
    · obtain ⟨g, p, rfl, hc⟩ := ha (by simpa using hp)
      have hld := run_loadCells_list (P := P) w ⟨g, p, none⟩ us (fun j v hj => by rw [Addr.add_mid]; exact hc j v hj)
      rw [hus] at hld
      simp only [List.length_map] at hld
      have := run_bytesToString (P := P) w ⟨g, p, none⟩ l.length c l (by rw [hld])
      rw [fold_bytesI] at this
      simp only [execOp, ho, e1, Sem.run_bind, run_convert_bytes_string w ty ty2 e _ _ c h1.und h3.und h2.und, this, Result.andThen_ok, Sem.run_pure]
      simp [ByteArray.empty, ByteArray.emptyWithCapacity, txtOf]
      rfl
end
end Go.Proofs.YtnkkfmnpkgjabaaGreat.X
