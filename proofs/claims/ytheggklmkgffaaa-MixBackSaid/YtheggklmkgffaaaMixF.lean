/- MixPairs, MixBack and MixClasses return true for every input and leave their arguments as they were. No condition. -/
import Derived.Test.YtheggklmkgffaaaMixE
namespace Go.Proofs.Ytheggklmkgffaaa
open Go.ChangeShapes Go.WideShapes Go.ChangeAt Go.RowKit Go.Proofs.MixLaw Go.Lk

set_option maxRecDepth 100000 in
theorem mixPairs_lifted (os : Os) (started : os.Started) (H : Type) (enc : TypeId × Value → H) :
    ReturnsInHanded {} Try.checked os 3 .any (Rows.mixPairsSpec.pre6 enc Try.prog Try.f3 Rows.mixPairsRow.domain false) (Rows.mixPairsSpec.post enc Try.prog Try.f3 false true false false) := by
  refine returnsInHanded_of_change (C := Try.checked) own started (by kernel_rfl) Try.func3
    (ChangeSpec.witness6 (enc := enc) (C := Try.checked) false ⟨#[], #[.int .u64 0, .int .u64 0, .int .u64 0], []⟩ 8 (by kernel_rfl) (by kernel_rfl) (by kernel_rfl) (by kernel_rfl)) ?_
  intro W base args ds gs before hval0 hW _ _
  have hval : ∀ (j : Nat) t v, Try.f3.params[j]? = some t → args[j]? = some v → Value.okWide Try.prog W .any base t v := hval0
  have hW' := hW
  obtain ⟨p, q, hA, hV, rfl, hfz, hnd⟩ := hW
  rw [Try.params3] at hval
  have hA1 : DataW.TrodAll enc Try.prog W 0 (fun _ => true) true #[22, 22, 22].toList args.toList ds p := by rw [← Try.params3]; exact hA
  obtain ⟨v0, v1, v2, d0, d1, d2, p0, p1, p2, rfl, rfl, rfl, h0, h1, h2⟩ := trodAll_three hA1
  obtain ⟨rfl, rfl⟩ := trodVars_none hV
  obtain ⟨key, rfl, hk⟩ := open_u64 (hval 0 22 v0 rfl rfl) h0
  obtain ⟨x, rfl, hx⟩ := open_u64 (hval 1 22 v1 rfl rfl) h1
  obtain ⟨y, rfl, hy⟩ := open_u64 (hval 2 22 v2 rfl rfl) h2
  refine (pairsWalk key x y hx hy W).mono fun e W' ⟨he, hb⟩ => ?_
  subst he
  exact ⟨_, rfl, law_post laid (by kernel_rfl) rfl rfl Try.underlying4 hW' rfl hb⟩

theorem mixPairs_proved : Rows.MixPairsSaid :=
  OpenClaim.holds_of_wide 3 Try.f3 rfl rfl rfl rfl rfl rfl rfl ⟨rfl, rfl, rfl, rfl, rfl⟩ rfl rfl rfl rfl rfl (by kernel_rfl) Try.func3 (by kernel_rfl)
    (of_decide_eq_true (by kernel_rfl)) (by unfold Func.isWrapper; first | (rw [if_pos (by decide +kernel)]; kernel_rfl) | (rw [if_neg (by decide +kernel)]; exact ⟨rfl, rfl⟩))
    (fun os started H enc _ => mixPairs_lifted os started H enc)
#print axioms mixPairs_proved

set_option maxRecDepth 100000 in
theorem mixBack_lifted (os : Os) (started : os.Started) (H : Type) (enc : TypeId × Value → H) :
    ReturnsInHanded {} Try.checked os 5 .any (Rows.mixBackSpec.pre6 enc Try.prog Try.f5 Rows.mixBackRow.domain false) (Rows.mixBackSpec.post enc Try.prog Try.f5 false true false false) := by
  refine returnsInHanded_of_change (C := Try.checked) own started (by kernel_rfl) Try.func5
    (ChangeSpec.witness6 (enc := enc) (C := Try.checked) false ⟨#[], #[.int .u64 0, .int .u64 0, .int .u64 0], []⟩ 8 (by kernel_rfl) (by kernel_rfl) (by kernel_rfl) (by kernel_rfl)) ?_
  intro W base args ds gs before hval0 hW _ _
  have hval : ∀ (j : Nat) t v, Try.f5.params[j]? = some t → args[j]? = some v → Value.okWide Try.prog W .any base t v := hval0
  have hW' := hW
  obtain ⟨p, q, hA, hV, rfl, hfz, hnd⟩ := hW
  rw [Try.params5] at hval
  have hA1 : DataW.TrodAll enc Try.prog W 0 (fun _ => true) true #[22, 22, 22].toList args.toList ds p := by rw [← Try.params5]; exact hA
  obtain ⟨v0, v1, v2, d0, d1, d2, p0, p1, p2, rfl, rfl, rfl, h0, h1, h2⟩ := trodAll_three hA1
  obtain ⟨rfl, rfl⟩ := trodVars_none hV
  obtain ⟨key, rfl, hk⟩ := open_u64 (hval 0 22 v0 rfl rfl) h0
  obtain ⟨x, rfl, hx⟩ := open_u64 (hval 1 22 v1 rfl rfl) h1
  obtain ⟨y, rfl, hy⟩ := open_u64 (hval 2 22 v2 rfl rfl) h2
  refine (backWalk key x y hx hy W).mono fun e W' ⟨he, hb⟩ => ?_
  subst he
  exact ⟨_, rfl, law_post laid (by kernel_rfl) rfl rfl Try.underlying4 hW' rfl hb⟩

theorem mixBack_proved : Rows.MixBackSaid :=
  OpenClaim.holds_of_wide 5 Try.f5 rfl rfl rfl rfl rfl rfl rfl ⟨rfl, rfl, rfl, rfl, rfl⟩ rfl rfl rfl rfl rfl (by kernel_rfl) Try.func5 (by kernel_rfl)
    (of_decide_eq_true (by kernel_rfl)) (by unfold Func.isWrapper; first | (rw [if_pos (by decide +kernel)]; kernel_rfl) | (rw [if_neg (by decide +kernel)]; exact ⟨rfl, rfl⟩))
    (fun os started H enc _ => mixBack_lifted os started H enc)
#print axioms mixBack_proved

set_option maxRecDepth 100000 in
theorem mixClasses_lifted (os : Os) (started : os.Started) (H : Type) (enc : TypeId × Value → H) :
    ReturnsInHanded {} Try.checked os 4 .any (Rows.mixClassesSpec.pre6 enc Try.prog Try.f4 Rows.mixClassesRow.domain false) (Rows.mixClassesSpec.post enc Try.prog Try.f4 false true false false) := by
  refine returnsInHanded_of_change (C := Try.checked) own started (by kernel_rfl) Try.func4
    (ChangeSpec.witness6 (enc := enc) (C := Try.checked) false ⟨#[], #[.agg #[.int .u64 0, .int .u64 0], .int .i64 0, .slice none 0 0], []⟩ 8 (by kernel_rfl) (by kernel_rfl) (by kernel_rfl) (by kernel_rfl)) ?_
  intro W base args ds gs before hval0 hW _ _
  have hval : ∀ (j : Nat) t v, Try.f4.params[j]? = some t → args[j]? = some v → Value.okWide Try.prog W .any base t v := hval0
  have hW' := hW
  obtain ⟨p, q, hA, hV, rfl, hfz, hnd⟩ := hW
  rw [Try.params4] at hval
  have hA1 : DataW.TrodAll enc Try.prog W 0 (fun _ => true) true #[28, 3, 29].toList args.toList ds p := by rw [← Try.params4]; exact hA
  obtain ⟨v0, v1, v2, d0, d1, d2, p0, p1, p2, rfl, rfl, rfl, h0, h1, h2⟩ := trodAll_three hA1
  obtain ⟨rfl, rfl⟩ := trodVars_none hV
  obtain ⟨a0, a1, rfl, w0, w1⟩ := open_arr2 Try.underlying28 Try.underlying22 (by kernel_rfl) (by kernel_rfl) (hval 0 28 v0 rfl rfl) h0
  obtain ⟨k0, rfl, hk0⟩ := u64_nat w0
  obtain ⟨k1, rfl, hk1⟩ := u64_nat w1
  obtain ⟨n, rfl, rfl, rfl, wn⟩ := open_int Try.underlying3 (hval 1 3 v1 rfl rfl) h1
  have hn := wf_i64 wn
  obtain ⟨A, c, zs, rfl, hS, hwf, hm⟩ := open_islice Try.underlying29 Try.underlying22 (by kernel_rfl) (hval 2 29 v2 rfl rfl) h2
  obtain ⟨ys, rfl, hys⟩ := u64_list hwf
  rw [List.map_map] at hS
  unfold maxLen at hm
  refine (classesWalk k0 k1 n A c ys _ (by simp) hk0 hk1 hys hn.2 hn.1 hm W hS).mono fun e W' ⟨he, hb⟩ => ?_
  subst he
  exact ⟨_, rfl, law_post laid (by kernel_rfl) rfl rfl Try.underlying4 hW' rfl hb⟩

theorem mixClasses_proved : Rows.MixClassesSaid :=
  OpenClaim.holds_of_wide 4 Try.f4 rfl rfl rfl rfl rfl rfl rfl ⟨rfl, rfl, rfl, rfl, rfl⟩ rfl rfl rfl rfl rfl (by kernel_rfl) Try.func4 (by kernel_rfl)
    (of_decide_eq_true (by kernel_rfl)) (by unfold Func.isWrapper; first | (rw [if_pos (by decide +kernel)]; kernel_rfl) | (rw [if_neg (by decide +kernel)]; exact ⟨rfl, rfl⟩))
    (fun os started H enc _ => mixClasses_lifted os started H enc)
#print axioms mixClasses_proved
end Go.Proofs.Ytheggklmkgffaaa
