/- UserSpreads returns true for every input and leaves its arguments as they were. No condition. -/
import Derived.Test.YtheggklmkgffaaaUserG
import Derived.Test.YtheggklmkgffaaaUserD
namespace Go.Proofs.Ytheggklmkgffaaa
open Go.ChangeShapes Go.WideShapes Go.ChangeAt Go.RowKit Go.Lk Go.Proofs.UserLaw

set_option maxRecDepth 100000 in
theorem userSpreads_lifted (os : Os) (started : os.Started) (H : Type) (enc : TypeId × Value → H) :
    ReturnsInHanded {} Try.checked os 8 .any (Rows.userSpreadsSpec.pre6 enc Try.prog Try.f8 Rows.userSpreadsRow.domain false) (Rows.userSpreadsSpec.post enc Try.prog Try.f8 false true false false) := by
  refine returnsInHanded_of_change (C := Try.checked) own started (by kernel_rfl) Try.func8
    (ChangeSpec.witness6 (enc := enc) (C := Try.checked) false ⟨#[], #[.agg #[.int .u64 0, .int .i64 0, .int .i64 0], .int .i64 0, .slice none 0 0], []⟩ 8 (by kernel_rfl) (by kernel_rfl) (by kernel_rfl) (by kernel_rfl)) ?_
  intro W base args ds gs before hval0 hW _ _
  have hval : ∀ (j : Nat) t v, Try.f8.params[j]? = some t → args[j]? = some v → Value.okWide Try.prog W .any base t v := hval0
  have hW' := hW
  obtain ⟨p, q, hA, hV, rfl, hfz, hnd⟩ := hW
  rw [Try.params8] at hval
  have hA1 : DataW.TrodAll enc Try.prog W 0 (fun _ => true) true #[36, 3, 29].toList args.toList ds p := by rw [← Try.params8]; exact hA
  obtain ⟨v0, v1, v2, d0, d1, d2, p0, p1, p2, rfl, rfl, rfl, h0, h1, h2⟩ := trodAll_three hA1
  obtain ⟨rfl, rfl⟩ := trodVars_none hV
  obtain ⟨key, cl, ro, rfl, hk⟩ := open_of (hval 0 36 v0 rfl rfl) h0
  obtain ⟨now, rfl, rfl, rfl, wn⟩ := open_int Try.underlying3 (hval 1 3 v1 rfl rfl) h1
  obtain ⟨A, c, zs, rfl, hsl, hwf, hlen⟩ := open_islice Try.underlying29 Try.underlying22 (by kernel_rfl) (hval 2 29 v2 rfl rfl) h2
  obtain ⟨ys, rfl, hys⟩ := u64_list hwf
  have hlen2 : ((ys.map fun y : Nat => (y : Int)).length) ≤ 9223372036854775807 := by unfold maxLen at hlen; exact hlen
  have hsl2 : Sl W W.heap.size A (u64s ys) := by rw [List.map_map] at hsl; exact hsl
  refine (spreads9Walk key cl ro now A c ys _ (by simp) hlen2 hys W hsl2).mono fun e W' ⟨he, hb⟩ => ?_
  subst he
  exact ⟨_, rfl, law_post laid (by kernel_rfl) rfl rfl Try.underlying4 hW' rfl hb⟩

theorem userSpreads_proved : Rows.UserSpreadsSaid :=
  OpenClaim.holds_of_wide 8 Try.f8 rfl rfl rfl rfl rfl rfl rfl ⟨rfl, rfl, rfl, rfl, rfl⟩ rfl rfl rfl rfl rfl (by kernel_rfl) Try.func8 (by kernel_rfl)
    (of_decide_eq_true (by kernel_rfl)) (by unfold Func.isWrapper; first | (rw [if_pos (by decide +kernel)]; kernel_rfl) | (rw [if_neg (by decide +kernel)]; exact ⟨rfl, rfl⟩))
    (fun os started H enc _ => userSpreads_lifted os started H enc)
#print axioms userSpreads_proved
end Go.Proofs.Ytheggklmkgffaaa
