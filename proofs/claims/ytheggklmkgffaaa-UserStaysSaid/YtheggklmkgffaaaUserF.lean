/- UserStays returns true for every input and leaves its arguments as they were. No condition. -/
import Derived.Test.YtheggklmkgffaaaUserE
import Derived.Test.YtheggklmkgffaaaUserD
namespace Go.Proofs.Ytheggklmkgffaaa
open Go.ChangeShapes Go.WideShapes Go.ChangeAt Go.RowKit Go.Lk Go.Proofs.UserLaw

theorem stays9Walk (key id : Nat) (cl ro n0 n1 : Int) (hid : id < 18446744073709551616) (w : World) :
    Calls Try.prog 7 #[users key cl ro, .int .u64 (id : Int), .agg #[.int .i64 n0, .int .i64 n1]] w fun e w' => e = .returned (.bool true) ∧ Below w.heap.size w w' := by
  by_cases h : 1 ≤ cl ∧ cl ≤ 16 ∧ 1 ≤ ro ∧ ro ≤ 1099511627776
  · exact stays9Good key id cl ro n0 n1 h.1 h.2.1 h.2.2.1 h.2.2.2 hid w
  · exact stays9Bad key id cl ro n0 n1 h w

set_option maxRecDepth 100000 in
theorem userStays_lifted (os : Os) (started : os.Started) (H : Type) (enc : TypeId × Value → H) :
    ReturnsInHanded {} Try.checked os 7 .any (Rows.userStaysSpec.pre6 enc Try.prog Try.f7 Rows.userStaysRow.domain false) (Rows.userStaysSpec.post enc Try.prog Try.f7 false true false false) := by
  refine returnsInHanded_of_change (C := Try.checked) own started (by kernel_rfl) Try.func7
    (ChangeSpec.witness6 (enc := enc) (C := Try.checked) false ⟨#[], #[.agg #[.int .u64 0, .int .i64 0, .int .i64 0], .int .u64 0, .agg #[.int .i64 0, .int .i64 0]], []⟩ 8 (by kernel_rfl) (by kernel_rfl) (by kernel_rfl) (by kernel_rfl)) ?_
  intro W base args ds gs before hval0 hW _ _
  have hval : ∀ (j : Nat) t v, Try.f7.params[j]? = some t → args[j]? = some v → Value.okWide Try.prog W .any base t v := hval0
  have hW' := hW
  obtain ⟨p, q, hA, hV, rfl, hfz, hnd⟩ := hW
  rw [Try.params7] at hval
  have hA1 : DataW.TrodAll enc Try.prog W 0 (fun _ => true) true #[36, 22, 49].toList args.toList ds p := by rw [← Try.params7]; exact hA
  obtain ⟨v0, v1, v2, d0, d1, d2, p0, p1, p2, rfl, rfl, rfl, h0, h1, h2⟩ := trodAll_three hA1
  obtain ⟨rfl, rfl⟩ := trodVars_none hV
  obtain ⟨key, cl, ro, rfl, hk⟩ := open_of (hval 0 36 v0 rfl rfl) h0
  obtain ⟨id, rfl, hid⟩ := open_u64 (hval 1 22 v1 rfl rfl) h1
  obtain ⟨n0, n1, rfl, w0, w1⟩ := open_arr2 Try.underlying49 Try.underlying3 (by kernel_rfl) (by kernel_rfl) (hval 2 49 v2 rfl rfl) h2
  refine (stays9Walk key id cl ro n0 n1 hid W).mono fun e W' ⟨he, hb⟩ => ?_
  subst he
  exact ⟨_, rfl, law_post laid (by kernel_rfl) rfl rfl Try.underlying4 hW' rfl hb⟩

theorem userStays_proved : Rows.UserStaysSaid :=
  OpenClaim.holds_of_wide 7 Try.f7 rfl rfl rfl rfl rfl rfl rfl ⟨rfl, rfl, rfl, rfl, rfl⟩ rfl rfl rfl rfl rfl (by kernel_rfl) Try.func7 (by kernel_rfl)
    (of_decide_eq_true (by kernel_rfl)) (by unfold Func.isWrapper; first | (rw [if_pos (by decide +kernel)]; kernel_rfl) | (rw [if_neg (by decide +kernel)]; exact ⟨rfl, rfl⟩))
    (fun os started H enc _ => userStays_lifted os started H enc)
#print axioms userStays_proved
end Go.Proofs.Ytheggklmkgffaaa
