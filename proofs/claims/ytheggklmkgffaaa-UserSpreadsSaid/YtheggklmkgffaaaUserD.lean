/- UserClasses returns true for every input and leaves its arguments as they were. No condition. -/
import Derived.Test.YtheggklmkgffaaaUserC
import Derived.Lib.SmallJoins
namespace Go.Proofs.Ytheggklmkgffaaa
open Go.ChangeShapes Go.WideShapes Go.ChangeAt Go.RowKit Go.Lk Go.Proofs.UserLaw


section
variable {H : Type} {enc : TypeId × Value → H} {W : World} {sp : Nat → Bool} {r : Reach} {base : Nat}
theorem open_of {v : Value} {d : DataW H} {p : List MemPlace} (hv : Value.okWide Try.prog W r base 36 v) (h : DataW.Trod enc Try.prog W 0 sp true 36 v d p) :
    ∃ (key : Nat) (cl ro : Int), v = .agg #[.int .u64 (key : Int), .int .i64 cl, .int .i64 ro] ∧ key < 18446744073709551616 := by
  obtain ⟨v0, v1, v2, y0, y1, y2, n, rfl, _, _, g0, g1, g2⟩ := Go.Joins.open_agg3 Try.underlying36 (by kernel_rfl) (by kernel_rfl) hv h
  obtain ⟨a, e0, _, wa⟩ := DataW.trod_int Try.underlying22 g0
  obtain ⟨b, e1, _, _⟩ := DataW.trod_int Try.underlying3 g1
  obtain ⟨c, e2, _, _⟩ := DataW.trod_int Try.underlying3 g2
  simp at e0 e1 e2
  subst e0 e1 e2
  obtain ⟨k, rfl, hk⟩ := u64_nat wa
  exact ⟨k, b, c, rfl, hk⟩
end

theorem classes9Walk (key id : Nat) (cl ro now : Int) (hid : id < 18446744073709551616) (w : World) :
    Calls Try.prog 6 #[users key cl ro, .int .u64 (id : Int), .int .i64 now] w fun e w' => e = .returned (.bool true) ∧ Below w.heap.size w w' := by
  by_cases h : 1 ≤ cl ∧ cl ≤ 16 ∧ 1 ≤ ro ∧ ro ≤ 1099511627776
  · exact classes9Good key id cl ro now h.1 h.2.1 h.2.2.1 h.2.2.2 hid w
  · exact classes9Bad key id cl ro now h hid w

set_option maxRecDepth 100000 in
theorem userClasses_lifted (os : Os) (started : os.Started) (H : Type) (enc : TypeId × Value → H) :
    ReturnsInHanded {} Try.checked os 6 .any (Rows.userClassesSpec.pre6 enc Try.prog Try.f6 Rows.userClassesRow.domain false) (Rows.userClassesSpec.post enc Try.prog Try.f6 false true false false) := by
  refine returnsInHanded_of_change (C := Try.checked) own started (by kernel_rfl) Try.func6
    (ChangeSpec.witness6 (enc := enc) (C := Try.checked) false ⟨#[], #[.agg #[.int .u64 0, .int .i64 0, .int .i64 0], .int .u64 0, .int .i64 0], []⟩ 8 (by kernel_rfl) (by kernel_rfl) (by kernel_rfl) (by kernel_rfl)) ?_
  intro W base args ds gs before hval0 hW _ _
  have hval : ∀ (j : Nat) t v, Try.f6.params[j]? = some t → args[j]? = some v → Value.okWide Try.prog W .any base t v := hval0
  have hW' := hW
  obtain ⟨p, q, hA, hV, rfl, hfz, hnd⟩ := hW
  rw [Try.params6] at hval
  have hA1 : DataW.TrodAll enc Try.prog W 0 (fun _ => true) true #[36, 22, 3].toList args.toList ds p := by rw [← Try.params6]; exact hA
  obtain ⟨v0, v1, v2, d0, d1, d2, p0, p1, p2, rfl, rfl, rfl, h0, h1, h2⟩ := trodAll_three hA1
  obtain ⟨rfl, rfl⟩ := trodVars_none hV
  obtain ⟨key, cl, ro, rfl, hk⟩ := open_of (hval 0 36 v0 rfl rfl) h0
  obtain ⟨id, rfl, hid⟩ := open_u64 (hval 1 22 v1 rfl rfl) h1
  obtain ⟨now, rfl, rfl, rfl, wn⟩ := open_int Try.underlying3 (hval 2 3 v2 rfl rfl) h2
  refine (classes9Walk key id cl ro now hid W).mono fun e W' ⟨he, hb⟩ => ?_
  subst he
  exact ⟨_, rfl, law_post laid (by kernel_rfl) rfl rfl Try.underlying4 hW' rfl hb⟩

theorem userClasses_proved : Rows.UserClassesSaid :=
  OpenClaim.holds_of_wide 6 Try.f6 rfl rfl rfl rfl rfl rfl rfl ⟨rfl, rfl, rfl, rfl, rfl⟩ rfl rfl rfl rfl rfl (by kernel_rfl) Try.func6 (by kernel_rfl)
    (of_decide_eq_true (by kernel_rfl)) (by unfold Func.isWrapper; first | (rw [if_pos (by decide +kernel)]; kernel_rfl) | (rw [if_neg (by decide +kernel)]; exact ⟨rfl, rfl⟩))
    (fun os started H enc _ => userClasses_lifted os started H enc)
#print axioms userClasses_proved
end Go.Proofs.Ytheggklmkgffaaa
