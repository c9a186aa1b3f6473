/- SeenOnce, SeenPlays and SeenNobody return true for every input and leave their arguments as they were. No condition. -/
import Derived.Test.YtmnjgodelnjbkaaSeenG
import Derived.Test.YtmnjgodelnjbkaaSeenH
import Derived.Test.YtmnjgodelnjbkaaOpen
namespace Go.Proofs.Ytmnjgodelnjbkaa
open Go.ChangeShapes Go.WideShapes Go.ChangeAt Go.RowKit Go.Lk Go.Proofs.SeenLaw

theorem own : ownKnob Try.prog.godebug = none := by kernel_rfl
theorem laid : laidOutB Try.prog = true := by kernel_rfl

section
variable {H : Type} {enc : TypeId × Value → H} {W : World} {sp : Nat → Bool}
theorem act_row {r : List Value} (hl : r.length = 2) {n : Nat} {y : DataW H × List MemPlace} (h : DataW.trod enc Try.prog W 0 sp true n 32 r = some y) : ∃ a b : Int, r = [.int .i64 a, .int .i64 b] := by
  match r, hl with
  | [c0, c1], _ =>
    obtain ⟨xs, m, _, _, _, hlen, hg⟩ := DataW.trod_struct Try.underlying32 h
    have hc3 : Try.prog.cellsOf 3 = 1 := by kernel_rfl
    have g0 : DataW.trod enc Try.prog W 0 sp true m 3 (([c0, c1].drop 0).take (Try.prog.cellsOf 3)) = xs[0]? := hg 0 _ rfl
    have g1 : DataW.trod enc Try.prog W 0 sp true m 3 (([c0, c1].drop 1).take (Try.prog.cellsOf 3)) = xs[1]? := hg 1 _ rfl
    rw [hc3] at g0 g1
    match xs, hlen with
    | [y0, y1], _ =>
      obtain ⟨a, e0, _, _⟩ := DataW.trod_int Try.underlying3 g0
      obtain ⟨b, e1, _, _⟩ := DataW.trod_int Try.underlying3 g1
      simp at e0 e1
      exact ⟨a, b, by rw [e0, e1]⟩
theorem act_rows : ∀ R : List (List Value), (∀ r ∈ R, r.length = 2 ∧ ∃ n y, DataW.trod enc Try.prog W 0 sp true n 32 r = some y) → ∃ acts : List (Int × Int), R.flatten = actCells acts ∧ acts.length = R.length
  | [], _ => ⟨[], rfl, rfl⟩
  | r :: R, h => by
    obtain ⟨hl, n, y, hy⟩ := h r (by simp)
    obtain ⟨a, b, rfl⟩ := act_row hl hy
    obtain ⟨acts, h1, h2⟩ := act_rows R (fun r' hr' => h r' (by simp [hr']))
    exact ⟨(a, b) :: acts, by simp [actCells, h1], by simp [h2]⟩
theorem wf_u8 {n : Int} (h : (Lit.int .u8 n).wf = true) : ∃ k : Nat, n = (k : Int) ∧ k ≤ 255 := by
  have hb : 0 ≤ n ∧ n ≤ 255 := by
    simp [Lit.wf, IntKind.min, IntKind.max, IntKind.signed, IntKind.bits] at h
    omega
  obtain ⟨k, rfl⟩ := Int.eq_ofNat_of_zero_le hb.1
  exact ⟨k, rfl, by omega⟩
end

set_option maxRecDepth 100000 in
theorem seenOnce_lifted (os : Os) (started : os.Started) (H : Type) (enc : TypeId × Value → H) :
    ReturnsInHanded {} Try.checked os 3 .any (Rows.seenOnceSpec.pre6 enc Try.prog Try.f3 Rows.seenOnceRow.domain false) (Rows.seenOnceSpec.post enc Try.prog Try.f3 false true false false) := by
  refine returnsInHanded_of_change (C := Try.checked) own started (by kernel_rfl) Try.func3
    (ChangeSpec.witness6 (enc := enc) (C := Try.checked) false ⟨#[], #[.int .u8 0, .slice none 0 0], []⟩ 8 (by kernel_rfl) (by kernel_rfl) (by kernel_rfl) (by kernel_rfl)) ?_
  intro W base args ds gs before hval0 hW _ _
  have hval : ∀ (j : Nat) t v, Try.f3.params[j]? = some t → args[j]? = some v → Value.okWide Try.prog W .any base t v := hval0
  have hW' := hW
  obtain ⟨p, q, hA, hV, rfl, hfz, hnd⟩ := hW
  rw [Try.params3] at hval
  have hA1 : DataW.TrodAll enc Try.prog W 0 (fun _ => true) true #[5, 22].toList args.toList ds p := by rw [← Try.params3]; exact hA
  obtain ⟨v0, v1, d0, d1, p0, p1, rfl, rfl, rfl, h0, h1⟩ := trodAll_two hA1
  obtain ⟨rfl, rfl⟩ := trodVars_none hV
  obtain ⟨m0, rfl, rfl, rfl, wm⟩ := open_int Try.underlying5 (hval 0 5 v0 rfl rfl) h0
  obtain ⟨most, rfl, hmo⟩ := wf_u8 wm
  obtain ⟨A, c, zs, rfl, hS, hwf, hm⟩ := open_islice Try.underlying22 Try.underlying3 (by kernel_rfl) (hval 1 22 v1 rfl rfl) h1
  unfold maxLen at hm
  refine (onceWalk most hmo A c zs _ rfl hm W hS).mono fun e W' ⟨he, hb⟩ => ?_
  subst he
  exact ⟨_, rfl, law_post laid (by kernel_rfl) rfl rfl Try.underlying4 hW' rfl hb⟩

theorem seenOnce_proved : Rows.SeenOnceSaid :=
  OpenClaim.holds_of_wide 3 Try.f3 rfl rfl rfl rfl rfl rfl rfl ⟨rfl, rfl, rfl, rfl, rfl⟩ rfl rfl rfl rfl rfl (by kernel_rfl) Try.func3 (by kernel_rfl)
    (of_decide_eq_true (by kernel_rfl)) (by unfold Func.isWrapper; first | (rw [if_pos (by decide +kernel)]; kernel_rfl) | (rw [if_neg (by decide +kernel)]; exact ⟨rfl, rfl⟩))
    (fun os started H enc _ => seenOnce_lifted os started H enc)
#print axioms seenOnce_proved

set_option maxRecDepth 100000 in
theorem seenPlays_lifted (os : Os) (started : os.Started) (H : Type) (enc : TypeId × Value → H) :
    ReturnsInHanded {} Try.checked os 4 .any (Rows.seenPlaysSpec.pre6 enc Try.prog Try.f4 Rows.seenPlaysRow.domain false) (Rows.seenPlaysSpec.post enc Try.prog Try.f4 false true false false) := by
  refine returnsInHanded_of_change (C := Try.checked) own started (by kernel_rfl) Try.func4
    (ChangeSpec.witness6 (enc := enc) (C := Try.checked) false ⟨#[], #[.int .i64 0, .slice none 0 0], []⟩ 8 (by kernel_rfl) (by kernel_rfl) (by kernel_rfl) (by kernel_rfl)) ?_
  intro W base args ds gs before hval0 hW _ _
  have hval : ∀ (j : Nat) t v, Try.f4.params[j]? = some t → args[j]? = some v → Value.okWide Try.prog W .any base t v := hval0
  have hW' := hW
  obtain ⟨p, q, hA, hV, rfl, hfz, hnd⟩ := hW
  rw [Try.params4] at hval
  have hA1 : DataW.TrodAll enc Try.prog W 0 (fun _ => true) true #[3, 30].toList args.toList ds p := by rw [← Try.params4]; exact hA
  obtain ⟨v0, v1, d0, d1, p0, p1, rfl, rfl, rfl, h0, h1⟩ := trodAll_two hA1
  obtain ⟨rfl, rfl⟩ := trodVars_none hV
  obtain ⟨most, rfl, rfl, rfl, wm⟩ := open_int Try.underlying3 (hval 0 3 v0 rfl rfl) h0
  obtain ⟨A, c, R, rfl, hS, hR, hm⟩ := open_rows (K := 2) Try.underlying30 (by kernel_rfl) (by omega) (hval 1 30 v1 rfl rfl) h1
  obtain ⟨acts, hacts, hal⟩ := act_rows R hR
  rw [hacts] at hS
  unfold maxLen at hm
  refine (playsWalk most A c acts _ hal hm W hS).mono fun e W' ⟨he, hb⟩ => ?_
  subst he
  exact ⟨_, rfl, law_post laid (by kernel_rfl) rfl rfl Try.underlying4 hW' rfl hb⟩

theorem seenPlays_proved : Rows.SeenPlaysSaid :=
  OpenClaim.holds_of_wide 4 Try.f4 rfl rfl rfl rfl rfl rfl rfl ⟨rfl, rfl, rfl, rfl, rfl⟩ rfl rfl rfl rfl rfl (by kernel_rfl) Try.func4 (by kernel_rfl)
    (of_decide_eq_true (by kernel_rfl)) (by unfold Func.isWrapper; first | (rw [if_pos (by decide +kernel)]; kernel_rfl) | (rw [if_neg (by decide +kernel)]; exact ⟨rfl, rfl⟩))
    (fun os started H enc _ => seenPlays_lifted os started H enc)
#print axioms seenPlays_proved

set_option maxRecDepth 100000 in
theorem seenNobody_lifted (os : Os) (started : os.Started) (H : Type) (enc : TypeId × Value → H) :
    ReturnsInHanded {} Try.checked os 5 .any (Rows.seenNobodySpec.pre6 enc Try.prog Try.f5 Rows.seenNobodyRow.domain false) (Rows.seenNobodySpec.post enc Try.prog Try.f5 false true false false) := by
  refine returnsInHanded_of_change (C := Try.checked) own started (by kernel_rfl) Try.func5
    (ChangeSpec.witness6 (enc := enc) (C := Try.checked) false ⟨#[], #[.int .i64 0], []⟩ 8 (by kernel_rfl) (by kernel_rfl) (by kernel_rfl) (by kernel_rfl)) ?_
  intro W base args ds gs before hval0 hW _ _
  have hval : ∀ (j : Nat) t v, Try.f5.params[j]? = some t → args[j]? = some v → Value.okWide Try.prog W .any base t v := hval0
  have hW' := hW
  obtain ⟨p, q, hA, hV, rfl, hfz, hnd⟩ := hW
  rw [Try.params5] at hval
  have hA1 : DataW.TrodAll enc Try.prog W 0 (fun _ => true) true #[3].toList args.toList ds p := by rw [← Try.params5]; exact hA
  obtain ⟨v0, d0, rfl, rfl, h0⟩ := trodAll_one hA1
  obtain ⟨rfl, rfl⟩ := trodVars_none hV
  obtain ⟨id, rfl, rfl, rfl, wm⟩ := open_int Try.underlying3 (hval 0 3 v0 rfl rfl) h0
  refine (nobodyWalk id W).mono fun e W' ⟨he, hb⟩ => ?_
  subst he
  exact ⟨_, rfl, law_post laid (by kernel_rfl) rfl rfl Try.underlying4 hW' rfl hb⟩

theorem seenNobody_proved : Rows.SeenNobodySaid :=
  OpenClaim.holds_of_wide 5 Try.f5 rfl rfl rfl rfl rfl rfl rfl ⟨rfl, rfl, rfl, rfl, rfl⟩ rfl rfl rfl rfl rfl (by kernel_rfl) Try.func5 (by kernel_rfl)
    (of_decide_eq_true (by kernel_rfl)) (by unfold Func.isWrapper; first | (rw [if_pos (by decide +kernel)]; kernel_rfl) | (rw [if_neg (by decide +kernel)]; exact ⟨rfl, rfl⟩))
    (fun os started H enc _ => seenNobody_lifted os started H enc)
#print axioms seenNobody_proved
end Go.Proofs.Ytmnjgodelnjbkaa
