/- BagPlays and BagNobody return true for every input and leave their arguments as they were. No condition. -/
import Derived.Test.YtlhlnaengedfgaaBagE
import Derived.Test.YtlhlnaengedfgaaOpen
import Derived.ChangeMaps5
namespace Go.Proofs.Ytlhlnaengedfgaa
open Go.ChangeShapes Go.WideShapes Go.ChangeAt Go.RowKit Go.Lk

theorem own : ownKnob Try.prog.godebug = none := by kernel_rfl
theorem laid : laidOutB Try.prog = true := by kernel_rfl

section
variable {H : Type} {enc : TypeId × Value → H} {W : World} {sp : Nat → Bool}
theorem act_row {r : List Value} (hl : r.length = 3) {n : Nat} {y : DataW H × List MemPlace} (h : DataW.trod enc Try.prog W 0 sp true n 31 r = some y) : ∃ (a b : Int) (s : ByteArray), r = [.int .i64 a, .int .i64 b, .string s] := by
  match r, hl with
  | [c0, c1, c2], _ =>
    obtain ⟨xs, m, _, _, _, hlen, hg⟩ := DataW.trod_struct Try.underlying31 h
    have hc3 : Try.prog.cellsOf 3 = 1 := by kernel_rfl
    have hc9 : Try.prog.cellsOf 9 = 1 := by kernel_rfl
    have g0 : DataW.trod enc Try.prog W 0 sp true m 3 (([c0, c1, c2].drop 0).take (Try.prog.cellsOf 3)) = xs[0]? := hg 0 _ rfl
    have g1 : DataW.trod enc Try.prog W 0 sp true m 3 (([c0, c1, c2].drop 1).take (Try.prog.cellsOf 3)) = xs[1]? := hg 1 _ rfl
    have g2 : DataW.trod enc Try.prog W 0 sp true m 9 (([c0, c1, c2].drop 2).take (Try.prog.cellsOf 9)) = xs[2]? := hg 2 _ rfl
    rw [hc3] at g0 g1
    rw [hc9] at g2
    match xs, hlen with
    | [y0, y1, y2], _ =>
      obtain ⟨a, e0, _, _⟩ := DataW.trod_int Try.underlying3 g0
      obtain ⟨b, e1, _, _⟩ := DataW.trod_int Try.underlying3 g1
      obtain ⟨s, e2, _, _⟩ := DataW.trod_string Try.underlying9 g2
      simp at e0 e1 e2
      exact ⟨a, b, s, by rw [e0, e1, e2]⟩
theorem act_rows : ∀ R : List (List Value), (∀ r ∈ R, r.length = 3 ∧ ∃ n y, DataW.trod enc Try.prog W 0 sp true n 31 r = some y) → ∃ acts : List (Int × Int × ByteArray), R.flatten = acts3 acts ∧ acts.length = R.length
  | [], _ => ⟨[], rfl, rfl⟩
  | r :: R, h => by
    obtain ⟨hl, n, y, hy⟩ := h r (by simp)
    obtain ⟨a, b, s, rfl⟩ := act_row hl hy
    obtain ⟨acts, h1, h2⟩ := act_rows R (fun r' hr' => h r' (by simp [hr']))
    exact ⟨(a, b, s) :: acts, by rw [List.flatten_cons, h1]; simp [acts3], by simp [h2]⟩
theorem open_text {r : Reach} {base : Nat} {v : Value} {d : DataW H} {p : List MemPlace} (hv : Value.okWide Try.prog W r base 9 v) (h : DataW.Trod enc Try.prog W 0 sp true 9 v d p) : ∃ s : ByteArray, v = .string s := by
  obtain ⟨s, rfl, _⟩ := Go.ChangeMaps.open_string Try.underlying9 hv h
  exact ⟨_, rfl⟩
theorem wf_u8 {n : Int} (h : (Lit.int .u8 n).wf = true) : ∃ k : Nat, n = (k : Int) ∧ k ≤ 255 := by
  have hb : 0 ≤ n ∧ n ≤ 255 := by
    simp [Lit.wf, IntKind.min, IntKind.max, IntKind.signed, IntKind.bits] at h
    omega
  obtain ⟨k, rfl⟩ := Int.eq_ofNat_of_zero_le hb.1
  exact ⟨k, rfl, by omega⟩
end

set_option maxRecDepth 100000 in
theorem bagPlays_lifted (os : Os) (started : os.Started) (H : Type) (enc : TypeId × Value → H) :
    ReturnsInHanded {} Try.checked os 3 .any (Rows.bagPlaysSpec.pre6 enc Try.prog Try.f3 Rows.bagPlaysRow.domain false) (Rows.bagPlaysSpec.post enc Try.prog Try.f3 false true false false) := by
  refine returnsInHanded_of_change (C := Try.checked) own started (by kernel_rfl) Try.func3
    (ChangeSpec.witness6 (enc := enc) (C := Try.checked) false ⟨#[], #[.int .i64 0, .slice none 0 0], []⟩ 8 (by kernel_rfl) (by kernel_rfl) (by kernel_rfl) (by kernel_rfl)) ?_
  intro W base args ds gs before hval0 hW _ _
  have hval : ∀ (j : Nat) t v, Try.f3.params[j]? = some t → args[j]? = some v → Value.okWide Try.prog W .any base t v := hval0
  have hW' := hW
  obtain ⟨p, q, hA, hV, rfl, hfz, hnd⟩ := hW
  rw [Try.params3] at hval
  have hA1 : DataW.TrodAll enc Try.prog W 0 (fun _ => true) true #[3, 22].toList args.toList ds p := by rw [← Try.params3]; exact hA
  obtain ⟨v0, v1, d0, d1, p0, p1, rfl, rfl, rfl, h0, h1⟩ := trodAll_two hA1
  obtain ⟨rfl, rfl⟩ := trodVars_none hV
  obtain ⟨most, rfl, rfl, rfl, wm⟩ := open_int Try.underlying3 (hval 0 3 v0 rfl rfl) h0
  obtain ⟨A, c, R, rfl, hS, hR, hm⟩ := open_rows (K := 3) Try.underlying22 (by kernel_rfl) (by omega) (hval 1 22 v1 rfl rfl) h1
  obtain ⟨acts, hacts, hal⟩ := act_rows R hR
  rw [hacts] at hS
  unfold maxLen at hm
  refine (bagPlaysWalk most A c acts _ hal hm W hS).mono fun e W' ⟨he, hb⟩ => ?_
  subst he
  exact ⟨_, rfl, law_post laid (by kernel_rfl) rfl rfl Try.underlying4 hW' rfl hb⟩

theorem bagPlays_proved : Rows.BagPlaysSaid :=
  OpenClaim.holds_of_wide 3 Try.f3 rfl rfl rfl rfl rfl rfl rfl ⟨rfl, rfl, rfl, rfl, rfl⟩ rfl rfl rfl rfl rfl (by kernel_rfl) Try.func3 (by kernel_rfl)
    (of_decide_eq_true (by kernel_rfl)) (by unfold Func.isWrapper; first | (rw [if_pos (by decide +kernel)]; kernel_rfl) | (rw [if_neg (by decide +kernel)]; exact ⟨rfl, rfl⟩))
    (fun os started H enc _ => bagPlays_lifted os started H enc)
#print axioms bagPlays_proved

set_option maxRecDepth 100000 in
theorem bagNobody_lifted (os : Os) (started : os.Started) (H : Type) (enc : TypeId × Value → H) :
    ReturnsInHanded {} Try.checked os 5 .any (Rows.bagNobodySpec.pre6 enc Try.prog Try.f5 Rows.bagNobodyRow.domain false) (Rows.bagNobodySpec.post enc Try.prog Try.f5 false true false false) := by
  refine returnsInHanded_of_change (C := Try.checked) own started (by kernel_rfl) Try.func5
    (ChangeSpec.witness6 (enc := enc) (C := Try.checked) false ⟨#[], #[.int .i64 0, .string ⟨#[]⟩], []⟩ 8 (by kernel_rfl) (by kernel_rfl) (by kernel_rfl) (by kernel_rfl)) ?_
  intro W base args ds gs before hval0 hW _ _
  have hval : ∀ (j : Nat) t v, Try.f5.params[j]? = some t → args[j]? = some v → Value.okWide Try.prog W .any base t v := hval0
  have hW' := hW
  obtain ⟨p, q, hA, hV, rfl, hfz, hnd⟩ := hW
  rw [Try.params5] at hval
  have hA1 : DataW.TrodAll enc Try.prog W 0 (fun _ => true) true #[3, 9].toList args.toList ds p := by rw [← Try.params5]; exact hA
  obtain ⟨v0, v1, d0, d1, p0, p1, rfl, rfl, rfl, h0, h1⟩ := trodAll_two hA1
  obtain ⟨rfl, rfl⟩ := trodVars_none hV
  obtain ⟨p0', rfl, rfl, rfl, wm⟩ := open_int Try.underlying3 (hval 0 3 v0 rfl rfl) h0
  obtain ⟨s, hs⟩ := open_text (hval 1 9 v1 rfl rfl) h1
  subst hs
  refine (bagNobodyWalk p0' s W).mono fun e W' ⟨he, hb⟩ => ?_
  subst he
  exact ⟨_, rfl, law_post laid (by kernel_rfl) rfl rfl Try.underlying4 hW' rfl hb⟩

theorem bagNobody_proved : Rows.BagNobodySaid :=
  OpenClaim.holds_of_wide 5 Try.f5 rfl rfl rfl rfl rfl rfl rfl ⟨rfl, rfl, rfl, rfl, rfl⟩ rfl rfl rfl rfl rfl (by kernel_rfl) Try.func5 (by kernel_rfl)
    (of_decide_eq_true (by kernel_rfl)) (by unfold Func.isWrapper; first | (rw [if_pos (by decide +kernel)]; kernel_rfl) | (rw [if_neg (by decide +kernel)]; exact ⟨rfl, rfl⟩))
    (fun os started H enc _ => bagNobody_lifted os started H enc)
#print axioms bagNobody_proved
end Go.Proofs.Ytlhlnaengedfgaa
