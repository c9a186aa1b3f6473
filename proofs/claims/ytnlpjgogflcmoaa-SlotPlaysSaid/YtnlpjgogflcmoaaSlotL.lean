/- SlotOnce returns true for every input and leaves its arguments as they were. No condition. -/
import Derived.Test.YtnlpjgogflcmoaaSlotI
import Derived.Test.YtnlpjgogflcmoaaSlotK
namespace Go.Proofs.Ytnlpjgogflcmoaa
open Go.ChangeShapes Go.WideShapes Go.ChangeAt Go.RowKit Go.Lk

section
variable {H : Type} {enc : TypeId × Value → H} {W : World} {sp : Nat → Bool}
theorem act_row {r : List Value} (hl : r.length = 9) {n : Nat} {y : DataW H × List MemPlace} (h : DataW.trod enc Try.prog W 0 sp true n 31 r = some y) : ∃ (kd now : Int) (x : It), r = acells kd now x := by
  match r, hl with
  | [b0, b1, c0, c1, c2, c3, c4, c5, c6], _ =>
    obtain ⟨xs, m, _, _, _, hlen, hg⟩ := DataW.trod_struct Try.underlying31 h
    have g0 : DataW.trod enc Try.prog W 0 sp true m 3 (([b0, b1, c0, c1, c2, c3, c4, c5, c6].drop 0).take (Try.prog.cellsOf 3)) = xs[0]? := hg 0 _ rfl
    have g1 : DataW.trod enc Try.prog W 0 sp true m 3 (([b0, b1, c0, c1, c2, c3, c4, c5, c6].drop 1).take (Try.prog.cellsOf 3)) = xs[1]? := hg 1 _ rfl
    have g2 : DataW.trod enc Try.prog W 0 sp true m 29 (([b0, b1, c0, c1, c2, c3, c4, c5, c6].drop 2).take (Try.prog.cellsOf 29)) = xs[2]? := hg 2 _ rfl
    rw [cells3] at g0 g1
    rw [cells29] at g2
    match xs, hlen with
    | [y0, y1, y2], _ =>
      obtain ⟨kd, e0, _, _⟩ := DataW.trod_int Try.underlying3 g0
      obtain ⟨now, e1, _, _⟩ := DataW.trod_int Try.underlying3 g1
      obtain ⟨x, e2⟩ := item_row rfl g2
      simp [It.arr] at e0 e1 e2
      obtain ⟨e20, e21, e22, e23, e24, e25, e26⟩ := e2
      exact ⟨kd, now, x, by rw [e0, e1, e20, e21, e22, e23, e24, e25, e26]; rfl⟩
theorem act_rows : ∀ R : List (List Value), (∀ r ∈ R, r.length = 9 ∧ ∃ n y, DataW.trod enc Try.prog W 0 sp true n 31 r = some y) → ∃ acts : List (Int × Int × It), R.flatten = acts9 acts ∧ acts.length = R.length
  | [], _ => ⟨[], rfl, rfl⟩
  | r :: R, h => by
    obtain ⟨hl, n, y, hy⟩ := h r (by simp)
    obtain ⟨a, b, s, rfl⟩ := act_row hl hy
    obtain ⟨acts, h1, h2⟩ := act_rows R (fun r' hr' => h r' (by simp [hr']))
    exact ⟨(a, b, s) :: acts, by rw [List.flatten_cons, h1]; simp [acts9], by simp [h2]⟩
theorem wf_u8 {n : Int} (h : (Lit.int .u8 n).wf = true) : ∃ k : Nat, n = (k : Int) ∧ k ≤ 255 := by
  have hb : 0 ≤ n ∧ n ≤ 255 := by
    simp [Lit.wf, IntKind.min, IntKind.max, IntKind.signed, IntKind.bits] at h
    omega
  obtain ⟨k, rfl⟩ := Int.eq_ofNat_of_zero_le hb.1
  exact ⟨k, rfl, by omega⟩
end

set_option maxRecDepth 100000 in
theorem slotOnce_lifted (os : Os) (started : os.Started) (H : Type) (enc : TypeId × Value → H) :
    ReturnsInHanded {} Try.checked os 3 .any (Rows.slotOnceSpec.pre6 enc Try.prog Try.f3 Rows.slotOnceRow.domain false) (Rows.slotOnceSpec.post enc Try.prog Try.f3 false true false false) := by
  refine returnsInHanded_of_change (C := Try.checked) own started (by kernel_rfl) Try.func3
    (ChangeSpec.witness6 (enc := enc) (C := Try.checked) false ⟨#[], #[.int .u8 0, .slice none 0 0], []⟩ 8 (by kernel_rfl) (by kernel_rfl) (by kernel_rfl) (by kernel_rfl)) ?_
  intro W base args ds gs before hval0 hW _ _
  have hval : ∀ (j : Nat) t v, Try.f3.params[j]? = some t → args[j]? = some v → Value.okWide Try.prog W .any base t v := hval0
  have hW' := hW
  obtain ⟨p, q, hA, hV, rfl, hfz, hnd⟩ := hW
  rw [Try.params3] at hval
  have hA1 : DataW.TrodAll enc Try.prog W 0 (fun _ => true) true #[5, 22].toList args.toList ds p := by rw [← Try.params3]; exact hA
  obtain ⟨v0, v1, d0, d1, p0, p1, rfl, rfl, rfl, h0, h1⟩ := trodAll_two hA1
  obtain ⟨rfl, rfl⟩ := trodVars_none hV
  obtain ⟨m0, rfl, rfl, rfl, wm⟩ := open_int Try.underlying5 (hval 0 5 v0 rfl rfl) h0
  obtain ⟨wk, rfl, hwk⟩ := wf_u8 wm
  obtain ⟨A, c, R, rfl, hS, hR, hm⟩ := open_rows (K := 9) Try.underlying22 (by kernel_rfl) (by omega) (hval 1 22 v1 rfl rfl) h1
  obtain ⟨acts, hacts, hal⟩ := act_rows R hR
  rw [hacts] at hS
  unfold maxLen at hm
  refine (onceWalk wk hwk A c acts _ hal hm W hS).mono fun e W' ⟨he, hb⟩ => ?_
  subst he
  exact ⟨_, rfl, law_post laid (by kernel_rfl) rfl rfl Try.underlying4 hW' rfl hb⟩

theorem slotOnce_proved : Rows.SlotOnceSaid :=
  OpenClaim.holds_of_wide 3 Try.f3 rfl rfl rfl rfl rfl rfl rfl ⟨rfl, rfl, rfl, rfl, rfl⟩ rfl rfl rfl rfl rfl (by kernel_rfl) Try.func3 (by kernel_rfl)
    (of_decide_eq_true (by kernel_rfl)) (by unfold Func.isWrapper; first | (rw [if_pos (by decide +kernel)]; kernel_rfl) | (rw [if_neg (by decide +kernel)]; exact ⟨rfl, rfl⟩))
    (fun os started H enc _ => slotOnce_lifted os started H enc)
#print axioms slotOnce_proved
end Go.Proofs.Ytnlpjgogflcmoaa
