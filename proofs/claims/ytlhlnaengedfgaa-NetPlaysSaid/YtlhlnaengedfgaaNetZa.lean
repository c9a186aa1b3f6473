/- NetPlays returns true for every input and leaves its arguments as they were. No condition. -/
import Derived.Test.YtlhlnaengedfgaaNetZ
import Derived.Test.YtlhlnaengedfgaaOpen
import Derived.ChangeMaps5
namespace Go.Proofs.Ytlhlnaengedfgaa
open Go.ChangeShapes Go.WideShapes Go.ChangeAt Go.RowKit Go.Lk

theorem ownP : ownKnob Try.prog.godebug = none := by kernel_rfl
theorem laidP : laidOutB Try.prog = true := by kernel_rfl

section
variable {H : Type} {enc : TypeId × Value → H} {W : World} {sp : Nat → Bool}
theorem act5_row {r : List Value} (hl : r.length = 5) {n : Nat} {y : DataW H × List MemPlace} (h : DataW.trod enc Try.prog W 0 sp true n 58 r = some y) : ∃ p : Act5, r = arow p := by
  match r, hl with
  | [c0, c1, c2, c3, c4], _ =>
    obtain ⟨xs, m, _, _, _, hlen, hg⟩ := DataW.trod_struct Try.underlying58 h
    have hc3 : Try.prog.cellsOf 3 = 1 := by kernel_rfl
    have hc9 : Try.prog.cellsOf 9 = 1 := by kernel_rfl
    have g0 : DataW.trod enc Try.prog W 0 sp true m 3 (([c0, c1, c2, c3, c4].drop 0).take (Try.prog.cellsOf 3)) = xs[0]? := hg 0 _ rfl
    have g1 : DataW.trod enc Try.prog W 0 sp true m 3 (([c0, c1, c2, c3, c4].drop 1).take (Try.prog.cellsOf 3)) = xs[1]? := hg 1 _ rfl
    have g2 : DataW.trod enc Try.prog W 0 sp true m 3 (([c0, c1, c2, c3, c4].drop 2).take (Try.prog.cellsOf 3)) = xs[2]? := hg 2 _ rfl
    have g3 : DataW.trod enc Try.prog W 0 sp true m 3 (([c0, c1, c2, c3, c4].drop 3).take (Try.prog.cellsOf 3)) = xs[3]? := hg 3 _ rfl
    have g4 : DataW.trod enc Try.prog W 0 sp true m 9 (([c0, c1, c2, c3, c4].drop 4).take (Try.prog.cellsOf 9)) = xs[4]? := hg 4 _ rfl
    rw [hc3] at g0 g1 g2 g3
    rw [hc9] at g4
    match xs, hlen with
    | [y0, y1, y2, y3, y4], _ =>
      obtain ⟨a0, e0, _, _⟩ := DataW.trod_int Try.underlying3 g0
      obtain ⟨a1, e1, _, _⟩ := DataW.trod_int Try.underlying3 g1
      obtain ⟨a2, e2, _, _⟩ := DataW.trod_int Try.underlying3 g2
      obtain ⟨a3, e3, _, _⟩ := DataW.trod_int Try.underlying3 g3
      obtain ⟨tx, e4, _, _⟩ := DataW.trod_string Try.underlying9 g4
      simp at e0 e1 e2 e3 e4
      exact ⟨(a0, a1, a2, a3, tx), by rw [e0, e1, e2, e3, e4]; rfl⟩
theorem act5_rows : ∀ R : List (List Value), (∀ r ∈ R, r.length = 5 ∧ ∃ n y, DataW.trod enc Try.prog W 0 sp true n 58 r = some y) → ∃ acts : List Act5, R.flatten = acts5 acts ∧ acts.length = R.length
  | [], _ => ⟨[], rfl, rfl⟩
  | r :: R, h => by
    obtain ⟨hl, n, y, hy⟩ := h r (by simp)
    obtain ⟨p, rfl⟩ := act5_row hl hy
    obtain ⟨acts, h1, h2⟩ := act5_rows R (fun r' hr' => h r' (by simp [hr']))
    exact ⟨p :: acts, by rw [List.flatten_cons, h1]; simp [acts5], by simp [h2]⟩
end

set_option maxRecDepth 100000 in
theorem netPlays_lifted (os : Os) (started : os.Started) (H : Type) (enc : TypeId × Value → H) :
    ReturnsInHanded {} Try.checked os 6 .any (Rows.netPlaysSpec.pre6 enc Try.prog Try.f6 Rows.netPlaysRow.domain false) (Rows.netPlaysSpec.post enc Try.prog Try.f6 false true false false) := by
  refine returnsInHanded_of_change (C := Try.checked) ownP started (by kernel_rfl) Try.func6
    (ChangeSpec.witness6 (enc := enc) (C := Try.checked) false ⟨#[], #[.int .i64 0, .slice none 0 0], []⟩ 8 (by kernel_rfl) (by kernel_rfl) (by kernel_rfl) (by kernel_rfl)) ?_
  intro W base args ds gs before hval0 hW _ _
  have hval : ∀ (j : Nat) t v, Try.f6.params[j]? = some t → args[j]? = some v → Value.okWide Try.prog W .any base t v := hval0
  have hW' := hW
  obtain ⟨p, q, hA, hV, rfl, hfz, hnd⟩ := hW
  rw [Try.params6] at hval
  have hA1 : DataW.TrodAll enc Try.prog W 0 (fun _ => true) true #[3, 50].toList args.toList ds p := by rw [← Try.params6]; exact hA
  obtain ⟨v0, v1, d0, d1, p0, p1, rfl, rfl, rfl, h0, h1⟩ := trodAll_two hA1
  obtain ⟨rfl, rfl⟩ := trodVars_none hV
  obtain ⟨sv, rfl, rfl, rfl, wm⟩ := open_int Try.underlying3 (hval 0 3 v0 rfl rfl) h0
  obtain ⟨A, c, R, rfl, hS, hR, hm⟩ := open_rows (K := 5) Try.underlying50 (by kernel_rfl) (by omega) (hval 1 50 v1 rfl rfl) h1
  obtain ⟨acts, hacts, hal⟩ := act5_rows R hR
  rw [hacts] at hS
  unfold maxLen at hm
  refine (netPlaysWalk sv A c acts _ hal hm W hS).mono fun e W' ⟨he, hb⟩ => ?_
  subst he
  exact ⟨_, rfl, law_post laidP (by kernel_rfl) rfl rfl Try.underlying4 hW' rfl hb⟩

theorem netPlays_proved : Rows.NetPlaysSaid :=
  OpenClaim.holds_of_wide 6 Try.f6 rfl rfl rfl rfl rfl rfl rfl ⟨rfl, rfl, rfl, rfl, rfl⟩ rfl rfl rfl rfl rfl (by kernel_rfl) Try.func6 (by kernel_rfl)
    (of_decide_eq_true (by kernel_rfl)) (by unfold Func.isWrapper; first | (rw [if_pos (by decide +kernel)]; kernel_rfl) | (rw [if_neg (by decide +kernel)]; exact ⟨rfl, rfl⟩))
    (fun os started H enc _ => netPlays_lifted os started H enc)
#print axioms netPlays_proved
end Go.Proofs.Ytlhlnaengedfgaa
