/- NetNobody returns true for every input and leaves its arguments as they were. No condition. -/
import Derived.Test.YtlhlnaengedfgaaNetJ
import Derived.Test.YtlhlnaengedfgaaOpen
import Derived.ChangeMaps5
namespace Go.Proofs.Ytlhlnaengedfgaa
open Go.ChangeShapes Go.WideShapes Go.ChangeAt Go.RowKit Go.Lk

theorem ownN : ownKnob Try.prog.godebug = none := by kernel_rfl
theorem laidN : laidOutB Try.prog = true := by kernel_rfl

section
variable {H : Type} {enc : TypeId × Value → H} {W : World} {sp : Nat → Bool}
theorem cells3 : Try.prog.cellsOf 3 = 1 := by kernel_rfl
theorem cells9 : Try.prog.cellsOf 9 = 1 := by kernel_rfl
theorem cells58 : Try.prog.cellsOf 58 = 5 := by kernel_rfl
theorem nact_row {r : List Value} (hl : r.length = 5) {n : Nat} {y : DataW H × List MemPlace} (h : DataW.trod enc Try.prog W 0 sp true n 58 r = some y) : ∃ (kd fr tt pl : Int) (tx : ByteArray), r = (acell kd fr tt pl tx).toList := by
  match r, hl with
  | [c0, c1, c2, c3, c4], _ =>
    obtain ⟨xs, m, _, _, _, hlen, hg⟩ := DataW.trod_struct Try.underlying58 h
    have g0 : DataW.trod enc Try.prog W 0 sp true m 3 (([c0, c1, c2, c3, c4].drop 0).take (Try.prog.cellsOf 3)) = xs[0]? := hg 0 _ rfl
    have g1 : DataW.trod enc Try.prog W 0 sp true m 3 (([c0, c1, c2, c3, c4].drop 1).take (Try.prog.cellsOf 3)) = xs[1]? := hg 1 _ rfl
    have g2 : DataW.trod enc Try.prog W 0 sp true m 3 (([c0, c1, c2, c3, c4].drop 2).take (Try.prog.cellsOf 3)) = xs[2]? := hg 2 _ rfl
    have g3 : DataW.trod enc Try.prog W 0 sp true m 3 (([c0, c1, c2, c3, c4].drop 3).take (Try.prog.cellsOf 3)) = xs[3]? := hg 3 _ rfl
    have g4 : DataW.trod enc Try.prog W 0 sp true m 9 (([c0, c1, c2, c3, c4].drop 4).take (Try.prog.cellsOf 9)) = xs[4]? := hg 4 _ rfl
    rw [cells3] at g0 g1 g2 g3
    rw [cells9] at g4
    match xs, hlen with
    | [y0, y1, y2, y3, y4], _ =>
      obtain ⟨a0, e0, _, _⟩ := DataW.trod_int Try.underlying3 g0
      obtain ⟨a1, e1, _, _⟩ := DataW.trod_int Try.underlying3 g1
      obtain ⟨a2, e2, _, _⟩ := DataW.trod_int Try.underlying3 g2
      obtain ⟨a3, e3, _, _⟩ := DataW.trod_int Try.underlying3 g3
      obtain ⟨tx, e4, _, _⟩ := DataW.trod_string Try.underlying9 g4
      simp at e0 e1 e2 e3 e4
      exact ⟨a0, a1, a2, a3, tx, by rw [e0, e1, e2, e3, e4]; rfl⟩
theorem open_nact {r : Reach} {base : Nat} {v : Value} {d : DataW H} {p : List MemPlace} (hv : Value.okWide Try.prog W r base 58 v) (h : DataW.Trod enc Try.prog W 0 sp true 58 v d p) : ∃ (kd fr tt pl : Int) (tx : ByteArray), v = .agg (acell kd fr tt pl tx) := by
  obtain ⟨cs, rfl, hcs⟩ : ∃ cs, v = .agg cs ∧ cs.size = Try.prog.cellsOf 58 := by
    simp only [Value.okWide, Try.underlying58] at hv
    obtain ⟨cs, h1, h2, _⟩ := hv
    exact ⟨cs, h1, h2⟩
  obtain ⟨l⟩ := cs
  obtain ⟨fuel, hf⟩ := h
  obtain ⟨kd, fr, tt, pl, tx, hx⟩ := nact_row (hcs.trans cells58) hf
  exact ⟨kd, fr, tt, pl, tx, by rw [show l = (acell kd fr tt pl tx).toList from hx]⟩
end

set_option maxRecDepth 100000 in
theorem netNobody_lifted (os : Os) (started : os.Started) (H : Type) (enc : TypeId × Value → H) :
    ReturnsInHanded {} Try.checked os 8 .any (Rows.netNobodySpec.pre6 enc Try.prog Try.f8 Rows.netNobodyRow.domain false) (Rows.netNobodySpec.post enc Try.prog Try.f8 false true false false) := by
  refine returnsInHanded_of_change (C := Try.checked) ownN started (by kernel_rfl) Try.func8
    (ChangeSpec.witness6 (enc := enc) (C := Try.checked) false ⟨#[], #[.agg #[.int .i64 0, .int .i64 0, .int .i64 0, .int .i64 0, .string ⟨#[]⟩]], []⟩ 8 (by kernel_rfl) (by kernel_rfl) (by kernel_rfl) (by kernel_rfl)) ?_
  intro W base args ds gs before hval0 hW _ _
  have hval : ∀ (j : Nat) t v, Try.f8.params[j]? = some t → args[j]? = some v → Value.okWide Try.prog W .any base t v := hval0
  have hW' := hW
  obtain ⟨p, q, hA, hV, rfl, hfz, hnd⟩ := hW
  rw [Try.params8] at hval
  have hA1 : DataW.TrodAll enc Try.prog W 0 (fun _ => true) true #[58].toList args.toList ds p := by rw [← Try.params8]; exact hA
  obtain ⟨v0, d0, rfl, rfl, h0⟩ := trodAll_one hA1
  obtain ⟨rfl, rfl⟩ := trodVars_none hV
  obtain ⟨kd, fr, tt, pl, tx, hx⟩ := open_nact (hval 0 58 v0 rfl rfl) h0
  subst hx
  refine (netNobodyWalk kd fr tt pl tx W).mono fun e W' ⟨he, hb⟩ => ?_
  subst he
  exact ⟨_, rfl, law_post laidN (by kernel_rfl) rfl rfl Try.underlying4 hW' rfl hb⟩

theorem netNobody_proved : Rows.NetNobodySaid :=
  OpenClaim.holds_of_wide 8 Try.f8 rfl rfl rfl rfl rfl rfl rfl ⟨rfl, rfl, rfl, rfl, rfl⟩ rfl rfl rfl rfl rfl (by kernel_rfl) Try.func8 (by kernel_rfl)
    (of_decide_eq_true (by kernel_rfl)) (by unfold Func.isWrapper; first | (rw [if_pos (by decide +kernel)]; kernel_rfl) | (rw [if_neg (by decide +kernel)]; exact ⟨rfl, rfl⟩))
    (fun os started H enc _ => netNobody_lifted os started H enc)
#print axioms netNobody_proved
end Go.Proofs.Ytlhlnaengedfgaa
