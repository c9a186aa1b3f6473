/- The contract of Links. Condition: the net is well made (Nt), or nil. -/
import Derived.Test.YtlhlnaengedfgaaNetF
namespace Go.Proofs.Ytlhlnaengedfgaa
open Go.RowKit Go.Lk Go.Shelf
attribute [local go_sem] Oper.semAt_some

theorem Try.info76 : (Try.prog.info? 76).map (fun i => (i.zero, i.size, i.bytes)) = some (some (.agg #[.int .i64 0, .int .i64 0]), 2, 16) := by kernel_rfl
/-- The links on which something is on its way. -/
def busy (sv : Nat) (L : Nat → Nat → List ByteArray) (xs : List (Nat × Nat)) : List (Nat × Nat) := xs.filter fun x => decide (0 < lenX sv L x)
def lc (xs : List (Nat × Nat)) : List Value := (xs.map fun x => (encL x).toList).flatten
theorem busy_yes {sv : Nat} {L : Nat → Nat → List ByteArray} (pre : List (Nat × Nat)) {x : Nat × Nat} (h : 0 < lenX sv L x) : busy sv L (pre ++ [x]) = busy sv L pre ++ [x] := by simp [busy, h]
theorem busy_no {sv : Nat} {L : Nat → Nat → List ByteArray} (pre : List (Nat × Nat)) {x : Nat × Nat} (h : ¬ 0 < lenX sv L x) : busy sv L (pre ++ [x]) = busy sv L pre := by
  unfold busy
  rw [List.filter_append]
  simp; omega
theorem busy_le (sv : Nat) (L : Nat → Nat → List ByteArray) (xs : List (Nat × Nat)) : (busy sv L xs).length ≤ xs.length := List.length_filter_le _ _
theorem lc_snoc (xs : List (Nat × Nat)) (x : Nat × Nat) : lc (xs ++ [x]) = lc xs ++ [.int .i64 ((x.1 : Int) - 1), .int .i64 ((x.2 : Int) - 1)] := by simp [lc, encL]

section
variable {P : Nat → Prop} (w : World) (bn sv : Nat) (L : Nat → Nat → List ByteArray)
set_option maxRecDepth 100000 in
set_option maxHeartbeats 4000000 in
theorem links_ok (h : Nt P w bn sv L) : Calls Try.prog 37 #[.pointer (some ⟨bn, 0, none⟩)] w fun e w' => ∃ u, e = .returned u ∧ w'.ownsRow w.heap.size 76 2 u (busy sv L (allL sv)).length (lc (busy sv L (allL sv))) ∧ Below w.heap.size w w' := by
  obtain ⟨i0, hi0, hz0, hz1, hz2⟩ := info_parts Try.info76
  refine (callsIn_wide (n := 3)).1 ?_
  refine callsIn_of_wp_marks Try.func37 rfl trivial ?_ rfl
  simp only [Try.ntmps37, List.size_toArray, List.length_cons, List.length_nil, Nat.reduceAdd, Nat.reduceSub, Array.replicate_succ, Array.replicate_zero, List.push_toArray, List.append_toArray, List.nil_append, List.cons_append]
  gi_wp2_with (refine ⟨trivial, ?_⟩; gi_at_call 39; refine (all_in 2 _ _).mono ?_; rintro e w' ⟨rfl, rfl⟩)
  have hs := h.small
  have hlt := h.lt
  obtain ⟨W0, hW0⟩ : ∃ W0, ((w.alloc (.cells #[.pointer (some ⟨bn, 0, none⟩)] 52)).alloc (.cells #[.slice none 0 0] 72)).alloc (.cells #[.pointer (some ⟨bn, 0, none⟩)] 52) = W0 := ⟨_, rfl⟩
  have hsz : W0.heap.size = w.heap.size + 3 := by rw [← hW0]; simp
  have hB0 : Below w.heap.size w W0 := by rw [← hW0]; exact (((Below.refl _ w).alloc (Nat.le_refl _) _).alloc (by simp) _).alloc (by simp; omega) _
  have b1 : Boxed W0 w.heap.size 52 (.pointer (some ⟨bn, 0, none⟩)) := by rw [← hW0]; exact ((Boxed.new w 52 _).alloc _).alloc _
  have b2 : Boxed W0 (w.heap.size + 1) 72 (.slice none 0 0) := by
    rw [← hW0]
    have := Boxed.new (w.alloc (.cells #[.pointer (some ⟨bn, 0, none⟩)] 52)) 72 (.slice none 0 0)
    rw [World.size_alloc] at this
    exact this.alloc _
  have b3 : Boxed W0 (w.heap.size + 2) 52 (.pointer (some ⟨bn, 0, none⟩)) := by
    rw [← hW0]
    have := Boxed.new ((w.alloc (.cells #[.pointer (some ⟨bn, 0, none⟩)] 52)).alloc (.cells #[.slice none 0 0] 72)) 52 (.pointer (some ⟨bn, 0, none⟩))
    rw [World.size_alloc, World.size_alloc] at this
    exact this
  rw [hW0]
  refine wpIn_rangeFunc_ownG rfl (by omega) (gf := 47) (lb := #[.pointer (some ⟨w.heap.size + 2, 0, none⟩)]) rfl trivial (enters_of Try.func47 (by kernel_rfl) rfl)
    (all_stops 2 (by omega) bn (w.heap.size + 2) sv hs W0 (by omega) (by omega) ((hB0.cell (p := ⟨bn, 0, none⟩) hlt).trans h.c0) b3.cell) KN.trans (KN.putObj (by omega) (by omega)) (Below.refl _ _) (fun _ => rfl)
    (fun pre W => ((∃ v, Boxed W (w.heap.size + 1) 72 v ∧ W.ownsRow w.heap.size 76 2 v (busy sv L pre).length (lc (busy sv L pre)) ∧ True) ∧ Boxed W w.heap.size 52 (.pointer (some ⟨bn, 0, none⟩)) ∧ Boxed W (w.heap.size + 2) 52 (.pointer (some ⟨bn, 0, none⟩))) ∧ Below w.heap.size w W)
    (fun _ _ _ => False)
    (OwnFrom.and (OwnFrom.and (Own.from (holdsRow_own w.heap.size (w.heap.size + 1) 72 76 2 (fun pre => (busy sv L pre).length) (fun pre => lc (busy sv L pre)) (fun _ _ => True)) _) (OwnFrom.and
      (Own.from (fun s A B row hs hg hr => hs.kept hg (fun e => by obtain ⟨o, ho, hc⟩ := hr _ e.symm; rw [show A.heap[w.heap.size]? = _ from hs] at ho; cases ho; cases hc)) _)
      (Own.from (fun s A B row hs hg hr => hs.kept hg (fun e => by obtain ⟨o, ho, hc⟩ := hr _ e.symm; rw [show A.heap[w.heap.size + 2]? = _ from hs] at ho; cases ho; cases hc)) _))) (ownFrom_below (Nat.le_refl _) (by omega)))
    (fun _ _ _ _ _ hs _ _ => hs)
    ⟨⟨⟨_, b2, World.ownsRow_nil _ _ _ _, trivial⟩, b1, b3⟩, hB0⟩
    (fun x => { tmps := #[.pointer (some ⟨bn, 0, none⟩), .pointer (some ⟨w.heap.size, 0, none⟩), .slice none 0 0, .pointer (some ⟨w.heap.size + 1, 0, none⟩), .int .i64 ((x.1 : Int) - 1), .int .i64 ((x.2 : Int) - 1), .pointer (some ⟨bn, 0, none⟩), .func (.func 47) #[] #[.pointer (some ⟨w.heap.size + 2, 0, none⟩)], .int .i64 ((x.1 : Int) - 1), .int .i64 ((x.2 : Int) - 1), undef, undef, undef, undef, undef, undef, undef, undef, undef, undef, undef, undef], defers := [] }) ?assign ?body ?done ?stop
  case assign =>
    intro l x W K hK
    unfold encL
    gi_wp2
    exact hK
  case body =>
    rintro l pre x W ⟨⟨⟨v, hv, hrow, _⟩, hf, hg3⟩, hB⟩ hpl
    have HN := Lib.hid (n_len W bn sv L (h.below hB) ((x.1 : Int) - 1) ((x.2 : Int) - 1))
    have c1 := hv.cell
    have c2 := hf.cell
    have hbl := busy_le sv L pre
    by_cases hl : 0 < lenX sv L x
    · have hl2 : 0 < lenN sv L ((x.1 : Int) - 1) ((x.2 : Int) - 1) := hl
      have hl3 : decide ((0 : Int) < (lenN sv L ((x.1 : Int) - 1) ((x.2 : Int) - 1) : Int)) = true := by simp; exact hl2
      have hsl := sl_row (n := 2) (xs := [.int .i64 ((x.1 : Int) - 1), .int .i64 ((x.2 : Int) - 1)]) (heap_alloc_new W (.cells #[.int .i64 ((x.1 : Int) - 1), .int .i64 ((x.2 : Int) - 1)] 76)) rfl
      have hWs := hB.size
      gi_wp2_with (first
        | (refine ⟨trivial, ?_⟩; gi_at_call 33; refine (CallsIn.inRound l (callsIn_wide.2 HN.out)).mono ?_; rintro e w' ⟨rfl, rfl⟩)
        | (gi_at_builtin; refine wpListIn_append_own _ rfl _ _ 72 rfl w.heap.size 76 i0 (.agg #[.int .i64 0, .int .i64 0]) 2 16 Try.underlying72 hi0 hz0 hz1 hz2 rfl (by omega) _ _ _ rfl (hrow.alloc _) ⟨W.heap.size, 0, none⟩ 1 1 [.int .i64 ((x.1 : Int) - 1), .int .i64 ((x.2 : Int) - 1)] rfl rfl (fun j u hj => by obtain ⟨a, ha, _, hc⟩ := hsl j u hj; injection ha with ha; subst ha; exact hc) (by intro u hu; simp at hu; rcases hu with rfl | rfl <;> rfl) (by unfold maxLen; omega) (by omega) (by simp; omega) ?_; intro v' w1 hown' hgrow _; obtain ⟨g', cap', rfl⟩ := ownsRow_succ hown'; obtain ⟨hv1, hv2, hr2, hk2, hb2⟩ := hv.appended (by decide) hrow hWs (by omega) hown' hgrow; have hc1 := hv1.cell; have hf1 := hv1.frozen))
      have g1 : ∀ (u : Value) (k : Nat), k ≠ w.heap.size + 1 → (w1.setCell ⟨w.heap.size + 1, 0, none⟩ u).heap[k]? = w1.heap[k]? := fun u k hk => Below.heap_setCell _ _ _ _ hk
      have hf2 := (hf.alloc (.cells #[.int .i64 ((x.1 : Int) - 1), .int .i64 ((x.2 : Int) - 1)] 76)).kept hgrow (hf.not_row (by decide) hrow)
      have hg2 := (hg3.alloc (.cells #[.int .i64 ((x.1 : Int) - 1), .int .i64 ((x.2 : Int) - 1)] 76)).kept hgrow (hg3.not_row (by decide) hrow)
      exact ⟨hk2.from _, ⟨hb2.cell (p := ⟨bn, 0, none⟩) hlt, by rw [World.cell?_of_block (g1 _ (w.heap.size + 2) (by omega))]; exact hg2.cell.trans hg3.cell.symm⟩, ⟨⟨_, hv2, by rw [busy_yes pre hl, lc_snoc, List.length_append]; exact hr2, trivial⟩, (g1 _ w.heap.size (by omega)).trans hf2, (g1 _ (w.heap.size + 2) (by omega)).trans hg2⟩, hB.trans hb2⟩
    · have hl2 : ¬ 0 < lenN sv L ((x.1 : Int) - 1) ((x.2 : Int) - 1) := hl
      have hl3 : decide ((0 : Int) < (lenN sv L ((x.1 : Int) - 1) ((x.2 : Int) - 1) : Int)) = false := by simp; omega
      gi_wp2_with (refine ⟨trivial, ?_⟩; gi_at_call 33; refine (CallsIn.inRound l (callsIn_wide.2 HN.out)).mono ?_; rintro e w' ⟨rfl, rfl⟩)
      exact ⟨KeepsFrom.refl _ _, ⟨rfl, rfl⟩, ⟨⟨v, hv, by rw [busy_no pre hl]; exact hrow, trivial⟩, hf, hg3⟩, hB⟩
  case done =>
    rintro D ys W hD rfl ⟨⟨⟨v, hv, hrow, _⟩, hf, hg3⟩, hB⟩ hK
    have hc := hv.cell
    gi_wp2
    refine ⟨by simp, .inl ⟨_, _, rfl, run_takeDeferred hK, ?_⟩⟩
    exact ⟨_, results_tmp rfl _ _ _, v, rfl, ownsRow_putObj hrow _ hK rfl, hB.trans (belowK_b (w := w) (Nat.le_refl _) W D _ _ (by omega) hK rfl rfl)⟩
  case stop =>
    rintro D c pre W _ _ h _
    exact h.elim
end
set_option maxRecDepth 100000 in
set_option maxHeartbeats 4000000 in
theorem links_nil (w : World) : Calls Try.prog 37 #[.pointer none] w fun e w' => e = .returned (.slice none 0 0) ∧ Below w.heap.size w w' := by
  refine (callsIn_wide (n := 3)).1 ?_
  refine callsIn_of_wp_marks Try.func37 rfl trivial ?_ rfl
  simp only [Try.ntmps37, List.size_toArray, List.length_cons, List.length_nil, Nat.reduceAdd, Nat.reduceSub, Array.replicate_succ, Array.replicate_zero, List.push_toArray, List.append_toArray, List.nil_append, List.cons_append]
  gi_wp2_with (refine ⟨trivial, ?_⟩; gi_at_call 39; refine (all_in 2 _ _).mono ?_; rintro e w' ⟨rfl, rfl⟩)
  obtain ⟨W0, hW0⟩ : ∃ W0, ((w.alloc (.cells #[.pointer none] 52)).alloc (.cells #[.slice none 0 0] 72)).alloc (.cells #[.pointer none] 52) = W0 := ⟨_, rfl⟩
  have hsz : W0.heap.size = w.heap.size + 3 := by rw [← hW0]; simp
  have hB0 : Below w.heap.size w W0 := by rw [← hW0]; exact (((Below.refl _ w).alloc (Nat.le_refl _) _).alloc (by simp) _).alloc (by simp; omega) _
  have b2 : Boxed W0 (w.heap.size + 1) 72 (.slice none 0 0) := by
    rw [← hW0]
    have := Boxed.new (w.alloc (.cells #[.pointer none] 52)) 72 (.slice none 0 0)
    rw [World.size_alloc] at this
    exact this.alloc _
  have b3 : Boxed W0 (w.heap.size + 2) 52 (.pointer none) := by
    rw [← hW0]
    have := Boxed.new ((w.alloc (.cells #[.pointer none] 52)).alloc (.cells #[.slice none 0 0] 72)) 52 (.pointer none)
    rw [World.size_alloc, World.size_alloc] at this
    exact this
  rw [hW0]
  refine wpIn_rangeFunc_ownG rfl (by omega) (gf := 47) (lb := #[.pointer (some ⟨w.heap.size + 2, 0, none⟩)]) rfl trivial (enters_of Try.func47 (by kernel_rfl) rfl)
    (all_stops_nil 2 (w.heap.size + 2) W0 (by omega) b3.cell) (fun _ _ => trivial) (fun _ _ _ _ _ _ _ _ => trivial) (Below.refl _ _) (fun _ => rfl)
    (fun _ W => Boxed W (w.heap.size + 1) 72 (.slice none 0 0) ∧ Below w.heap.size w W)
    (fun _ _ _ => False)
    (OwnFrom.and (Own.from (fun s A B row hs hg hr => hs.kept hg (fun e => by obtain ⟨o, ho, hc⟩ := hr _ e.symm; rw [show A.heap[w.heap.size + 1]? = _ from hs] at ho; cases ho; cases hc)) _) (ownFrom_below (Nat.le_refl _) (by omega)))
    (fun _ _ _ _ _ hs _ _ => hs)
    ⟨b2, hB0⟩
    (fun x => { tmps := #[.pointer none, .pointer (some ⟨w.heap.size, 0, none⟩), .slice none 0 0, .pointer (some ⟨w.heap.size + 1, 0, none⟩), .int .i64 ((x.1 : Int) - 1), .int .i64 ((x.2 : Int) - 1), .pointer none, .func (.func 47) #[] #[.pointer (some ⟨w.heap.size + 2, 0, none⟩)], .int .i64 ((x.1 : Int) - 1), .int .i64 ((x.2 : Int) - 1), undef, undef, undef, undef, undef, undef, undef, undef, undef, undef, undef, undef], defers := [] }) ?assign ?body ?done ?stop
  case assign =>
    intro l x W K hK
    unfold encL
    gi_wp2
    exact hK
  case body =>
    intro l pre x W _ hpl
    omega
  case done =>
    rintro D ys W hD rfl ⟨hc, hB⟩ hK
    have c1 := hc.cell
    gi_wp2
    refine ⟨by simp, .inl ⟨_, _, rfl, run_takeDeferred hK, ?_⟩⟩
    exact ⟨_, results_tmp rfl _ _ _, rfl, hB.trans (belowK_b (w := w) (Nat.le_refl _) W D _ _ (by omega) hK rfl rfl)⟩
  case stop =>
    rintro D c pre W _ _ h _
    exact h.elim
end Go.Proofs.Ytlhlnaengedfgaa
