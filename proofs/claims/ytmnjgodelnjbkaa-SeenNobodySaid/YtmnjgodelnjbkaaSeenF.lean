/- The walk of SeenNobody. Condition: the argument fits its type. -/
import Derived.Test.YtmnjgodelnjbkaaSeenE
namespace Go.Proofs.Ytmnjgodelnjbkaa
open Go.RowKit Go.Lk Go.Proofs.SeenLaw

def Odd (w : World) (bo : Nat) : Prop := w.heap[bo]? = some (.cells #[.slice none 0 0, .int .i64 0, .int .i64 0, .map none] 42 (0, 0))
theorem Odd.only {S : List Nat} {w w' : World} {bo : Nat} (h : Odd w bo) (ho : OnlyIn S w w') (hb : bo ∉ S) : Odd w' bo := (ho.block _ (heap_lt h) hb).trans h

theorem lookup_none (id : Int) (w : World) : (Instr.lookup 40 (.map none) (.int .i64 id) true).run Try.prog w = .ok (.tuple #[.int .i64 0, .bool false]) w := by
  have hkey : MapKept.IsKey (.int .i64) (.int .i64 id) := rfl
  simp [Instr.lookup, run_underlying ul40, MapKept.run_checkKey ul3 hkey, MapKept.run_findKey (l := []) (a := none) ul3 rfl, Result.andThen]
theorem clear_none (ty : TypeId) (w : World) : (Builtin.clear_ #[40] ty #[.map none]).run Try.prog w = .ok (.tuple #[]) w := by
  simp [Builtin.clear_, run_underlying ul40, Result.andThen]

set_option maxHeartbeats 400000 in
theorem has_odd (bo : Nat) (id : Int) (w : World) (h : Odd w bo) :
    Calls Try.prog 14 #[.pointer (some ⟨bo, 0, none⟩), .int .i64 id] w fun e w' => e = .returned (.bool false) ∧ w = w' := by
  have c3 : w.cell? ⟨bo, 3, none⟩ = some (.map none) := by rw [cell_of_row w bo 3 _ _ _ h]; rfl
  have hl := lookup_none id w
  clear h
  go_enter Try.func14, Try.ntmps14
  go_wp2
  go_ret
  exact ⟨rfl, rfl⟩
theorem note_nil (id : Int) (w : World) :
    Calls Try.prog 8 #[.pointer none, .int .i64 id] w fun e w' => e = .returned (.bool true) ∧ w = w' := by
  go_enter Try.func8, Try.ntmps8
  go_wp2_with fail
  refine (has_nil id _).mono ?_
  rintro e w' ⟨rfl, rfl⟩
  go_wp2
  go_ret
  exact ⟨rfl, rfl⟩
theorem note_odd (bo : Nat) (id : Int) (w : World) (h : Odd w bo) :
    Calls Try.prog 8 #[.pointer (some ⟨bo, 0, none⟩), .int .i64 id] w fun e w' => e = .returned (.bool true) ∧ w = w' := by
  have c0 : w.cell? ⟨bo, 0, none⟩ = some (.slice none 0 0) := by rw [cell_of_row w bo 0 _ _ _ h]; rfl
  have hh := Lib.hid (has_odd bo id w h)
  clear h
  go_enter Try.func8, Try.ntmps8
  go_wp2_with fail
  refine hh.out.mono ?_
  rintro e w' ⟨rfl, rfl⟩
  go_wp2
  go_ret
  exact ⟨rfl, rfl⟩
theorem len_odd (bo : Nat) (w : World) (h : Odd w bo) :
    Calls Try.prog 13 #[.pointer (some ⟨bo, 0, none⟩)] w fun e w' => e = .returned (.int .i64 0) ∧ w = w' := by
  have c2 : w.cell? ⟨bo, 2, none⟩ = some (.int .i64 0) := by rw [cell_of_row w bo 2 _ _ _ h]; rfl
  clear h
  go_enter Try.func13, Try.ntmps13
  go_wp2
  go_ret
  exact ⟨rfl, rfl⟩
theorem all_nil (w : World) :
    Calls Try.prog 12 #[.pointer none] w fun e w' => e = .returned (.slice none 0 0) ∧ w = w' := by
  go_enter Try.func12, Try.ntmps12
  go_wp2_with fail
  refine (len_nil _).mono ?_
  rintro e w' ⟨rfl, rfl⟩
  go_wp2_with fail
  refine wp_loop_rounds 1 ?_
  rw [rounds_succ]
  go_wp2
  go_ret
  exact ⟨rfl, rfl⟩
theorem all_odd (bo : Nat) (w : World) (h : Odd w bo) :
    Calls Try.prog 12 #[.pointer (some ⟨bo, 0, none⟩)] w fun e w' => e = .returned (.slice none 0 0) ∧ w = w' := by
  have hh := Lib.hid (len_odd bo w h)
  clear h
  go_enter Try.func12, Try.ntmps12
  go_wp2_with fail
  refine hh.out.mono ?_
  rintro e w' ⟨rfl, rfl⟩
  go_wp2_with fail
  refine wp_loop_rounds 1 ?_
  rw [rounds_succ]
  go_wp2
  go_ret
  exact ⟨rfl, rfl⟩
theorem clear_nil (w : World) :
    Calls Try.prog 10 #[.pointer none] w fun e w' => e = .returned (.tuple #[]) ∧ w = w' := by
  go_enter Try.func10, Try.ntmps10
  go_wp2
  go_end0
  exact ⟨rfl, rfl⟩
theorem clear_odd (bo : Nat) (w : World) (h : Odd w bo) :
    Calls Try.prog 10 #[.pointer (some ⟨bo, 0, none⟩)] w fun e w' => e = .returned (.tuple #[]) ∧ Odd w' bo ∧ OnlyIn [bo] w w' := by
  have c1 : w.cell? ⟨bo, 1, none⟩ = some (.int .i64 0) := by rw [cell_of_row w bo 1 _ _ _ h]; rfl
  have c2 : w.cell? ⟨bo, 2, none⟩ = some (.int .i64 0) := by rw [cell_of_row w bo 2 _ _ _ h]; rfl
  have c3 : w.cell? ⟨bo, 3, none⟩ = some (.map none) := by rw [cell_of_row w bo 3 _ _ _ h]; rfl
  have f1 : w.frozen? ⟨bo, 1, none⟩ = false := by unfold Odd at h; simp [World.frozen?, h]
  have f2 : w.frozen? ⟨bo, 2, none⟩ = false := by unfold Odd at h; simp [World.frozen?, h]
  have hc := fun W => clear_none 0 W
  have H := Lib.hid h
  clear h
  go_enter Try.func10, Try.ntmps10
  go_wp2
  go_end0
  refine ⟨rfl, ?_, ((OnlyIn.refl _ w).setCell (by simp) _).setCell (by simp) _⟩
  unfold Odd
  rw [heap_set1 (heap_set1 H.out 1 _) 2 _]
  rfl

theorem one_cell (w : World) (x : Value) (t : TypeId) : Sl (w.alloc (.cells #[x] t)) (w.alloc (.cells #[x] t)).heap.size (some ⟨w.heap.size, 0, none⟩) [x] := by
  intro k u hk
  match k, hk with
  | 0, hk => simp at hk; subst hk; exact ⟨_, rfl, by simp, by simp [Addr.add, World.cell?_alloc_new]⟩

set_option maxRecDepth 100000 in
set_option maxHeartbeats 2000000 in
theorem nobodyWalk (id : Int) (w : World) :
    Calls Try.prog 5 #[.int .i64 id] w fun e w' => e = .returned (.bool true) ∧ Below w.heap.size w w' := by
  go_enter Try.func5, Try.ntmps5
  go_wp2_with fail
  refine (clear_nil _).mono ?_
  rintro e w1 ⟨rfl, rfl⟩
  go_wp2_with fail
  refine (clear_odd _ _ ?_).mono ?_
  · unfold Odd; rw [heap_alloc_new]
  rintro e w1 ⟨rfl, hO1, hS1⟩
  have hbo : w.heap.size < w1.heap.size := by have := hS1.size; simp at this; omega
  go_wp2_with fail
  refine (new_ok 3 (by omega) _).mono ?_
  rintro e w2 ⟨bs, br, bm, rfl, hA2, hbs, hbr, hbm, hB2⟩
  have hO2 : Odd w2 w.heap.size := hO1.only (OnlyIn.of_below (S := []) hB2) (by simp)
  go_wp2_with fail
  refine (seen_note bs br bm 3 [] id true [id] _ hA2 (by simp) (by simp [note])).mono ?_
  rintro e w3 ⟨rfl, hA3, hS3⟩
  have hO3 : Odd w3 w.heap.size := hO2.only hS3 (by simp; omega)
  go_wp2_with fail
  refine (all_ok bs br bm 3 [id] _ hA3).mono ?_
  rintro e w4 ⟨v, rfl, hown, hB4⟩
  have hO4 : Odd w4 w.heap.size := hO3.only (OnlyIn.of_below (S := []) hB4) (by simp)
  have hA4 : SeenAt w4 bs br bm 3 [id] := hA3.touch (OnlyIn.of_below (S := []) hB4) (by simp) (by simp) (by simp)
  have hl3 := hA3.lts
  obtain ⟨g, cap, rfl, hg, hgl, hcap, hcell, hfr⟩ := own_pos hown (by simp)
  have cg := hcell 0 (.int .i64 id) (by simp [ints])
  have fg := hfr 0
  have hB40 := Lib.hid (((Below.refl w.heap.size w).alloc (Nat.le_refl _) (.cells #[.slice none 0 0, .int .i64 0, .int .i64 0, .map none] 42)).trans
    ((((hS1.to_below (B := w.heap.size) (by simp) (by simp)).trans (hB2.mono (by omega))).trans (hS3.to_below (B := w.heap.size) (by have := hB2.size; omega) (by simp; omega))).trans (hB4.mono (by have := hB2.size; have := hS3.size; omega))))
  have hs4 := hB40.out.size
  have h34 := hB4.size
  clear hcell hfr hown hB4 hB2 hS1 hS3
  go_wp2_with fail
  generalize hw5 : w4.setCell ⟨g, 0, none⟩ (.int .i64 (wrap64 (id + 1))) = w5
  have hT5 : OnlyIn [g] w4 w5 := by rw [← hw5]; exact (OnlyIn.refl _ w4).setCell (by simp) _
  have hO5 : Odd w5 w.heap.size := hO4.only hT5 (by simp; omega)
  have hA5 : SeenAt w5 bs br bm 3 [id] := hA4.touch hT5 (by simp; omega) (by simp; omega) (by simp; omega)
  have HB5 := Lib.hid (hB40.out.trans (hT5.to_below (B := w.heap.size) hs4 (by simp; omega)))
  have hs5 := HB5.out.size
  clear hw5 hT5 hO4 hA4 hB40 cg fg
  refine (note_nil id _).mono ?_
  rintro e w6 ⟨rfl, rfl⟩
  go_wp2_with fail
  refine (note_odd _ id _ hO5).mono ?_
  rintro e w6 ⟨rfl, rfl⟩
  go_wp2_with fail
  refine (note_odd _ id _ hO5).mono ?_
  rintro e w6 ⟨rfl, rfl⟩
  go_wp2_with fail
  refine (has_nil id _).mono ?_
  rintro e w6 ⟨rfl, rfl⟩
  go_wp2_with fail
  refine (has_odd _ id _ hO5).mono ?_
  rintro e w6 ⟨rfl, rfl⟩
  go_wp2_with fail
  refine (len_nil _).mono ?_
  rintro e w6 ⟨rfl, rfl⟩
  go_wp2_with fail
  refine (len_odd _ _ hO5).mono ?_
  rintro e w6 ⟨rfl, rfl⟩
  go_wp2_with fail
  refine (all_nil _).mono ?_
  rintro e w6 ⟨rfl, rfl⟩
  go_wp2_with fail
  refine (all_odd _ _ hO5).mono ?_
  rintro e w6 ⟨rfl, rfl⟩
  go_wp2_with fail
  refine (has_ok bs br bm 3 [id] id _ hA5).mono ?_
  rintro e w6 ⟨rfl, rfl⟩
  rw [show decide (id ∈ [id]) = true from by simp]
  go_wp2_with fail
  refine (all_ok bs br bm 3 [id] _ hA5).mono ?_
  rintro e w7 ⟨v, rfl, hown, hB7⟩
  obtain ⟨A, c, rfl, hSl, _⟩ := own_form hown
  have HB7 := Lib.hid (HB5.out.trans (hB7.mono hs5))
  have hs7 := HB7.out.size
  clear hown hB7 hA5 hO5 HB5
  go_wp2_with fail
  refine (sameInts A _ c 1 _ [id] 1 rfl (by omega) _ ((hSl.keep fun p hp => World.cell?_alloc_lt _ _ p hp).mono (by simp)) (one_cell _ _ _)).mono ?_
  rintro e w8 ⟨rfl, m, rfl⟩
  have HB8 := Lib.hid (below_drewN (HB7.out.alloc hs7 (.cells #[Value.int .i64 id] 3)) m)
  have hs8 := HB8.out.size
  clear hSl
  go_wp2_with fail
  refine (awake _).mono ?_
  rintro e w9 ⟨rfl, hB9⟩
  have HB9 := Lib.hid (HB8.out.trans (hB9.mono hs8))
  clear hB9
  go_wp2
  go_ret
  exact ⟨rfl, HB9.out⟩
end Go.Proofs.Ytmnjgodelnjbkaa
