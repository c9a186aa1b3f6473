/- Note in one contract, and awake. Condition: the window is well made (SeenAt). -/
import Derived.Test.YtmnjgodelnjbkaaSeenD
namespace Go.Proofs.Ytmnjgodelnjbkaa
open Go.RowKit Go.Lk Go.Proofs.SeenLaw

theorem seen_note (bs br bm most : Nat) (l : List Int) (id : Int) (b : Bool) (l' : List Int) (w : World) (h : SeenAt w bs br bm most l) (hb : (!decide (id ∈ l)) = b) (hl : note most l id = l') :
    Calls Try.prog 8 #[.pointer (some ⟨bs, 0, none⟩), .int .i64 id] w fun e w' => e = .returned (.bool b) ∧ SeenAt w' bs br bm most l' ∧ OnlyIn [bs, br, bm] w w' := by
  subst hb hl
  by_cases hid : id ∈ l
  · rw [decide_eq_true hid, note_old _ _ _ hid]
    exact (note_old_ok bs br bm most l id w h hid).mono fun e w' ⟨he, hw⟩ => ⟨he, hw ▸ h, hw ▸ OnlyIn.refl _ _⟩
  · rw [decide_eq_false hid]
    rcases Nat.eq_zero_or_pos most with h0 | h0
    · subst h0
      have hl0 : l = [] := by
        obtain ⟨_, _, _, hI⟩ := h
        exact List.eq_nil_of_length_eq_zero (by have := hI.ring.le; omega)
      subst hl0
      refine (note_zero_ok bs br bm [] id w h).mono fun e w' ⟨he, hw⟩ => ⟨he, ?_, hw ▸ OnlyIn.refl _ _⟩
      rw [note_zero [] id (by simp)]
      exact hw ▸ h
    · exact note_new_ok bs br bm most l id w h hid h0

theorem SeenAt.lts {w : World} {bs br bm most : Nat} {l : List Int} (h : SeenAt w bs br bm most l) : bs < w.heap.size ∧ br < w.heap.size ∧ bm < w.heap.size := by
  obtain ⟨_, _, _, h⟩ := h
  exact ⟨heap_lt h.s, heap_lt h.r, h.m.lt⟩

theorem two_cells (w : World) (x y : Value) (t : TypeId) : Sl (w.alloc (.cells #[x, y] t)) (w.alloc (.cells #[x, y] t)).heap.size (some ⟨w.heap.size, 0, none⟩) [x, y] := by
  intro k u hk
  match k, hk with
  | 0, hk => simp at hk; subst hk; exact ⟨_, rfl, by simp, by simp [Addr.add, World.cell?_alloc_new]⟩
  | 1, hk => simp at hk; subst hk; exact ⟨_, rfl, by simp, by simp [Addr.add, World.cell?_alloc_new]⟩

set_option maxHeartbeats 1000000 in
theorem awake (w : World) : Calls Try.prog 6 #[] w fun e w' => e = .returned (.bool true) ∧ Below w.heap.size w w' := by
  go_enter Try.func6, Try.ntmps6
  go_wp2_with fail
  refine (new_ok 2 (by omega) _).mono ?_
  rintro e w1 ⟨bs, br, bm, rfl, hS1, hbs, hbr, hbm, hB1⟩
  go_wp2_with fail
  refine (seen_note bs br bm 2 [] 5 true [5] _ hS1 (by decide) (by decide)).mono ?_
  rintro e w2 ⟨rfl, hS2, hO2⟩
  go_wp2_with fail
  refine (seen_note bs br bm 2 [5] 6 true [5, 6] _ hS2 (by decide) (by decide)).mono ?_
  rintro e w3 ⟨rfl, hS3, hO3⟩
  go_wp2_with fail
  refine (seen_note bs br bm 2 [5, 6] 5 false [5, 6] _ hS3 (by decide) (by decide)).mono ?_
  rintro e w4 ⟨rfl, hS4, hO4⟩
  go_wp2_with fail
  refine (seen_note bs br bm 2 [5, 6] 7 true [6, 7] _ hS4 (by decide) (by decide)).mono ?_
  rintro e w5 ⟨rfl, hS5, hO5⟩
  go_wp2_with fail
  refine (seen_note bs br bm 2 [6, 7] 5 true [7, 5] _ hS5 (by decide) (by decide)).mono ?_
  rintro e w6 ⟨rfl, hS6, hO6⟩
  have HB6 := Lib.hid (hB1.trans ((((((hO2.trans hO3).trans hO4).trans hO5).trans hO6)).to_below hB1.size (by simp; omega)))
  have hs6 : w.heap.size ≤ w6.heap.size := HB6.out.size
  clear hO2 hO3 hO4 hO5 hO6 hS1 hS2 hS3 hS4 hS5 hB1
  go_wp2_with fail
  refine (all_ok bs br bm 2 [7, 5] _ hS6).mono ?_
  rintro e w7 ⟨v, rfl, hown, hB7⟩
  obtain ⟨A, c, rfl, hSl, _⟩ := own_form hown
  have HB7 := Lib.hid (HB6.out.trans (hB7.mono hs6))
  have hs7 : w.heap.size ≤ w7.heap.size := HB7.out.size
  clear hown hB7 hS6
  go_wp2_with fail
  refine (sameInts A _ c 2 _ [7, 5] 2 rfl (by omega) _ ((hSl.keep fun p hp => World.cell?_alloc_lt _ _ p hp).mono (by simp)) (two_cells _ _ _ _)).mono ?_
  rintro e w8 ⟨rfl, m, rfl⟩
  have HB8 := Lib.hid (below_drewN (HB7.out.alloc hs7 (.cells #[Value.int .i64 7, Value.int .i64 5] 3)) m)
  clear hSl
  go_wp2
  go_ret
  exact ⟨rfl, HB8.out⟩
end Go.Proofs.Ytmnjgodelnjbkaa
