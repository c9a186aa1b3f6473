/- The contract of the document's Take. Condition: a row of at most 16 places, that lies at the head of a block. -/
import Derived.Test.YtnlpjgogflcmoaaSlotP
import Derived.Deep.RegionWith
namespace Go.Proofs.Ytnlpjgogflcmoaa
open Go.RowKit Go.Lk

section
variable (w : World) (g n c : Nat) (qs : List (Option It))
set_option maxHeartbeats 4000000 in
theorem r_take (h : Rw w g n qs) (id : Int) :
    Calls Try.prog 16 #[.slice (some ⟨g, 0, none⟩) n c, .int .i64 id] w fun e w' => ∃ g' c', e = .returned (.tuple #[.slice (some ⟨g', 0, none⟩) n c', .agg (takeR qs id).2.1.arr, .bool (takeR qs id).2.2]) ∧ Rw w' g' n (takeR qs id).1 ∧ (g' = g ∨ w.heap.size ≤ g') ∧ Below w.heap.size w w' := by
  have hR1 := h.al (.cells It.zero.arr 29)
  have HP := Lib.hid (r_place _ g n c qs hR1 id)
  have HB := Lib.hid ((Below.refl w.heap.size w).alloc (Nat.le_refl _) (.cells It.zero.arr 29))
  have hz := heap_alloc_new w (.cells It.zero.arr 29)
  obtain ⟨z0, z1, z2, z3, z4, z5, z6⟩ := It.cell It.zero hz
  have fz : ∀ i, (w.alloc (.cells It.zero.arr 29)).frozen? ⟨w.heap.size, i, none⟩ = false := fun i => frozen_of_row _ _ i _ _ hz
  have HR := Lib.hid hR1
  have hsm := h.small
  have hgl : g < w.heap.size := h.lt
  have hgl2 : g < (w.alloc (.cells It.zero.arr 29)).heap.size := by simp; omega
  have hzl : w.heap.size < (w.alloc (.cells It.zero.arr 29)).heap.size := by simp
  clear hR1 h
  cases hp : placeR qs id with
  | none =>
    have e1 : takeR qs id = (qs, It.zero, false) := by unfold takeR; rw [hp]
    rw [e1]
    rw [hp] at HP
    unfold plc at HP
    clear hp e1 hz
    unfold It.arr It.zero at *
    go_enter Try.func16, Try.ntmps16
    go_wp2_with fail
    refine HP.out.mono ?_
    rintro e w1 ⟨rfl, hw⟩
    subst hw
    go_wp2_with fail
    exact bodyPost_ret (v := .tuple #[.slice (some ⟨g, 0, none⟩) n c, .agg #[.int .i64 0, .int .i64 0, .int .i64 0, .int .i64 0, .int .i64 0, .int .i64 0, .int .i64 0], .bool false]) (by simp [results, Try.results16, go_sem]) rfl ⟨g, c, rfl, HR.out, .inl rfl, HB.out⟩
  | some q =>
    obtain ⟨⟨y, hx, hid⟩, hn⟩ := place_some hp
    have e1 : takeR qs id = (qs.set q none, y, true) := by unfold takeR; rw [hp]; simp [hx]
    rw [e1]
    rw [hp] at HP
    unfold plc at HP
    have hqn : q < n := by have := (List.getElem?_eq_some_iff.1 hx).1; have := HR.out.len; omega
    have HW := Lib.hid (fun w2 (hR2 : Rw w2 g n qs) => r_with w2 g n c qs hR2 q hqn none)
    have HX := Lib.hid hx
    have HZ := Lib.hid hz
    have HSZ : Hid ((w.alloc (.cells It.zero.arr 29)).heap.size = w.heap.size + 1) := by simp [Hid]
    clear hp e1 hx hid hn hz
    unfold It.arr It.zero at *
    go_enter Try.func16, Try.ntmps16
    go_wp2_with fail
    refine HP.out.mono ?_
    rintro e w1 ⟨rfl, hw⟩
    subst hw
    go_wp2_with fail
    generalize w.alloc (.cells #[.int .i64 0, .int .i64 0, .int .i64 0, .int .i64 0, .int .i64 0, .int .i64 0, .int .i64 0] 29) = wa at *
    obtain ⟨c0, c1, c2, c3, c4, c5, c6, c7⟩ := HR.out.some_ HX.out
    have hne : g ≠ w.heap.size := by omega
    have hne2 : w.heap.size ≠ g := by omega
    have q1 : (q : Int) < (n : Int) := by omega
    go_region_with (first | (go_at_call 24; refine (HW.out _ (HR.out.below (Below.refl _ _).drew)).mono ?_; rintro e w2 ⟨g2, cc2, rfl, hR2, hg2, hB2⟩; have z0 := (hB2.cell (p := ⟨w.heap.size, 0, none⟩) hzl).trans z0; have z1 := (hB2.cell (p := ⟨w.heap.size, 1, none⟩) hzl).trans z1; have z2 := (hB2.cell (p := ⟨w.heap.size, 2, none⟩) hzl).trans z2; have z3 := (hB2.cell (p := ⟨w.heap.size, 3, none⟩) hzl).trans z3; have z4 := (hB2.cell (p := ⟨w.heap.size, 4, none⟩) hzl).trans z4; have z5 := (hB2.cell (p := ⟨w.heap.size, 5, none⟩) hzl).trans z5; have z6 := (hB2.cell (p := ⟨w.heap.size, 6, none⟩) hzl).trans z6; have c1 := (hB2.cell (p := ⟨g, q * 8 + 1, none⟩) hgl2).trans c1; have c2 := (hB2.cell (p := ⟨g, q * 8 + 2, none⟩) hgl2).trans c2; have c3 := (hB2.cell (p := ⟨g, q * 8 + 3, none⟩) hgl2).trans c3; have c4 := (hB2.cell (p := ⟨g, q * 8 + 4, none⟩) hgl2).trans c4; have c5 := (hB2.cell (p := ⟨g, q * 8 + 5, none⟩) hgl2).trans c5; have c6 := (hB2.cell (p := ⟨g, q * 8 + 6, none⟩) hgl2).trans c6; have c7 := (hB2.cell (p := ⟨g, q * 8 + 7, none⟩) hgl2).trans c7; have fz2 := fun i => (World.frozen?_of_block (hB2.block w.heap.size hzl)).trans (fz i); have HR2 := Lib.hid hR2; have HB2 := Lib.hid hB2; have HG2 := Lib.hid hg2; have HZ2 := Lib.hid ((hB2.block w.heap.size hzl).trans HZ.out); clear hR2 hB2 hg2))
    all_goals
      go_wp2_with fail
      have hz4 : (((((((w2.setCell ⟨w.heap.size, 0, none⟩ (.int .i64 y.id)).setCell ⟨w.heap.size, 1, none⟩ (.int .i64 y.lv)).setCell ⟨w.heap.size, 2, none⟩ (.int .i64 y.fr)).setCell ⟨w.heap.size, 3, none⟩ (.int .i64 y.dl)).setCell ⟨w.heap.size, 4, none⟩ (.int .i64 y.bu)).setCell ⟨w.heap.size, 5, none⟩ (.int .i64 y.si)).setCell ⟨w.heap.size, 6, none⟩ (.int .i64 y.sq)).heap[w.heap.size]? = some (.cells y.arr 29 (0, 0)) := (heap_set1 (heap_set1 (heap_set1 (heap_set1 (heap_set1 (heap_set1 (heap_set1 HZ2.out 0 (.int .i64 y.id)) 1 (.int .i64 y.lv)) 2 (.int .i64 y.fr)) 3 (.int .i64 y.dl)) 4 (.int .i64 y.bu)) 5 (.int .i64 y.si)) 6 (.int .i64 y.sq))
      have hO4 : OnlyIn [w.heap.size] w2 (((((((w2.setCell ⟨w.heap.size, 0, none⟩ (.int .i64 y.id)).setCell ⟨w.heap.size, 1, none⟩ (.int .i64 y.lv)).setCell ⟨w.heap.size, 2, none⟩ (.int .i64 y.fr)).setCell ⟨w.heap.size, 3, none⟩ (.int .i64 y.dl)).setCell ⟨w.heap.size, 4, none⟩ (.int .i64 y.bu)).setCell ⟨w.heap.size, 5, none⟩ (.int .i64 y.si)).setCell ⟨w.heap.size, 6, none⟩ (.int .i64 y.sq)) := ((((((((OnlyIn.refl [w.heap.size] w2).setCell (p := ⟨w.heap.size, 0, none⟩) (by simp) (.int .i64 y.id)).setCell (p := ⟨w.heap.size, 1, none⟩) (by simp) (.int .i64 y.lv)).setCell (p := ⟨w.heap.size, 2, none⟩) (by simp) (.int .i64 y.fr)).setCell (p := ⟨w.heap.size, 3, none⟩) (by simp) (.int .i64 y.dl)).setCell (p := ⟨w.heap.size, 4, none⟩) (by simp) (.int .i64 y.bu)).setCell (p := ⟨w.heap.size, 5, none⟩) (by simp) (.int .i64 y.si)).setCell (p := ⟨w.heap.size, 6, none⟩) (by simp) (.int .i64 y.sq))
      generalize (((((((w2.setCell ⟨w.heap.size, 0, none⟩ (.int .i64 y.id)).setCell ⟨w.heap.size, 1, none⟩ (.int .i64 y.lv)).setCell ⟨w.heap.size, 2, none⟩ (.int .i64 y.fr)).setCell ⟨w.heap.size, 3, none⟩ (.int .i64 y.dl)).setCell ⟨w.heap.size, 4, none⟩ (.int .i64 y.bu)).setCell ⟨w.heap.size, 5, none⟩ (.int .i64 y.si)).setCell ⟨w.heap.size, 6, none⟩ (.int .i64 y.sq)) = w4 at *
      obtain ⟨y0, y1, y2, y3, y4, y5, y6⟩ := It.cell y hz4
      have hg3 : w.heap.size + 1 ≤ g2 := by have h1 : wa.heap.size ≤ g2 := HG2.out; have h2 := HSZ.out; omega
      have hB3 : Below wa.heap.size wa w2 := (Below.refl wa.heap.size wa).drew.trans HB2.out
      exact bodyPost_ret (v := .tuple #[.slice (some ⟨g2, 0, none⟩) n cc2, .agg #[.int .i64 y.id, .int .i64 y.lv, .int .i64 y.fr, .int .i64 y.dl, .int .i64 y.bu, .int .i64 y.si, .int .i64 y.sq], .bool true]) (by simp [results, Try.results16, go_sem, y0, y1, y2, y3, y4, y5, y6]) rfl ⟨g2, cc2, rfl, HR2.out.only hO4 (by simp; omega), .inr (by omega), (HB.out.trans (hB3.mono HB.out.size)).trans (hO4.to_below (B := w.heap.size) (by have := hB3.size; have := HB.out.size; omega) (by simp))⟩
end
end Go.Proofs.Ytnlpjgogflcmoaa
