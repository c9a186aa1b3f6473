/- Contracts of the document's with and Put. Condition: a row of at most 16 places, that lies at the head of a block. -/
import Derived.Test.YtnlpjgogflcmoaaSlotM
namespace Go.Proofs.Ytnlpjgogflcmoaa
open Go.RowKit Go.Lk

theorem Try.info53 : (Try.prog.info? 53).map (fun i => (i.zero, i.size, i.bytes)) = some (some (.agg (scell none).toArray), 8, 64) := by kernel_rfl
theorem scell_form (o : Option It) : ∃ b x, scell o = .bool b :: (It.arr x).toList := by
  cases o with
  | none => exact ⟨false, It.zero, rfl⟩
  | some x => exact ⟨true, x, rfl⟩
/-- A place's cells, stored one by one. -/
def sets (xs : List Value) (p : Nat) (v0 v1 v2 v3 v4 v5 v6 v7 : Value) : List Value :=
  (((((((xs.set p v0).set (p + 1) v1).set (p + 2) v2).set (p + 3) v3).set (p + 4) v4).set (p + 5) v5).set (p + 6) v6).set (p + 7) v7
theorem sets_other {xs : List Value} {p j : Nat} (v0 v1 v2 v3 v4 v5 v6 v7 : Value) (h : j < p ∨ p + 8 ≤ j) : (sets xs p v0 v1 v2 v3 v4 v5 v6 v7)[j]? = xs[j]? := by
  unfold sets
  rw [List.getElem?_set_ne (by omega), List.getElem?_set_ne (by omega), List.getElem?_set_ne (by omega), List.getElem?_set_ne (by omega), List.getElem?_set_ne (by omega), List.getElem?_set_ne (by omega), List.getElem?_set_ne (by omega), List.getElem?_set_ne (by omega)]
theorem sets_at {xs : List Value} {p : Nat} (v0 v1 v2 v3 v4 v5 v6 v7 : Value) (h : p + 8 ≤ xs.length) (i : Nat) (hi : i < 8) : (sets xs p v0 v1 v2 v3 v4 v5 v6 v7)[p + i]? = [v0, v1, v2, v3, v4, v5, v6, v7][i]? := by
  unfold sets
  match i, hi with
  | 0, _ => simp [List.getElem?_set]; omega
  | 1, _ => simp [List.getElem?_set]; omega
  | 2, _ => simp [List.getElem?_set]; omega
  | 3, _ => simp [List.getElem?_set]; omega
  | 4, _ => simp [List.getElem?_set]; omega
  | 5, _ => simp [List.getElem?_set]; omega
  | 6, _ => simp [List.getElem?_set]; omega
  | 7, _ => simp [List.getElem?_set]; omega
theorem sc_sets (qs : List (Option It)) (k : Nat) (hk : k < qs.length) (o : Option It) (v0 v1 v2 v3 v4 v5 v6 v7 : Value) (ho : scell o = [v0, v1, v2, v3, v4, v5, v6, v7]) (j : Nat) (u : Value)
    (h : (sc (qs.set k o))[j]? = some u) : (sets (sc qs) (k * 8) v0 v1 v2 v3 v4 v5 v6 v7)[j]? = some u := by
  have hje : j = j / 8 * 8 + j % 8 := by omega
  have hi : j % 8 < 8 := Nat.mod_lt _ (by omega)
  rw [hje, sc_get _ _ _ hi] at h
  by_cases hq : k = j / 8
  · rw [← hq] at h hje
    rw [List.getElem?_set_self hk] at h
    simp only [Option.bind_some, ho] at h
    rw [hje, sets_at v0 v1 v2 v3 v4 v5 v6 v7 (by rw [sc_length]; omega) _ hi]
    exact h
  · rw [List.getElem?_set_ne hq, ← sc_get _ _ _ hi, ← hje] at h
    rw [sets_other v0 v1 v2 v3 v4 v5 v6 v7 (by omega)]
    exact h

theorem stored8 {w2 : World} {g' n cap base : Nat} {qs : List (Option It)} (hown : w2.ownsRow base 53 8 (.slice (some ⟨g', 0, none⟩) n cap) n (sc qs)) (hl : qs.length = n) (hs : n ≤ 16) (k : Nat) (hk : k < n) (o : Option It) (b : Bool) (x : It)
    (ho : scell o = [.bool b, .int .i64 x.id, .int .i64 x.lv, .int .i64 x.fr, .int .i64 x.dl, .int .i64 x.bu, .int .i64 x.si, .int .i64 x.sq]) :
    Rw ((((((((w2.setCell ⟨g', k * 8, none⟩ (.bool b)).setCell ⟨g', k * 8 + 1, none⟩ (.int .i64 x.id)).setCell ⟨g', k * 8 + 2, none⟩ (.int .i64 x.lv)).setCell ⟨g', k * 8 + 3, none⟩ (.int .i64 x.fr)).setCell ⟨g', k * 8 + 4, none⟩ (.int .i64 x.dl)).setCell ⟨g', k * 8 + 5, none⟩ (.int .i64 x.bu)).setCell ⟨g', k * 8 + 6, none⟩ (.int .i64 x.si)).setCell ⟨g', k * 8 + 7, none⟩ (.int .i64 x.sq)) g' n (qs.set k o) ∧ OnlyIn [g'] w2 ((((((((w2.setCell ⟨g', k * 8, none⟩ (.bool b)).setCell ⟨g', k * 8 + 1, none⟩ (.int .i64 x.id)).setCell ⟨g', k * 8 + 2, none⟩ (.int .i64 x.lv)).setCell ⟨g', k * 8 + 3, none⟩ (.int .i64 x.fr)).setCell ⟨g', k * 8 + 4, none⟩ (.int .i64 x.dl)).setCell ⟨g', k * 8 + 5, none⟩ (.int .i64 x.bu)).setCell ⟨g', k * 8 + 6, none⟩ (.int .i64 x.si)).setCell ⟨g', k * 8 + 7, none⟩ (.int .i64 x.sq)) := by
  have h8 : ((((((((w2.setCell ⟨g', k * 8, none⟩ (.bool b)).setCell ⟨g', k * 8 + 1, none⟩ (.int .i64 x.id)).setCell ⟨g', k * 8 + 2, none⟩ (.int .i64 x.lv)).setCell ⟨g', k * 8 + 3, none⟩ (.int .i64 x.fr)).setCell ⟨g', k * 8 + 4, none⟩ (.int .i64 x.dl)).setCell ⟨g', k * 8 + 5, none⟩ (.int .i64 x.bu)).setCell ⟨g', k * 8 + 6, none⟩ (.int .i64 x.si)).setCell ⟨g', k * 8 + 7, none⟩ (.int .i64 x.sq)).ownsRow base 53 8 (.slice (some ⟨g', 0, none⟩) n cap) n (sets (sc qs) (k * 8) (.bool b) (.int .i64 x.id) (.int .i64 x.lv) (.int .i64 x.fr) (.int .i64 x.dl) (.int .i64 x.bu) (.int .i64 x.si) (.int .i64 x.sq)) := ((((((((hown.stored (k * 8) (.bool b)).1.stored (k * 8 + 1) (.int .i64 x.id)).1.stored (k * 8 + 2) (.int .i64 x.lv)).1.stored (k * 8 + 3) (.int .i64 x.fr)).1.stored (k * 8 + 4) (.int .i64 x.dl)).1.stored (k * 8 + 5) (.int .i64 x.bu)).1.stored (k * 8 + 6) (.int .i64 x.si)).1.stored (k * 8 + 7) (.int .i64 x.sq)).1
  have hO8 : OnlyIn [g'] w2 ((((((((w2.setCell ⟨g', k * 8, none⟩ (.bool b)).setCell ⟨g', k * 8 + 1, none⟩ (.int .i64 x.id)).setCell ⟨g', k * 8 + 2, none⟩ (.int .i64 x.lv)).setCell ⟨g', k * 8 + 3, none⟩ (.int .i64 x.fr)).setCell ⟨g', k * 8 + 4, none⟩ (.int .i64 x.dl)).setCell ⟨g', k * 8 + 5, none⟩ (.int .i64 x.bu)).setCell ⟨g', k * 8 + 6, none⟩ (.int .i64 x.si)).setCell ⟨g', k * 8 + 7, none⟩ (.int .i64 x.sq)) := (((((((((OnlyIn.refl [g'] w2).setCell (p := ⟨g', k * 8, none⟩) (by simp) (.bool b)).setCell (p := ⟨g', k * 8 + 1, none⟩) (by simp) (.int .i64 x.id)).setCell (p := ⟨g', k * 8 + 2, none⟩) (by simp) (.int .i64 x.lv)).setCell (p := ⟨g', k * 8 + 3, none⟩) (by simp) (.int .i64 x.fr)).setCell (p := ⟨g', k * 8 + 4, none⟩) (by simp) (.int .i64 x.dl)).setCell (p := ⟨g', k * 8 + 5, none⟩) (by simp) (.int .i64 x.bu)).setCell (p := ⟨g', k * 8 + 6, none⟩) (by simp) (.int .i64 x.si)).setCell (p := ⟨g', k * 8 + 7, none⟩) (by simp) (.int .i64 x.sq))
  refine ⟨⟨?_, by rw [List.length_set]; exact hl, hs, fun j u hu => ?_⟩, hO8⟩
  · exact Nat.lt_of_lt_of_le (hown.lt g' rfl).2 hO8.size
  · have h9 := sc_sets qs k (by omega) o (.bool b) (.int .i64 x.id) (.int .i64 x.lv) (.int .i64 x.fr) (.int .i64 x.dl) (.int .i64 x.bu) (.int .i64 x.si) (.int .i64 x.sq) ho j u hu
    generalize ((((((((w2.setCell ⟨g', k * 8, none⟩ (.bool b)).setCell ⟨g', k * 8 + 1, none⟩ (.int .i64 x.id)).setCell ⟨g', k * 8 + 2, none⟩ (.int .i64 x.lv)).setCell ⟨g', k * 8 + 3, none⟩ (.int .i64 x.fr)).setCell ⟨g', k * 8 + 4, none⟩ (.int .i64 x.dl)).setCell ⟨g', k * 8 + 5, none⟩ (.int .i64 x.bu)).setCell ⟨g', k * 8 + 6, none⟩ (.int .i64 x.si)).setCell ⟨g', k * 8 + 7, none⟩ (.int .i64 x.sq)) = w8 at *
    have hj : j < n * 8 := by
      have := (List.getElem?_eq_some_iff.1 hu).1
      rw [sc_length, List.length_set] at this; omega
    rw [h8.cellAt j hj]
    exact h9
section
variable (w : World) (g n c : Nat) (qs : List (Option It))
set_option maxHeartbeats 4000000 in
theorem r_with (h : Rw w g n qs) (k : Nat) (hk : k < n) (o : Option It) :
    Calls Try.prog 24 #[.slice (some ⟨g, 0, none⟩) n c, .int .i64 (k : Int), .agg (scell o).toArray] w fun e w' => ∃ g' c', e = .returned (.slice (some ⟨g', 0, none⟩) n c') ∧ Rw w' g' n (qs.set k o) ∧ w.heap.size ≤ g' ∧ Below w.heap.size w w' := by
  obtain ⟨i0, hi0, hz0, hz1, hz2⟩ := info_parts Try.info53
  obtain ⟨b, x, hbx⟩ := scell_form o
  have hsm := h.small
  have hR1 := h.al (.cells (scell o).toArray 53)
  have hlq : (sc qs).length = n * 8 := by rw [sc_length, h.len]
  obtain ⟨v', w2, hr, hown, hgr, _, _⟩ := run_append_own_at (P := Try.prog) (w.alloc (.cells (scell o).toArray 53)) (w.heap.size + 1) 43 43 53 i0 _ 8 64 Try.underlying43 hi0 hz0 hz1 hz2 rfl (by omega) (.slice none 0 0) 0 [] (World.ownsRow_nil _ _ _ _)
    ⟨g, 0, none⟩ n c (sc qs) hlq (fun j u hu => by
      have h3 : (⟨g, 0, none⟩ : Addr).add j = ⟨g, j, none⟩ := by unfold Addr.add; split <;> simp_all
      rw [h3]; exact hR1.cell j u hu) (by
      intro u hu
      unfold sc at hu
      rw [List.mem_flatten] at hu
      obtain ⟨l, hl, hu⟩ := hu
      rw [List.mem_map] at hl
      obtain ⟨o', _, rfl⟩ := hl
      cases o' <;> simp [scell, It.arr, It.zero] at hu <;> rcases hu with rfl | rfl | rfl | rfl | rfl | rfl | rfl | rfl <;> rfl) (by unfold maxLen; omega) (by omega) (by simp)
  rw [Nat.zero_add, List.nil_append] at hown
  obtain ⟨g', cap, rfl, hg1, hg2, hnc, hcell, hfz⟩ := own_posN hown (by omega)
  have hw2 : w2.heap[w.heap.size]? = some (.cells (scell o).toArray 53 (0, 0)) := (hgr.block _ (by simp) (by simp [Value.ownBlock])).trans (heap_alloc_new w _)
  have e8 : (scell o).toArray = #[.bool b, .int .i64 x.id, .int .i64 x.lv, .int .i64 x.fr, .int .i64 x.dl, .int .i64 x.bu, .int .i64 x.si, .int .i64 x.sq] := by rw [hbx]; rfl
  obtain ⟨hR8, hO8⟩ := stored8 hown h.len hsm k hk o b x hbx
  have hBw := ((((Below.refl w.heap.size w).alloc (Nat.le_refl _) (.cells (scell o).toArray 53)).grown hgr (by simp) (by simp [Value.ownBlock])).trans (hO8.to_below (B := w.heap.size) (by omega) (by simp; omega)))
  have FIN := Lib.hid (And.intro hR8 (And.intro (show w.heap.size ≤ g' by omega) hBw))
  have hk8 : ∀ i, i < 8 → ∃ u, w2.cell? ⟨g', k * 8 + i, none⟩ = some u := by
    intro i hi
    have hl : k * 8 + i < (sc qs).length := by omega
    exact ⟨_, hcell _ _ (List.getElem?_eq_getElem hl)⟩
  obtain ⟨t0, k0⟩ := hk8 0 (by omega)
  obtain ⟨t1, k1⟩ := hk8 1 (by omega)
  obtain ⟨t2, k2⟩ := hk8 2 (by omega)
  obtain ⟨t3, k3⟩ := hk8 3 (by omega)
  obtain ⟨t4, k4⟩ := hk8 4 (by omega)
  obtain ⟨t5, k5⟩ := hk8 5 (by omega)
  obtain ⟨t6, k6⟩ := hk8 6 (by omega)
  obtain ⟨t7, k7⟩ := hk8 7 (by omega)
  have k0 : w2.cell? ⟨g', k * 8, none⟩ = some t0 := k0
  rw [e8] at hw2 hr
  have hq : ∀ i v, #[Value.bool b, .int .i64 x.id, .int .i64 x.lv, .int .i64 x.fr, .int .i64 x.dl, .int .i64 x.bu, .int .i64 x.si, .int .i64 x.sq][i]? = some v → w2.cell? ⟨w.heap.size, i, none⟩ = some v := fun i v hv => by rw [cell_of_row w2 _ i _ _ _ hw2]; exact hv
  have q0 : w2.cell? ⟨w.heap.size, 0, none⟩ = some (.bool b) := hq 0 _ rfl
  have q1 : w2.cell? ⟨w.heap.size, 1, none⟩ = some (.int .i64 x.id) := hq 1 _ rfl
  have q2 : w2.cell? ⟨w.heap.size, 2, none⟩ = some (.int .i64 x.lv) := hq 2 _ rfl
  have q3 : w2.cell? ⟨w.heap.size, 3, none⟩ = some (.int .i64 x.fr) := hq 3 _ rfl
  have q4 : w2.cell? ⟨w.heap.size, 4, none⟩ = some (.int .i64 x.dl) := hq 4 _ rfl
  have q5 : w2.cell? ⟨w.heap.size, 5, none⟩ = some (.int .i64 x.bu) := hq 5 _ rfl
  have q6 : w2.cell? ⟨w.heap.size, 6, none⟩ = some (.int .i64 x.si) := hq 6 _ rfl
  have q7 : w2.cell? ⟨w.heap.size, 7, none⟩ = some (.int .i64 x.sq) := hq 7 _ rfl
  rw [e8]
  have hkn : (k : Int) < (n : Int) := by omega
  clear hR8 hO8 hBw e8 hbx hown hgr hcell hk8 hw2 hq hR1 hlq h
  go_enter Try.func24, Try.ntmps24
  go_wp2_with (at_builtin; refine appendBy rfl _ _ 43 rfl _ _ rfl rfl _ _ hr ?_)
  go_ret
  exact ⟨g', ⟨cap, rfl⟩, FIN.out⟩
end
end Go.Proofs.Ytnlpjgogflcmoaa
