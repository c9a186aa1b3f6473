/- Contract of awake. No condition. -/
import Derived.Test.YtnlpjgogflcmoaaSlotF
namespace Go.Proofs.Ytnlpjgogflcmoaa
open Go.RowKit Go.Lk

theorem set_some {ps : List (Option (Nat × It))} {q k b : Nat} {x : It} {o : Option (Nat × It)} (h : (ps.set q o)[k]? = some (some (b, x))) : (k = q ∧ o = some (b, x)) ∨ (k ≠ q ∧ ps[k]? = some (some (b, x))) := by
  rw [List.getElem?_set] at h
  split at h
  · split at h
    · injection h with h; exact .inl ⟨by omega, h⟩
    · cases h
  · exact .inr ⟨by omega, h⟩
theorem rep_some {k b : Nat} {x : It} (h : (List.replicate 16 (none : Option (Nat × It)))[k]? = some (some (b, x))) : False := by
  rw [List.getElem?_replicate] at h; split at h <;> simp at h

set_option maxHeartbeats 4000000 in
theorem awake31 (w : World) : Calls Try.prog 6 #[] w fun e w' => e = .returned (.bool true) ∧ Below w.heap.size w w' := by
  go_enter Try.func6, Try.ntmps6
  go_wp2_with fail
  refine (new_ok _ 2 (by omega) (by omega)).mono ?_
  rintro e w1 ⟨bs, rfl, hS1, hbs, hB1⟩
  have HB1 := Lib.hid hB1
  have HS1 := Lib.hid hS1
  clear hS1 hB1
  go_wp2_with fail
  refine (put_ok bs 2 _ _ HS1.out ⟨7, 0, 0, 0, 0, 0, 0⟩ (fun k b z h => (rep_some h).elim) 0 (by omega) rfl (fun k h => by omega)).mono ?_
  rintro e w2 ⟨rfl, hS2, hO2⟩
  have HS2 := Lib.hid hS2
  have HB2 := Lib.hid (HB1.out.trans (hO2.to_below (B := w.heap.size) HB1.out.size (by simp; omega)))
  generalize w1.heap.size = b2 at *
  clear hS2 hO2
  go_wp2_with fail
  have hno2 : ∀ (k b : Nat) (z : It), ((List.replicate 16 none).set 0 (some (b2, (⟨7, 0, 0, 0, 0, 0, 0⟩ : It))))[k]? = some (some (b, z)) → z.id ≠ 8 := by
    intro k b z h
    rcases set_some h with ⟨_, h⟩ | ⟨_, h⟩
    · cases h; decide
    · exact (rep_some h).elim
  have hf2 : ∀ k, k < 1 → ∃ b z, ((List.replicate 16 none).set 0 (some (b2, (⟨7, 0, 0, 0, 0, 0, 0⟩ : It))))[k]? = some (some (b, z)) := by
    intro k h
    match k, h with
    | 0, _ => exact ⟨_, _, rfl⟩
  refine (put_ok bs 2 _ _ HS2.out ⟨8, 0, 0, 0, 0, 0, 0⟩ hno2 1 (by omega) rfl hf2).mono ?_
  rintro e w3 ⟨rfl, hS3, hO3⟩
  have HS3 := Lib.hid hS3
  have HB3 := Lib.hid (HB2.out.trans (hO3.to_below (B := w.heap.size) HB2.out.size (by simp; omega)))
  generalize w2.heap.size = b3 at *
  clear hS3 hO3 hno2 hf2
  go_wp2_with fail
  have hno3 : ∀ (k b : Nat) (z : It), (((List.replicate 16 none).set 0 (some (b2, (⟨7, 0, 0, 0, 0, 0, 0⟩ : It)))).set 1 (some (b3, (⟨8, 0, 0, 0, 0, 0, 0⟩ : It))))[k]? = some (some (b, z)) → z.id ≠ 9 := by
    intro k b z h
    rcases set_some h with ⟨_, h⟩ | ⟨_, h⟩
    · cases h; decide
    · rcases set_some h with ⟨_, h⟩ | ⟨_, h⟩
      · cases h; decide
      · exact (rep_some h).elim
  have hf3 : ∀ k, k < 2 → ∃ b z, (((List.replicate 16 none).set 0 (some (b2, (⟨7, 0, 0, 0, 0, 0, 0⟩ : It)))).set 1 (some (b3, (⟨8, 0, 0, 0, 0, 0, 0⟩ : It))))[k]? = some (some (b, z)) := by
    intro k h
    match k, h with
    | 0, _ => exact ⟨_, _, rfl⟩
    | 1, _ => exact ⟨_, _, rfl⟩
  refine (put_full bs 2 _ _ HS3.out ⟨9, 0, 0, 0, 0, 0, 0⟩ hno3 hf3).mono ?_
  rintro e w4 ⟨rfl, hB4⟩
  have HS4 := Lib.hid (HS3.out.below hB4)
  have HB4 := Lib.hid (HB3.out.trans (hB4.mono HB3.out.size))
  clear hB4 hf3
  go_wp2_with fail
  refine (take_ok bs 2 _ _ HS4.out 7 0 b2 ⟨7, 0, 0, 0, 0, 0, 0⟩ rfl rfl (fun k b z h => by omega)).mono ?_
  rintro e w5 ⟨rfl, hS5, hO5⟩
  have HS5 := Lib.hid hS5
  have HB5 := Lib.hid (HB4.out.trans (hO5.to_below (B := w.heap.size) HB4.out.size (by simp; omega)))
  clear hS5 hO5
  unfold It.arr at *
  have HS5' := Lib.hid (HS5.out.below ((Below.refl _ _).alloc (Nat.le_refl _) (.cells #[.int .i64 7, .int .i64 0, .int .i64 0, .int .i64 0, .int .i64 0, .int .i64 0, .int .i64 0] 29)))
  have HB5' := Lib.hid (HB5.out.alloc HB5.out.size (.cells #[.int .i64 7, .int .i64 0, .int .i64 0, .int .i64 0, .int .i64 0, .int .i64 0, .int .i64 0] 29))
  have hx5 : (w5.alloc (.cells #[.int .i64 7, .int .i64 0, .int .i64 0, .int .i64 0, .int .i64 0, .int .i64 0, .int .i64 0] 29)).cell? ⟨w5.heap.size, 0, none⟩ = some (.int .i64 7) := by simp
  have hl5 : w5.heap.size < (w5.alloc (.cells #[.int .i64 7, .int .i64 0, .int .i64 0, .int .i64 0, .int .i64 0, .int .i64 0, .int .i64 0] 29)).heap.size := by simp
  have hb5 := heap_lt HS5.out.s
  go_wp2_with fail
  generalize w5.alloc (.cells #[.int .i64 7, .int .i64 0, .int .i64 0, .int .i64 0, .int .i64 0, .int .i64 0, .int .i64 0] 29) = wa at *
  have hno4 : ∀ (k b : Nat) (z : It), ((((List.replicate 16 none).set 0 (some (b2, (⟨7, 0, 0, 0, 0, 0, 0⟩ : It)))).set 1 (some (b3, (⟨8, 0, 0, 0, 0, 0, 0⟩ : It)))).set 0 none)[k]? = some (some (b, z)) → z.id ≠ 9 := by
    intro k b z h
    rcases set_some h with ⟨_, h⟩ | ⟨_, h⟩
    · cases h
    · exact hno3 k b z h
  refine (put_ok bs 2 _ _ HS5'.out ⟨9, 0, 0, 0, 0, 0, 0⟩ hno4 0 (by omega) rfl (fun k h => by omega)).mono ?_
  rintro e w6 ⟨rfl, hS6, hO6⟩
  have HS6 := Lib.hid hS6
  have HB6 := Lib.hid (HB5'.out.trans (hO6.to_below (B := w.heap.size) HB5'.out.size (by simp; omega)))
  have hx6 : w6.cell? ⟨w5.heap.size, 0, none⟩ = some (.int .i64 7) := (hO6.cell (p := ⟨w5.heap.size, 0, none⟩) hl5 (by simp; omega)).trans hx5
  generalize wa.heap.size = b6 at *
  generalize w5.heap.size = b5 at *
  clear hS6 hO6 hno4 hno3 hx5 hl5 hb5
  go_wp2_with fail
  refine (free_ok bs 2 _ _ HS6.out).mono ?_
  rintro e w7 ⟨rfl, hB7⟩
  have HB7 := Lib.hid (HB6.out.trans (hB7.mono HB6.out.size))
  clear hB7
  have hn : (its (((((List.replicate 16 none).set 0 (some (b2, (⟨7, 0, 0, 0, 0, 0, 0⟩ : It)))).set 1 (some (b3, (⟨8, 0, 0, 0, 0, 0, 0⟩ : It)))).set 0 none).set 0 (some (b6, (⟨9, 0, 0, 0, 0, 0, 0⟩ : It))))).length = 2 := rfl
  rw [hn]
  clear hn
  go_wp2_with fail
  go_ret
  exact ⟨rfl, HB7.out⟩
end Go.Proofs.Ytnlpjgogflcmoaa
