/- Contracts of Clear and awake. Condition: the places are well made (SlotIs). -/
import Derived.Test.YtnlpjgogflcmoaaSlotE
namespace Go.Proofs.Ytnlpjgogflcmoaa
open Go.RowKit Go.Lk

theorem row_set {w : World} {bs : Nat} {v : Value} {ps : List (Option (Nat × It))} (h : w.heap[bs]? = some (.cells (v :: ps.map pval).toArray 60 (0, 0))) (q : Nat) :
    (w.setCell ⟨bs, q + 1, none⟩ (.pointer none)).heap[bs]? = some (.cells (v :: (ps.set q none).map pval).toArray 60 (0, 0)) := by
  rw [heap_set1 h (q + 1) _]
  congr 2
  rw [List.setIfInBounds_toArray, List.set_cons_succ, List.map_set]
  rfl

set_option maxHeartbeats 4000000 in
theorem clear_ok (bs many : Nat) (ps : List (Option (Nat × It))) (w : World) (h : SlotIs w bs many ps) :
    Calls Try.prog 19 #[.pointer (some ⟨bs, 0, none⟩)] w fun e w' => e = .returned (.tuple #[]) ∧ SlotIs w' bs many (List.replicate 16 none) ∧ OnlyIn [bs] w w' := by
  match ps, h.len, h with
  | [p0, p1, p2, p3, p4, p5, p6, p7, p8, p9, p10, p11, p12, p13, p14, p15], _, h =>
    have c0 : w.cell? ⟨bs, 1, none⟩ = some (pval p0) := h.ck (k := 0) rfl
    have c1 : w.cell? ⟨bs, 2, none⟩ = some (pval p1) := h.ck (k := 1) rfl
    have c2 : w.cell? ⟨bs, 3, none⟩ = some (pval p2) := h.ck (k := 2) rfl
    have c3 : w.cell? ⟨bs, 4, none⟩ = some (pval p3) := h.ck (k := 3) rfl
    have c4 : w.cell? ⟨bs, 5, none⟩ = some (pval p4) := h.ck (k := 4) rfl
    have c5 : w.cell? ⟨bs, 6, none⟩ = some (pval p5) := h.ck (k := 5) rfl
    have c6 : w.cell? ⟨bs, 7, none⟩ = some (pval p6) := h.ck (k := 6) rfl
    have c7 : w.cell? ⟨bs, 8, none⟩ = some (pval p7) := h.ck (k := 7) rfl
    have c8 : w.cell? ⟨bs, 9, none⟩ = some (pval p8) := h.ck (k := 8) rfl
    have c9 : w.cell? ⟨bs, 10, none⟩ = some (pval p9) := h.ck (k := 9) rfl
    have c10 : w.cell? ⟨bs, 11, none⟩ = some (pval p10) := h.ck (k := 10) rfl
    have c11 : w.cell? ⟨bs, 12, none⟩ = some (pval p11) := h.ck (k := 11) rfl
    have c12 : w.cell? ⟨bs, 13, none⟩ = some (pval p12) := h.ck (k := 12) rfl
    have c13 : w.cell? ⟨bs, 14, none⟩ = some (pval p13) := h.ck (k := 13) rfl
    have c14 : w.cell? ⟨bs, 15, none⟩ = some (pval p14) := h.ck (k := 14) rfl
    have c15 : w.cell? ⟨bs, 16, none⟩ = some (pval p15) := h.ck (k := 15) rfl
    have fz : ∀ i, w.frozen? ⟨bs, i, none⟩ = false := fun i => by simp [World.frozen?, h.s]
    have FIN : Hid (SlotIs ((((((((((((((((w.setCell ⟨bs, 1, none⟩ (.pointer none)).setCell ⟨bs, 2, none⟩ (.pointer none)).setCell ⟨bs, 3, none⟩ (.pointer none)).setCell ⟨bs, 4, none⟩ (.pointer none)).setCell ⟨bs, 5, none⟩ (.pointer none)).setCell ⟨bs, 6, none⟩ (.pointer none)).setCell ⟨bs, 7, none⟩ (.pointer none)).setCell ⟨bs, 8, none⟩ (.pointer none)).setCell ⟨bs, 9, none⟩ (.pointer none)).setCell ⟨bs, 10, none⟩ (.pointer none)).setCell ⟨bs, 11, none⟩ (.pointer none)).setCell ⟨bs, 12, none⟩ (.pointer none)).setCell ⟨bs, 13, none⟩ (.pointer none)).setCell ⟨bs, 14, none⟩ (.pointer none)).setCell ⟨bs, 15, none⟩ (.pointer none)).setCell ⟨bs, 16, none⟩ (.pointer none)) bs many (List.replicate 16 none) ∧ OnlyIn [bs] w ((((((((((((((((w.setCell ⟨bs, 1, none⟩ (.pointer none)).setCell ⟨bs, 2, none⟩ (.pointer none)).setCell ⟨bs, 3, none⟩ (.pointer none)).setCell ⟨bs, 4, none⟩ (.pointer none)).setCell ⟨bs, 5, none⟩ (.pointer none)).setCell ⟨bs, 6, none⟩ (.pointer none)).setCell ⟨bs, 7, none⟩ (.pointer none)).setCell ⟨bs, 8, none⟩ (.pointer none)).setCell ⟨bs, 9, none⟩ (.pointer none)).setCell ⟨bs, 10, none⟩ (.pointer none)).setCell ⟨bs, 11, none⟩ (.pointer none)).setCell ⟨bs, 12, none⟩ (.pointer none)).setCell ⟨bs, 13, none⟩ (.pointer none)).setCell ⟨bs, 14, none⟩ (.pointer none)).setCell ⟨bs, 15, none⟩ (.pointer none)).setCell ⟨bs, 16, none⟩ (.pointer none))) := by
      refine ⟨⟨(row_set (row_set (row_set (row_set (row_set (row_set (row_set (row_set (row_set (row_set (row_set (row_set (row_set (row_set (row_set (row_set h.s 0) 1) 2) 3) 4) 5) 6) 7) 8) 9) 10) 11) 12) 13) 14) 15), by simp, fun k b x hk => ?_, h.small, fun k b x hk => ?_⟩, (((((((((((((((((OnlyIn.refl [bs] w).setCell (p := ⟨bs, 1, none⟩) (by simp) (.pointer none)).setCell (p := ⟨bs, 2, none⟩) (by simp) (.pointer none)).setCell (p := ⟨bs, 3, none⟩) (by simp) (.pointer none)).setCell (p := ⟨bs, 4, none⟩) (by simp) (.pointer none)).setCell (p := ⟨bs, 5, none⟩) (by simp) (.pointer none)).setCell (p := ⟨bs, 6, none⟩) (by simp) (.pointer none)).setCell (p := ⟨bs, 7, none⟩) (by simp) (.pointer none)).setCell (p := ⟨bs, 8, none⟩) (by simp) (.pointer none)).setCell (p := ⟨bs, 9, none⟩) (by simp) (.pointer none)).setCell (p := ⟨bs, 10, none⟩) (by simp) (.pointer none)).setCell (p := ⟨bs, 11, none⟩) (by simp) (.pointer none)).setCell (p := ⟨bs, 12, none⟩) (by simp) (.pointer none)).setCell (p := ⟨bs, 13, none⟩) (by simp) (.pointer none)).setCell (p := ⟨bs, 14, none⟩) (by simp) (.pointer none)).setCell (p := ⟨bs, 15, none⟩) (by simp) (.pointer none)).setCell (p := ⟨bs, 16, none⟩) (by simp) (.pointer none))⟩
      · rw [List.getElem?_replicate] at hk; split at hk <;> simp at hk
      · rw [List.getElem?_replicate] at hk; split at hk <;> simp at hk
    clear h
    go_enter Try.func19, Try.ntmps19
    go_wp2_with fail
    go_end0
    exact ⟨rfl, FIN.out⟩
end Go.Proofs.Ytnlpjgogflcmoaa
