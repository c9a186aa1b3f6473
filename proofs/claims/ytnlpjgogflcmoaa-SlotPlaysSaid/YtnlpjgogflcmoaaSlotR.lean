/- The row that make lays; the places and the document's row side by side. No condition. -/
import Derived.Test.YtnlpjgogflcmoaaSlotQ
namespace Go.Proofs.Ytnlpjgogflcmoaa
open Go.RowKit Go.Lk

theorem sc_made (n : Nat) : madeCells (scell none).toArray (n * 8) = (sc (List.replicate n none)).toArray := by
  apply Array.ext'
  show ((Array.range (n * 8)).map _).toList = sc (List.replicate n none)
  apply List.ext_getElem?
  intro j
  have hje : j = j / 8 * 8 + j % 8 := by omega
  have hi : j % 8 < 8 := Nat.mod_lt _ (by omega)
  have hR : (sc (List.replicate n none))[j]? = if j / 8 < n then (scell none)[j % 8]? else none := by
    conv => lhs; rw [hje]
    rw [sc_get _ _ _ hi, List.getElem?_replicate]
    split <;> rfl
  rw [hR, Array.toList_map, Array.toList_range, List.getElem?_map]
  by_cases hj : j < n * 8
  · rw [List.getElem?_range hj, if_pos (by omega)]
    have h8 : (scell none).toArray.size = 8 := rfl
    simp only [Option.map_some, h8]
    generalize j % 8 = i at hi
    match i, hi with
    | 0, _ => rfl
    | 1, _ => rfl
    | 2, _ => rfl
    | 3, _ => rfl
    | 4, _ => rfl
    | 5, _ => rfl
    | 6, _ => rfl
    | 7, _ => rfl
  · rw [if_neg (by omega), List.getElem?_eq_none (by simp; omega)]
    rfl
theorem make8 (n : Nat) (hn : n ≤ 16) (w : World) :
    (Instr.makeSlice 43 (.int .i64 (n : Int)) (.int .i64 (n : Int))).run Try.prog w = .ok (.slice (some ⟨w.heap.size, 0, none⟩) n n) (w.alloc (.cells (sc (List.replicate n none)).toArray 53)) := by
  obtain ⟨i0, hi0, hz0, hz1, hz2⟩ := info_parts Try.info53
  have hb' : (i0.bytes : Int) * (n : Int) ≤ 281474976710656 := by rw [hz2]; omega
  have hr := run_make (P := Try.prog) w 43 53 i0 _ Try.underlying43 hi0 hz0 .i64 .i64 n n (by omega) (by omega) hb' (by omega)
  simp only [Int.toNat_natCast, hz1] at hr
  rw [hr, ← sc_made]
  rfl
theorem Rw.made (n : Nat) (hn : n ≤ 16) (w : World) : Rw (w.alloc (.cells (sc (List.replicate n none)).toArray 53)) w.heap.size n (List.replicate n none) :=
  ⟨by simp, by simp, hn, fun j u hu => by rw [cell_of_row _ _ _ _ _ _ (heap_alloc_new w _)]; simpa using hu⟩

/-- The places, the document's row, and the act that is being done. -/
structure Sp (w wx : World) (bs n : Nat) (qs rs : List (Option It)) (g ba : Nat) (kd now : Int) (x : It) : Prop where
  on : On w wx bs n qs ba kd now x
  row : Rw wx g n rs
  ne : g ≠ bs
section
variable {w wx wy : World} {bs n : Nat} {qs qs' rs rs' : List (Option It)} {g g' ba : Nat} {kd now : Int} {x : It}
theorem Sp.calm (h : Sp w wx bs n qs rs g ba kd now x) (hb : Below wx.heap.size wx wy) : Sp w wy bs n qs rs g ba kd now x := ⟨h.on.calm hb, h.row.below hb, h.ne⟩
theorem Sp.slot (h : Sp w wx bs n qs rs g ba kd now x) (hs : Sq wy bs n qs') (ho : OnlyIn [bs] wx wy) : Sp w wy bs n qs' rs g ba kd now x := ⟨h.on.step hs ho, h.row.only ho (by simp; exact h.ne), h.ne⟩
theorem Sp.ref (h : Sp w wx bs n qs rs g ba kd now x) (hr : Rw wy g' n rs') (hg : g' = g ∨ wx.heap.size ≤ g') (hb : Below wx.heap.size wx wy) : Sp w wy bs n qs rs' g' ba kd now x :=
  ⟨h.on.calm hb, hr, by have h1 := h.ne; have h2 := h.on.sq.lt; rcases hg with e | e <;> omega⟩
end
/-- What holds at the head of each round. -/
def SB (w : World) (bs n : Nat) (sv : Value) (wr : World) : Prop := ∃ qs g c, sv = .slice (some ⟨g, 0, none⟩) n c ∧ Sq wr bs n qs ∧ Rw wr g n qs ∧ g ≠ bs ∧ w.heap.size ≤ bs ∧ Below w.heap.size w wr
theorem same_below (w : World) (b1 b2 : Nat) (u v : Value) (l : List It) (hl : l.length ≤ 16) (h1 : w.ownsRow b1 29 7 u l.length (itc l)) (h2 : w.ownsRow b2 29 7 v l.length (itc l)) :
    Calls Try.prog 18 #[u, v] w fun e w' => e = .returned (.bool true) ∧ Below w.heap.size w w' :=
  (same_ok w b1 b2 u v l hl h1 h2).mono fun _ _ ⟨he, m, hm⟩ => ⟨he, by rw [hm]; exact below_drewN (Below.refl _ _) m⟩
theorem r_free_below (w : World) (g n c : Nat) (qs : List (Option It)) (h : Rw w g n qs) :
    Calls Try.prog 22 #[.slice (some ⟨g, 0, none⟩) n c] w fun e w' => e = .returned (.int .i64 ((n : Int) - ((itq qs).length : Int))) ∧ Below w.heap.size w w' :=
  (r_free w g n c qs h).mono fun _ _ ⟨he, hm⟩ => ⟨he, by rw [← hm]; exact Below.refl _ _⟩
end Go.Proofs.Ytnlpjgogflcmoaa
