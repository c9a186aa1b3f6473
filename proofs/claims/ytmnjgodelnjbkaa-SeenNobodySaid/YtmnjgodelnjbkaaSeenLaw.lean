/- Plain law of the window: a ring that holds a list in order; what Note makes of it. No program here; no condition. -/
namespace Go.Proofs.SeenLaw

theorem mod_two (m f i : Nat) (hf : f < m) (hi : i ≤ m) : (f + i) % m = if f + i < m then f + i else f + i - m := by
  split
  · exact Nat.mod_eq_of_lt ‹_›
  · rw [Nat.mod_eq_sub_mod (by omega), Nat.mod_eq_of_lt (by omega)]

/-- A ring of so many places that holds a list in order, from a place on. -/
structure Ring (most : Nat) (ring : List Int) (first : Nat) (l : List Int) : Prop where
  len : ring.length = most
  lt : 0 < most → first < most
  le : l.length ≤ most
  at_ : ∀ i x, l[i]? = some x → ring[(first + i) % most]? = some x

theorem Ring.tail {most : Nat} {ring : List Int} {first : Nat} {l : List Int} (h : Ring most ring first l) (hm : 0 < most) : Ring most ring ((first + 1) % most) (l.drop 1) := by
  refine ⟨h.len, fun _ => Nat.mod_lt _ hm, by have := h.le; simp; omega, fun i x hx => ?_⟩
  rw [Nat.mod_add_mod, show first + 1 + i = first + (1 + i) from by omega]
  rw [List.getElem?_drop] at hx
  exact h.at_ _ _ hx

theorem Ring.push {most : Nat} {ring : List Int} {first : Nat} {l : List Int} (h : Ring most ring first l) (hl : l.length < most) (id : Int) :
    Ring most (ring.set ((first + l.length) % most) id) first (l ++ [id]) := by
  have hf := h.lt (by omega)
  refine ⟨by rw [List.length_set]; exact h.len, h.lt, by simp; omega, fun i x hx => ?_⟩
  rw [List.getElem?_set]
  have hi : i < l.length + 1 := by
    have := (List.getElem?_eq_some_iff.1 hx).1
    simpa using this
  rcases Nat.lt_or_ge i l.length with hlt | hge
  · rw [List.getElem?_append_left hlt] at hx
    have hne : (first + l.length) % most ≠ (first + i) % most := by
      rw [mod_two most first l.length hf (by omega), mod_two most first i hf (by omega)]
      split <;> split <;> omega
    rw [if_neg hne]
    exact h.at_ _ _ hx
  · have : i = l.length := by omega
    subst this
    rw [if_pos rfl, if_pos (by rw [h.len]; exact Nat.mod_lt _ (by omega))]
    simpa using hx

theorem Ring.none (most : Nat) (ring : List Int) (hr : ring.length = most) : Ring most ring 0 [] := ⟨hr, fun h => h, by simp, by simp⟩
theorem Ring.cleared {most : Nat} {ring : List Int} {first : Nat} {l : List Int} (h : Ring most ring first l) : Ring most ring 0 [] := Ring.none most ring h.len

/-- What is there behind Note. -/
def note (most : Nat) (l : List Int) (id : Int) : List Int := if id ∈ l then l else (l ++ [id]).drop (l.length + 1 - most)

theorem note_old (most : Nat) (l : List Int) (id : Int) (h : id ∈ l) : note most l id = l := by unfold note; rw [if_pos h]
theorem note_zero (l : List Int) (id : Int) (hl : l.length ≤ 0) : note 0 l id = [] := by
  have : l = [] := List.eq_nil_of_length_eq_zero (by omega)
  subst this
  simp [note]
theorem note_room (most : Nat) (l : List Int) (id : Int) (h : id ∉ l) (hl : l.length < most) : note most l id = l ++ [id] := by
  unfold note; rw [if_neg h, show l.length + 1 - most = 0 from by omega]; rfl
theorem note_full (most : Nat) (l : List Int) (id : Int) (h : id ∉ l) (hl : l.length = most) (hm : 0 < most) : note most l id = l.drop 1 ++ [id] := by
  unfold note; rw [if_neg h, show l.length + 1 - most = 1 from by omega, List.drop_append_of_le_length (by omega)]
theorem note_le (most : Nat) (l : List Int) (id : Int) (hl : l.length ≤ most) : (note most l id).length ≤ most := by
  unfold note; split
  · exact hl
  · simp; omega
theorem note_nodup (most : Nat) (l : List Int) (id : Int) (hl : l.Nodup) : (note most l id).Nodup := by
  unfold note; split
  · exact hl
  · rename_i h
    refine List.Nodup.sublist (List.drop_sublist _ _) ?_
    refine List.nodup_append.2 ⟨hl, by simp, fun a ha b hb => ?_⟩
    simp at hb
    subst hb
    exact fun e => h (e ▸ ha)

/-- The last so many. -/
def win (most : Nat) (F : List Int) : List Int := F.drop (F.length - most)
theorem win_note (most : Nat) (F : List Int) (x : Int) (h : x ∉ win most F) : note most (win most F) x = win most (F ++ [x]) := by
  unfold note
  rw [if_neg h]
  unfold win
  rw [List.length_drop, List.length_append, List.length_singleton]
  rcases Nat.lt_or_ge F.length most with hl | hl
  · rw [show F.length - most = 0 from by omega, List.drop_zero]
    congr 1
  · rw [← List.drop_append_of_le_length (by omega), List.drop_drop]
    congr 1
    omega
theorem mem_win (most : Nat) (F : List Int) (x : Int) : x ∈ win most F ↔ ∃ j, 1 ≤ j ∧ j ≤ most ∧ j ≤ F.length ∧ F[F.length - j]? = some x := by
  unfold win
  rw [List.mem_iff_getElem?]
  constructor
  · rintro ⟨i, hi⟩
    rw [List.getElem?_drop] at hi
    have hl := (List.getElem?_eq_some_iff.1 hi).1
    refine ⟨F.length - (F.length - most + i), by omega, by omega, by omega, ?_⟩
    rw [show F.length - (F.length - (F.length - most + i)) = F.length - most + i from by omega]
    exact hi
  · rintro ⟨j, h1, h2, h3, h4⟩
    refine ⟨F.length - j - (F.length - most), ?_⟩
    rw [List.getElem?_drop, show F.length - most + (F.length - j - (F.length - most)) = F.length - j from by omega]
    exact h4
end Go.Proofs.SeenLaw
