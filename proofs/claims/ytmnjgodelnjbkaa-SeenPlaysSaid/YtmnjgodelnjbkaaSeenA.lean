/- Contracts of the window's small methods: place, Has, Len, New. Condition: the window is well made (SeenAt), or nil, or zero. -/
import Derived.Test.YtmnjgodelnjbkaaRows
import Derived.Test.YtmnjgodelnjbkaaWords
import Derived.Test.YtmnjgodelnjbkaaIntMap
import Derived.Test.YtmnjgodelnjbkaaSeenLaw
import Derived.LaidEqlPtr
import Derived.WalkSpells
namespace Go.Proofs.Ytmnjgodelnjbkaa
open Go.RowKit Go.Lk Go.Proofs.SeenLaw

theorem ul40 : Try.prog.underlying 40 = some (.map 3 3) := Try.underlying40
theorem ul3 : Try.prog.underlying 3 = some (.int .i64) := Try.underlying3
theorem zero3 : ∀ u : World, (zeroValue 3).run Try.prog u = .ok (.int .i64 0) u := fun _ => by kernel_rfl

def ints (xs : List Int) : List Value := xs.map (Value.int .i64)

/-- The struct, the ring and the map of a window, with its parts. -/
structure SeenIs (w : World) (bs br bm most : Nat) (first : Nat) (ring ks : List Int) (l : List Int) : Prop where
  s : w.heap[bs]? = some (.cells #[.slice (some ⟨br, 0, none⟩) most most, .int .i64 (first : Int), .int .i64 (l.length : Int), .map (some bm)] 42 (0, 0))
  r : w.heap[br]? = some (.cells (ints ring).toArray 3 (0, 0))
  m : IMap w bm ks
  ks : ∀ x, x ∈ ks ↔ x ∈ l
  ring : Ring most ring first l
  nd : l.Nodup
  small : most ≤ 256

def SeenAt (w : World) (bs br bm most : Nat) (l : List Int) : Prop := ∃ first ring ks, SeenIs w bs br bm most first ring ks l

theorem SeenIs.of_blocks {w w' : World} {bs br bm most first : Nat} {ring ks l : List Int} (h : SeenIs w bs br bm most first ring ks l)
    (h1 : w'.heap[bs]? = w.heap[bs]?) (h2 : w'.heap[br]? = w.heap[br]?) (h3 : w'.heap[bm]? = w.heap[bm]?) : SeenIs w' bs br bm most first ring ks l :=
  ⟨h1.trans h.s, h2.trans h.r, h.m.of_block h3, h.ks, h.ring, h.nd, h.small⟩
theorem SeenAt.touch {S : List Nat} {w w' : World} {bs br bm most : Nat} {l : List Int} (h : SeenAt w bs br bm most l) (ht : OnlyIn S w w') (h1 : bs ∉ S) (h2 : br ∉ S) (h3 : bm ∉ S) : SeenAt w' bs br bm most l := by
  obtain ⟨f, r, ks, h⟩ := h
  exact ⟨f, r, ks, h.of_blocks (ht.block _ (heap_lt h.s) h1) (ht.block _ (heap_lt h.r) h2) (ht.block _ h.m.lt h3)⟩
theorem SeenAt.drewN {w : World} {bs br bm most : Nat} {l : List Int} (h : SeenAt w bs br bm most l) (n : Nat) : SeenAt (w.drewN n) bs br bm most l :=
  h.touch ((OnlyIn.refl [] w).drewN n) (by simp) (by simp) (by simp)

set_option maxHeartbeats 400000 in
theorem has_ok (bs br bm most : Nat) (l : List Int) (id : Int) (w : World) (h : SeenAt w bs br bm most l) :
    Calls Try.prog 14 #[.pointer (some ⟨bs, 0, none⟩), .int .i64 id] w fun e w' => e = .returned (.bool (decide (id ∈ l))) ∧ w = w' := by
  obtain ⟨first, ring, ks, h⟩ := h
  obtain ⟨v, hrun⟩ := h.m.lookup ul40 ul3 zero3 id
  have hk : decide (id ∈ ks) = decide (id ∈ l) := by simp only [h.ks]
  rw [hk] at hrun
  obtain ⟨ok, hok⟩ : ∃ ok, ok = decide (id ∈ l) := ⟨_, rfl⟩
  rw [← hok] at hrun ⊢
  have c3 : w.cell? ⟨bs, 3, none⟩ = some (.map (some bm)) := by rw [cell_of_row w bs 3 _ _ _ h.s]; rfl
  clear hk hok h
  go_enter Try.func14, Try.ntmps14
  go_wp2
  go_ret
  exact ⟨rfl, rfl⟩

theorem has_nil (id : Int) (w : World) :
    Calls Try.prog 14 #[.pointer none, .int .i64 id] w fun e w' => e = .returned (.bool false) ∧ w = w' := by
  go_enter Try.func14, Try.ntmps14
  go_wp2
  go_ret
  exact ⟨rfl, rfl⟩

set_option maxHeartbeats 400000 in
theorem len_ok (bs br bm most : Nat) (l : List Int) (w : World) (h : SeenAt w bs br bm most l) :
    Calls Try.prog 13 #[.pointer (some ⟨bs, 0, none⟩)] w fun e w' => e = .returned (.int .i64 (l.length : Int)) ∧ w = w' := by
  obtain ⟨first, ring, ks, h⟩ := h
  have c2 : w.cell? ⟨bs, 2, none⟩ = some (.int .i64 (l.length : Int)) := by rw [cell_of_row w bs 2 _ _ _ h.s]; rfl
  clear h
  go_enter Try.func13, Try.ntmps13
  go_wp2
  go_ret
  exact ⟨rfl, rfl⟩
theorem len_nil (w : World) :
    Calls Try.prog 13 #[.pointer none] w fun e w' => e = .returned (.int .i64 0) ∧ w = w' := by
  go_enter Try.func13, Try.ntmps13
  go_wp2
  go_ret
  exact ⟨rfl, rfl⟩

set_option maxHeartbeats 400000 in
theorem place_ok (bs br most first i : Nat) (w : World) (h0 : w.cell? ⟨bs, 0, none⟩ = some (.slice (some ⟨br, 0, none⟩) most most)) (h1 : w.cell? ⟨bs, 1, none⟩ = some (.int .i64 (first : Int)))
    (hm : 0 < most) (hm2 : most ≤ 256) (hf : first < most) (hi : i ≤ most) :
    Calls Try.prog 16 #[.pointer (some ⟨bs, 0, none⟩), .int .i64 (i : Int)] w fun e w' => e = .returned (.int .i64 (((first + i) % most : Nat) : Int)) ∧ ∃ n, w' = w.drewN n := by
  have hw : IntKind.i64.wrap ((first : Int) + (i : Int)) = (first : Int) + (i : Int) := by rw [IntKind.wrap_i64]; omega
  go_enter Try.func16, Try.ntmps16
  go_wp2_with fail
  go_quiet (fail)
  go_wp2
  go_ret
  exact ⟨congrArg (fun n => Ending.returned (.int .i64 n)) (by rw [Int.natCast_emod, Int.natCast_add]), _, rfl⟩

set_option maxHeartbeats 400000 in
/-- New: an argument that may not be. -/
theorem new_bad (most : Int) (h : most < 0 ∨ 256 < most) (w : World) :
    Calls Try.prog 7 #[.int .i64 most] w fun e w' => e = .returned (.tuple #[.pointer none, .int .i64 1]) ∧ w = w' := by
  rcases h with h | h
  · go_enter Try.func7, Try.ntmps7
    go_wp2
    go_ret2
    exact ⟨rfl, rfl⟩
  · have h' : ¬ most < 0 := by omega
    go_enter Try.func7, Try.ntmps7
    go_wp2
    go_ret2
    exact ⟨rfl, rfl⟩

theorem Try.info3 : (Try.prog.info? 3).map (fun i => (i.zero, i.size, i.bytes)) = some (some (.int .i64 0), 1, 8) := by kernel_rfl

set_option maxHeartbeats 400000 in
theorem new_ok (most : Nat) (h : most ≤ 256) (w : World) :
    Calls Try.prog 7 #[.int .i64 (most : Int)] w fun e w' => ∃ bs br bm, e = .returned (.tuple #[.pointer (some ⟨bs, 0, none⟩), .int .i64 0]) ∧ SeenAt w' bs br bm most [] ∧ w.heap.size ≤ bs ∧ w.heap.size ≤ br ∧ w.heap.size ≤ bm ∧ Below w.heap.size w w' := by
  have hmm := @run_makeMap Try.prog
  obtain ⟨i0, hi0, hz0, hz1, hz2⟩ := info_parts Try.info3
  have hmk0 := fun W => make_n (P := Try.prog) 22 3 i0 (.int .i64 0) Try.underlying22 hi0 hz0 rfl hz1 (by omega) most (by omega) W
  obtain ⟨zs, ezs⟩ : ∃ zs, zs = (List.replicate most (Value.int .i64 0)).toArray := ⟨_, rfl⟩
  rw [← ezs] at hmk0
  have hmk := hmk0
  have EZ := Lib.hid ezs
  clear ezs hmk0
  go_enter Try.func7, Try.ntmps7
  go_wp2_with fail
  go_ret2
  refine ⟨w.heap.size + 1 + 1, w.heap.size, w.heap.size + 1, rfl, ⟨0, List.replicate most 0, [], ?_⟩, by omega, by omega, by omega, ?_⟩
  · refine ⟨?_, ?_, ?_, by simp, Ring.none _ _ (by simp), by simp, h⟩
    · have := heap_alloc_new ((w.alloc (.cells zs 3)).alloc (.map #[] 0)) (.cells #[.slice (some ⟨w.heap.size, 0, none⟩) most most, .int .i64 0, .int .i64 0, .map (some (w.heap.size + 1))] 42)
      simpa using this
    · rw [Below.heap_alloc _ _ _ (by simp; omega), Below.heap_alloc _ _ _ (by simp), heap_alloc_new, EZ.out]
      simp [ints]
    · have h1 := IMap.made (w.alloc (.cells zs 3))
      have h2 : (w.alloc (.cells zs 3)).heap.size = w.heap.size + 1 := by simp
      rw [h2] at h1
      exact h1.of_block (Below.heap_alloc _ _ _ (by simp))
  · exact (((Below.refl _ w).alloc (Nat.le_refl _) _).alloc (by simp) _).alloc (by simp; omega) _
end Go.Proofs.Ytmnjgodelnjbkaa
