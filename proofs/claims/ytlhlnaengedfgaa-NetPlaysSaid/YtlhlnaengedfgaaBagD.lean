/- Contracts of the document's Twin, Same on equal rows, few and awake. Condition: rows of at most 1000 texts. -/
import Derived.Test.YtlhlnaengedfgaaBagC
import Derived.Test.YtlhlnaengedfgaaOpen
namespace Go.Proofs.Ytlhlnaengedfgaa
open Go.RowKit Go.Lk

section
variable (v : Value) (l : List ByteArray) (w : World) (n : Nat)
theorem refTwin_bad (ht : Tx w 9 v n (strs l)) (most p : Int) (hp : p < 0 ∨ (n : Int) ≤ p) :
    Calls Try.prog 16 #[v, .int .i64 most, .int .i64 p] w fun e w' => e = .returned (.tuple #[v, .int .i64 7]) ∧ w = w' := by
  obtain ⟨A, c, rfl, _, _, _⟩ := ht.form
  clear ht
  rcases hp with hp | hp
  · go_enter Try.func16, Try.ntmps16
    go_wp2_with fail
    go_ret2
    exact ⟨rfl, rfl⟩
  · have hp0 : ¬ p < 0 := by omega
    go_enter Try.func16, Try.ntmps16
    go_wp2_with fail
    go_ret2
    exact ⟨rfl, rfl⟩

set_option maxHeartbeats 400000 in
theorem refTwin_full (hn : l.length = n) (ht : Tx w 9 v n (strs l)) (most : Int) (hf : most ≤ (n : Int)) (k : Nat) (s : ByteArray) (hk : l[k]? = some s) :
    Calls Try.prog 16 #[v, .int .i64 most, .int .i64 (k : Int)] w fun e w' => e = .returned (.tuple #[v, .int .i64 6]) ∧ w = w' := by
  have HP := Lib.hid (refPut_full v l w n hn ht most hf s)
  have hkl : k < n := by rw [← hn]; exact (List.getElem?_eq_some_iff.1 hk).1
  obtain ⟨A, c, rfl, hsl, _, _⟩ := ht.form
  obtain ⟨a, rfl, _, hcell⟩ := hsl k _ (strs_at hk)
  have hd : decide ((n : Int) ≤ (k : Int)) = false := by simp; omega
  clear ht hn hk hsl
  go_enter Try.func16, Try.ntmps16
  go_wp2_with fail
  refine HP.out.mono ?_
  rintro e w1 ⟨rfl, hw⟩
  subst hw
  go_wp2_with fail
  go_ret2
  exact ⟨rfl, rfl⟩

set_option maxHeartbeats 400000 in
theorem refTwin_room (hn : l.length = n) (ht : Tx w 9 v n (strs l)) (most : Int) (hf : (n : Int) < most) (hn2 : n ≤ 1000) (k : Nat) (s : ByteArray) (hk : l[k]? = some s) :
    Calls Try.prog 16 #[v, .int .i64 most, .int .i64 (k : Int)] w fun e w' => ∃ u, e = .returned (.tuple #[u, .int .i64 0]) ∧
      Tx w' 9 u (n + 1) (strs (l ++ [s])) ∧ (∀ k, u.ownBlock = some k → w.heap.size ≤ k) ∧ Below w.heap.size w w' := by
  have HP := Lib.hid (refPut_room v l w n hn ht most hf hn2 s)
  have hkl : k < n := by rw [← hn]; exact (List.getElem?_eq_some_iff.1 hk).1
  obtain ⟨A, c, rfl, hsl, _, _⟩ := ht.form
  obtain ⟨a, rfl, _, hcell⟩ := hsl k _ (strs_at hk)
  have hd : decide ((n : Int) ≤ (k : Int)) = false := by simp; omega
  clear ht hn hk hsl
  go_enter Try.func16, Try.ntmps16
  go_wp2_with fail
  refine HP.out.mono ?_
  rintro e w1 ⟨u, rfl, FIN⟩
  obtain ⟨A', c', rfl, _, _, _⟩ := FIN.1.form
  have FIN := Lib.hid FIN
  go_wp2_with fail
  go_ret2
  exact ⟨_, rfl, FIN.out⟩
end

set_option maxHeartbeats 400000 in
theorem sameStrs (A B : Option Addr) (c d G : Nat) (xs : List ByteArray) (n : Nat) (hn : xs.length = n) (hn2 : n ≤ 1000000) (w : World) (ha : Sl w G A (strs xs)) (hb : Sl w G B (strs xs)) :
    Calls Try.prog 19 #[.slice A n c, .slice B n d] w fun e w' => e = .returned (.bool true) ∧ ∃ m, w' = w.drewN m := by
  have HN := Lib.hid hn
  have HA := Lib.hid ha
  have HB := Lib.hid hb
  clear ha hb hn
  go_enter Try.func19, Try.ntmps19
  go_wp2
  go_loopw [5] (fun i wr => ∃ k m : Nat, k ≤ n ∧ i = .int .i64 k ∧ wr = w.drewN m) (fun i _ => n - (intOf i).toNat)
  case atStart => exact ⟨0, 0, by omega, rfl, rfl⟩
  case round =>
    obtain ⟨k, m, hk, rfl, rfl⟩ := hrel
    by_cases hlt : k < n
    · have hkx : k < xs.length := by rw [HN.out]; exact hlt
      obtain ⟨x, hx⟩ : ∃ x, xs[k]? = some x := ⟨_, List.getElem?_eq_getElem hkx⟩
      obtain ⟨a, rfl, _, h1⟩ := HA.out k _ (strs_at hx)
      obtain ⟨b, rfl, _, h2⟩ := HB.out k _ (strs_at hx)
      clear hx hkx
      go_wp2_with fail
      go_quiet (fail)
      go_wp2
      exact ⟨⟨k + 1, _, by omega, by go_num, rfl⟩, by simp [intOf]; omega⟩
    · have : k = n := by omega
      subst this
      go_wp2
      go_ret
      exact ⟨rfl, _, rfl⟩

/-- An act's cells. -/
def acts3 (l : List (Int × Int × ByteArray)) : List Value := (l.map fun p => [Value.int .i64 p.1, Value.int .i64 p.2.1, Value.string p.2.2]).flatten
theorem acts3_at (l : List (Int × Int × ByteArray)) (k : Nat) (p : Int × Int × ByteArray) (h : l[k]? = some p) : (acts3 l)[k * 3 + 0]? = some (.int .i64 p.1) ∧ (acts3 l)[k * 3 + 1]? = some (.int .i64 p.2.1) ∧ (acts3 l)[k * 3 + 2]? = some (.string p.2.2) := by
  have hr : ∀ r ∈ l.map (fun p => [Value.int .i64 p.1, Value.int .i64 p.2.1, Value.string p.2.2]), r.length = 3 := by
    intro r hr
    obtain ⟨q, _, rfl⟩ := List.mem_map.1 hr
    rfl
  unfold acts3
  rw [flat_get _ hr k 0 (by omega), flat_get _ hr k 1 (by omega), flat_get _ hr k 2 (by omega), List.getElem?_map, h]
  exact ⟨rfl, rfl, rfl⟩
theorem acts3_length (l : List (Int × Int × ByteArray)) : (acts3 l).length = l.length * 3 := by
  unfold acts3
  rw [flat_length (K := 3) _ (by intro r hr; obtain ⟨q, _, rfl⟩ := List.mem_map.1 hr; rfl), List.length_map]

set_option maxHeartbeats 400000 in
theorem fewWalk (A : Option Addr) (c : Nat) (acts : List (Int × Int × ByteArray)) (n : Nat) (hn : acts.length = n) (hn2 : n ≤ 9223372036854775807) (w : World) (ha : Sl w w.heap.size A (acts3 acts)) :
    Calls Try.prog 9 #[.slice A n c] w fun e w' => (∃ b, e = .returned (.bool b) ∧ (b = true → n ≤ 100)) ∧ w = w' := by
  have HN := Lib.hid hn
  have HA := Lib.hid ha
  clear ha hn
  go_enter Try.func9, Try.ntmps9
  go_wp2
  go_loopw [3] (fun i wr => ∃ k : Nat, k ≤ n ∧ k ≤ 100 ∧ i = .int .i64 k ∧ wr = w) (fun i _ => n - (intOf i).toNat)
  case atStart => exact ⟨0, by omega, by omega, rfl, rfl⟩
  case round =>
    obtain ⟨k, hk, hk2, rfl, rfl⟩ := hrel
    by_cases hlt : k < n
    · by_cases hlt2 : k < 100
      · have hkx : k < acts.length := by rw [HN.out]; exact hlt
        obtain ⟨p, hp⟩ : ∃ p, acts[k]? = some p := ⟨_, List.getElem?_eq_getElem hkx⟩
        obtain ⟨b, o, rfl, _, hcell⟩ := HA.out.plain (by rw [acts3_length]; omega)
        have c2 := hcell _ _ (acts3_at acts k p hp).2.2
        clear hcell hp hkx
        obtain ⟨kd, pl, s⟩ := p
        rw [← Nat.add_assoc] at c2
        simp only at c2
        obtain ⟨z, hz⟩ : ∃ z, s.size = z := ⟨_, rfl⟩
        by_cases hs : 50 < z
        · have hd : decide (50 < (z : Int)) = true := by simp; omega
          go_wp2_with fail
          go_ret
          exact ⟨⟨false, rfl, fun h => by cases h⟩, rfl⟩
        · have hd : decide (50 < (z : Int)) = false := by simp; omega
          go_wp2_with fail
          exact ⟨⟨k + 1, by omega, by omega, by go_num, trivial⟩, by simp [intOf]; omega⟩
      · have hk100 : k = 100 := by omega
        subst hk100
        have hd : decide ((n : Int) ≤ 100) = false := by simp; omega
        go_wp2_with fail
        go_ret
        exact ⟨⟨false, rfl, fun h => by cases h⟩, rfl⟩
    · have hkn : k = n := by omega
      subst hkn
      have hd : decide ((k : Int) ≤ 100) = true := by simp; omega
      go_wp2_with fail
      go_ret
      exact ⟨⟨true, rfl, fun _ => hk2⟩, rfl⟩

set_option maxRecDepth 100000 in
set_option maxHeartbeats 2000000 in
theorem awake36 (w : World) : Calls Try.prog 10 #[] w fun e w' => e = .returned (.bool true) ∧ Below w.heap.size w w' := by
  go_enter Try.func10, Try.ntmps10
  go_wp2_with fail
  refine (new_ok _ 3 (by omega)).mono ?_
  rintro e w1 ⟨bs, rfl, hS1, hbs, hB1⟩
  have HB1 := Lib.hid hB1
  have HS1 := Lib.hid hS1
  clear hS1 hB1
  go_wp2_with fail
  refine (put_room bs 3 _ _ _ HS1.out (by simp) _).mono ?_
  rintro e w2 ⟨rfl, v2, hS2, hO2, hn2⟩
  have HS2 := Lib.hid hS2
  have hO2' := hO2
  have HB2 := Lib.hid (HB1.out.trans (hO2.to_below (B := w.heap.size) HB1.out.size (by simp [Value.ownBlock]; omega)))
  have hw1 := HB1.out.size
  have HV2 : Hid (∀ k, v2.ownBlock = some k → w.heap.size ≤ k) := fun k hk => by
    rcases hn2 k hk with h | h
    · simp [Value.ownBlock] at h
    · omega
  clear hS2 hO2 hn2 hO2'
  go_wp2_with fail
  refine (put_room bs 3 _ _ _ HS2.out (by simp) _).mono ?_
  rintro e w3 ⟨rfl, v3, hS3, hO3, hn3⟩
  have HS3 := Lib.hid hS3
  have HB3 := Lib.hid (HB2.out.trans (hO3.to_below (B := w.heap.size) HB2.out.size (fun k hk => by simp at hk; rcases hk with h | h; omega; exact HV2.out k h)))
  have hw2 := HB2.out.size
  have HV3 : Hid (∀ k, v3.ownBlock = some k → w.heap.size ≤ k) := fun k hk => by
    rcases hn3 k hk with h | h
    · exact HV2.out k h
    · omega
  clear hS3 hO3 hn3
  go_wp2_with fail
  refine (twin_room bs 3 _ _ _ HS3.out (by simp) 0 _ rfl).mono ?_
  rintro e w4 ⟨rfl, v4, hS4, hO4, hn4⟩
  have HS4 := Lib.hid hS4
  have HB4 := Lib.hid (HB3.out.trans (hO4.to_below (B := w.heap.size) HB3.out.size (fun k hk => by simp at hk; rcases hk with h | h; omega; exact HV3.out k h)))
  have hw3 := HB3.out.size
  have HV4 : Hid (∀ k, v4.ownBlock = some k → w.heap.size ≤ k) := fun k hk => by
    rcases hn4 k hk with h | h
    · exact HV3.out k h
    · omega
  clear hS4 hO4 hn4
  go_wp2_with fail
  refine (take_ok bs 3 _ _ _ HS4.out 1 _ rfl).mono ?_
  rintro e w5 ⟨rfl, v5, hS5, hO5, hn5⟩
  have HS5 := Lib.hid hS5
  have HB5 := Lib.hid (HB4.out.trans (hO5.to_below (B := w.heap.size) HB4.out.size (fun k hk => by simp at hk; omega)))
  have hw4 := HB4.out.size
  clear hS5 hO5 hn5
  go_wp2_with fail
  refine (twin_bad bs 3 _ _ _ HS5.out 5 (by simp)).mono ?_
  rintro e w6 ⟨rfl, hw⟩
  subst hw
  go_wp2_with fail
  refine (all_ok bs 3 _ _ _ HS5.out).mono ?_
  rintro e w6 ⟨u, rfl, ht6, _, hB6⟩
  obtain ⟨A, c, rfl, hsl, _, _⟩ := ht6.form
  have HSl := Lib.hid hsl
  have HB6 := Lib.hid (HB5.out.trans (hB6.mono HB5.out.size))
  clear ht6 hB6 hsl
  go_wp2_with fail
  have hsl6 : Sl (w6.alloc (.cells #[.string ⟨#[97]⟩, .string ⟨#[97]⟩] 9)) (w6.heap.size + 1) A (strs [⟨#[97]⟩, ⟨#[97]⟩]) := (Sl.keep (show Sl w6 w6.heap.size A (strs [⟨#[97]⟩, ⟨#[97]⟩]) from HSl.out) fun p hp => World.cell?_alloc_lt _ _ p hp).mono (by omega)
  refine (sameStrs A (some ⟨w6.heap.size, 0, none⟩) c 2 (w6.heap.size + 1) [⟨#[97]⟩, ⟨#[97]⟩] 2 rfl (by omega) _ hsl6 ?_).mono ?_
  · intro k u hk
    match k, hk with
    | 0, hk => simp [strs] at hk; subst hk; exact ⟨_, rfl, by simp, by simp [Addr.add]⟩
    | 1, hk => simp [strs] at hk; subst hk; exact ⟨_, rfl, by simp, by simp [Addr.add]⟩
  rintro e w7 ⟨rfl, m, rfl⟩
  clear hsl6
  have HB7 := Lib.hid (below_drewN (HB6.out.alloc HB6.out.size (.cells #[.string ⟨#[97]⟩, .string ⟨#[97]⟩] 9)) m)
  go_wp2
  go_ret
  exact ⟨rfl, HB7.out⟩
end Go.Proofs.Ytlhlnaengedfgaa
