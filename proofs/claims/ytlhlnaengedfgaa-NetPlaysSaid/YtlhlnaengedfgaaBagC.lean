/- Contracts of the document's bag: Put, Take, Twin, Same. Condition: rows of at most 1000 texts. -/
import Derived.Test.YtlhlnaengedfgaaBagB
namespace Go.Proofs.Ytlhlnaengedfgaa
open Go.RowKit Go.Lk

theorem Tx.below {w w' : World} {e : TypeId} {v : Value} {n : Nat} {xs : List Value} (h : Tx w e v n xs) (hb : Below w.heap.size w w') : Tx w' e v n xs :=
  h.only (OnlyIn.of_below (S := []) hb) (by simp)

section
variable (v : Value) (l : List ByteArray) (w : World) (n : Nat)

theorem refPut_full (_hn : l.length = n) (ht : Tx w 9 v n (strs l)) (most : Int) (hf : most ≤ (n : Int)) (s : ByteArray) :
    Calls Try.prog 12 #[v, .int .i64 most, .string s] w fun e w' => e = .returned (.tuple #[v, .bool false]) ∧ w = w' := by
  obtain ⟨A, c, rfl, _, _, _⟩ := ht.form
  clear ht _hn
  go_enter Try.func12, Try.ntmps12
  go_wp2_with fail
  go_ret2
  exact ⟨rfl, rfl⟩

set_option maxHeartbeats 1000000 in
theorem refPut_room (hn : l.length = n) (ht : Tx w 9 v n (strs l)) (most : Int) (hf : (n : Int) < most) (hn2 : n ≤ 1000) (s : ByteArray) :
    Calls Try.prog 12 #[v, .int .i64 most, .string s] w fun e w' => ∃ u, e = .returned (.tuple #[u, .bool true]) ∧
      Tx w' 9 u (n + 1) (strs (l ++ [s])) ∧ (∀ k, u.ownBlock = some k → w.heap.size ≤ k) ∧ Below w.heap.size w w' := by
  obtain ⟨i0, hi0, hz0, hz1, hz2⟩ := info_parts Try.info9
  obtain ⟨A, c, rfl, hsl, _, hA⟩ := ht.form
  have hls := (strs_length l).trans hn
  obtain ⟨u1, w1, hr1, ht1, hg1, hn1⟩ := run_append_tx (P := Try.prog) w 29 29 9 i0 (.string ⟨#[]⟩) 16 Try.underlying29 hi0 hz0 hz1 hz2 rfl (.slice none 0 0) 0 [] (Tx.nil _ _) w.heap.size A n c (strs l) hls hsl (strs_one l) (by omega) (by omega) hA
  obtain ⟨A1, c1, rfl, _, _, _⟩ := ht1.form
  have hB1 := (Below.refl w.heap.size w).grown hg1 (Nat.le_refl _) (by simp [Value.ownBlock])
  have hone : Sl (w1.alloc (.cells #[.string s] 9)) (w1.heap.size + 1) (some ⟨w1.heap.size, 0, none⟩) [.string s] := by
    intro j u hj
    match j, hj with
    | 0, hj => simp at hj; subst hj; exact ⟨_, rfl, by simp, by simp [Addr.add]⟩
  have hx1 : ∀ k, (Value.slice A1 (0 + n) c1).ownBlock = some k → w.heap.size ≤ k := fun k hk => by
    rcases hn1 k hk with h | h
    · simp [Value.ownBlock] at h
    · exact h
  obtain ⟨u2, w2, hr2, ht2, hg2, hn2'⟩ := run_append_tx (P := Try.prog) (w1.alloc (.cells #[.string s] 9)) 29 29 9 i0 (.string ⟨#[]⟩) 16 Try.underlying29 hi0 hz0 hz1 hz2 rfl (.slice A1 (0 + n) c1) (0 + n) ([] ++ strs l)
    (ht1.only ((OnlyIn.refl [] w1).alloc _) (by simp)) (w1.heap.size + 1) (some ⟨w1.heap.size, 0, none⟩) 1 1 [.string s] rfl hone (by simp [Value.oneCell']) (by omega) (by omega) (by simp)
  obtain ⟨A2, c2, rfl, _, _, _⟩ := ht2.form
  rw [Nat.zero_add] at *
  have FIN : Hid (Tx w2 9 (.slice A2 (n + 1) c2) (n + 1) (strs (l ++ [s])) ∧ (∀ k, (Value.slice A2 (n + 1) c2).ownBlock = some k → w.heap.size ≤ k) ∧ Below w.heap.size w w2) := by
    refine ⟨by simpa [strs] using ht2, fun k hk => ?_, (hB1.alloc hB1.size (.cells #[.string s] 9)).grown hg2 (by simp; have := hB1.size; omega) hx1⟩
    rcases hn2' k hk with h | h
    · exact hx1 k h
    · have := hB1.size; simp at h; omega
  clear ht hn hsl hls ht1 hg1 hn1 hB1 hone hx1 ht2 hg2 hn2'
  go_enter Try.func12, Try.ntmps12
  go_wp2_with (at_builtin; first | (refine appendBy rfl _ _ 29 rfl _ _ rfl rfl _ _ hr1 ?_) | (refine appendBy rfl _ _ 29 rfl _ _ rfl rfl _ _ hr2 ?_))
  go_ret2
  exact ⟨_, rfl, FIN.out⟩

theorem refTake_bad (_hn : l.length = n) (ht : Tx w 9 v n (strs l)) (p : Int) (hp : p < 0 ∨ (n : Int) ≤ p) :
    Calls Try.prog 15 #[v, .int .i64 p] w fun e w' => e = .returned (.tuple #[v, .string ⟨#[]⟩, .bool false]) ∧ w = w' := by
  obtain ⟨A, c, rfl, _, _, _⟩ := ht.form
  clear ht _hn
  rcases hp with hp | hp
  · go_enter Try.func15, Try.ntmps15
    go_wp2_with fail
    go_ret3
    exact ⟨rfl, rfl⟩
  · have hp0 : ¬ p < 0 := by omega
    go_enter Try.func15, Try.ntmps15
    go_wp2_with fail
    go_ret3
    exact ⟨rfl, rfl⟩

set_option maxHeartbeats 1000000 in
theorem refTake_ok (hn : l.length = n) (ht : Tx w 9 v n (strs l)) (hn2 : n ≤ 1000) (k : Nat) (s : ByteArray) (hk : l[k]? = some s) :
    Calls Try.prog 15 #[v, .int .i64 (k : Int)] w fun e w' => ∃ u, e = .returned (.tuple #[u, .string s, .bool true]) ∧
      Tx w' 9 u (n - 1) (strs (l.eraseIdx k)) ∧ (∀ k, u.ownBlock = some k → w.heap.size ≤ k) ∧ Below w.heap.size w w' := by
  obtain ⟨i0, hi0, hz0, hz1, hz2⟩ := info_parts Try.info9
  have hkl : k < n := by rw [← hn]; exact (List.getElem?_eq_some_iff.1 hk).1
  have hls := (strs_length l).trans hn
  obtain ⟨g, c, cur, rfl, hg, hc, htk⟩ := ht.pos (by omega)
  have hsl := sl_row (w := w) hg htk
  have hcell := hsl k _ (strs_at hk)
  obtain ⟨a0, ha0, _, hck⟩ := hcell
  injection ha0 with ha0
  subst ha0
  have h3' : (⟨g, 0, none⟩ : Addr).add k = ⟨g, k, none⟩ := by unfold Addr.add; split <;> simp_all
  rw [h3'] at hck
  have hwr : IntKind.i64.wrap ((k : Int) + 1) = (k : Int) + 1 := by rw [IntKind.wrap_i64]; omega
  have q0 : (0 : Int) ≤ (k : Int) := by omega
  have q1 : (k : Int) ≤ (c : Int) := by omega
  have q2 : (k : Int) + 1 ≤ (n : Int) := by omega
  have q3 : (0 : Int) ≤ (k : Int) + 1 := by omega
  have q5 : (k : Int) < (n : Int) := by omega
  have hd : decide ((n : Int) ≤ (k : Int)) = false := by simp; omega
  have htake : Sl w w.heap.size (some ⟨g, 0, none⟩) ((strs l).take k) := by
    intro j u hj
    rw [List.getElem?_take] at hj
    split at hj
    · exact hsl j u hj
    · cases hj
  obtain ⟨u1, w1, hr1, ht1, hg1, hn1⟩ := run_append_tx (P := Try.prog) w 29 29 9 i0 (.string ⟨#[]⟩) 16 Try.underlying29 hi0 hz0 hz1 hz2 rfl (.slice none 0 0) 0 [] (Tx.nil _ _) w.heap.size (some ⟨g, 0, none⟩) k c ((strs l).take k) (by rw [List.length_take]; omega) htake
    (fun u hu => strs_one l u (List.mem_of_mem_take hu)) (by omega) (by omega) (by simp)
  obtain ⟨A1, c1, rfl, _, _, _⟩ := ht1.form
  have hB1 := (Below.refl w.heap.size w).grown hg1 (Nat.le_refl _) (by simp [Value.ownBlock])
  have hx1 : ∀ k_1, (Value.slice A1 (0 + k) c1).ownBlock = some k_1 → w.heap.size ≤ k_1 := fun k_1 hk => by
    rcases hn1 k_1 hk with h | h
    · simp [Value.ownBlock] at h
    · exact h
  have hsl1 := hsl.below hB1
  obtain ⟨A0, hA0, e1, e2⟩ : ∃ A0 : Addr, Sl w1.drew w.heap.size (some A0) ((strs l).drop (k + 1)) ∧ (c = k + 1 → A0 = ⟨g, 0, none⟩) ∧ (c ≠ k + 1 → A0 = ⟨g, k + 1, none⟩) := by
    by_cases hcc : c = k + 1
    · refine ⟨⟨g, 0, none⟩, ?_, fun _ => rfl, fun h => absurd hcc h⟩
      rw [List.drop_eq_nil_of_le (by omega)]
      exact Sl.nil _ _ _
    · refine ⟨⟨g, k + 1, none⟩, ?_, fun h => absurd h hcc, fun _ => rfl⟩
      intro j u hj
      rw [List.getElem?_drop] at hj
      obtain ⟨a, ha, hb, hc2⟩ := hsl1 (k + 1 + j) u hj
      injection ha with ha
      subst ha
      refine ⟨_, rfl, hb, ?_⟩
      rw [← hc2]
      show w1.cell? _ = _
      have h3 : (⟨g, 0, none⟩ : Addr).add (k + 1 + j) = ⟨g, k + 1 + j, none⟩ := by unfold Addr.add; split <;> simp_all
      have h4 : (⟨g, k + 1, none⟩ : Addr).add j = ⟨g, k + 1 + j, none⟩ := by unfold Addr.add; split <;> simp_all
      rw [h3, h4]
  obtain ⟨u2, w2, hr2, ht2, hg2, hn2'⟩ := run_append_tx (P := Try.prog) w1.drew 29 29 9 i0 (.string ⟨#[]⟩) 16 Try.underlying29 hi0 hz0 hz1 hz2 rfl (.slice A1 (0 + k) c1) (0 + k) ([] ++ (strs l).take k)
    (ht1.drewN 1) w.heap.size (some A0) (n - (k + 1)) (c - (k + 1)) ((strs l).drop (k + 1)) (by rw [List.length_drop]; omega) hA0 (fun u hu => strs_one l u (List.mem_of_mem_drop hu)) (by omega) (by omega) (by simp)
  obtain ⟨A2, c2, rfl, _, _, _⟩ := ht2.form
  rw [Nat.zero_add] at *
  have hc1 : w1.cell? ⟨g, k, none⟩ = some (.string s) := (hB1.cell (p := ⟨g, k, none⟩) (heap_lt hg)).trans hck
  have hB2 := (below_drewN hB1 1).grown hg2 hB1.size hx1
  have hc2 : w2.cell? ⟨g, k, none⟩ = some (.string s) := (hB2.cell (p := ⟨g, k, none⟩) (heap_lt hg)).trans hck
  have FIN : Hid (Tx w2 9 (.slice A2 (k + (n - (k + 1))) c2) (n - 1) (strs (l.eraseIdx k)) ∧ (∀ k_1, (Value.slice A2 (k + (n - (k + 1))) c2).ownBlock = some k_1 → w.heap.size ≤ k_1) ∧ Below w.heap.size w w2) := by
    refine ⟨?_, fun j hj => ?_, hB2⟩
    · have h3 : strs (l.eraseIdx k) = (strs l).take k ++ (strs l).drop (k + 1) := by
        unfold strs; rw [List.eraseIdx_eq_take_drop_succ, List.map_append, List.map_take, List.map_drop]
      rw [h3, show n - 1 = k + (n - (k + 1)) by omega]
      simpa using ht2
    · rcases hn2' j hj with h | h
      · exact hx1 j h
      · have := hB1.size; have h5 : w1.heap.size ≤ j := h; omega
  clear ht hn hsl hls ht1 hg1 hn1 hB1 hx1 ht2 hg2 hn2' hk htk hg htake hsl1 hA0 hB2
  by_cases hcc : c = k + 1
  · have e := e1 hcc
    have hnk : n = k + 1 := by omega
    have q4 : (k : Int) ≤ (k : Int) + 1 := by omega
    have q6 : (k : Int) < (k : Int) + 1 := by omega
    subst e
    subst hcc hnk
    clear e1 e2
    have e0 : k + (k + 1 - (k + 1)) = k := by omega
    rw [e0] at FIN
    clear e0
    go_enter Try.func15, Try.ntmps15
    go_wp2_with (at_builtin; refine appendBy rfl _ _ 29 rfl _ _ rfl rfl _ _ hr1 ?_)
    go_region_law (refine step_appendBy rfl _ _ 29 rfl _ _ (by simp [Act.eval, Act.put]) (by simp [Act.eval, Act.put]) _ _ hr2 ?_)
    all_goals
      go_wp2
      go_ret3
      exact ⟨_, rfl, FIN.out⟩
  · have e := e2 hcc
    subst e
    clear e1 e2
    go_enter Try.func15, Try.ntmps15
    go_wp2_with (at_builtin; refine appendBy rfl _ _ 29 rfl _ _ rfl rfl _ _ hr1 ?_)
    go_region_law (refine step_appendBy rfl _ _ 29 rfl _ _ (by simp [Act.eval, Act.put]) (by simp [Act.eval, Act.put]) _ _ hr2 ?_)
    all_goals
      go_wp2
      go_ret3
      exact ⟨_, rfl, FIN.out⟩
end
end Go.Proofs.Ytlhlnaengedfgaa
