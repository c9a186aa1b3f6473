/- Contracts of the bag's methods: New, Twin, Take, All. Condition: the bag is well made (BagIs), or nil, or zero. -/
import Derived.Test.YtlhlnaengedfgaaBagA
import Derived.Deep.RegionLaw
namespace Go.Proofs.Ytlhlnaengedfgaa
open Go.RowKit Go.Lk

section
variable (bs most : Nat) (v : Value) (l : List ByteArray) (w : World)

theorem new_bad (m : Int) (h : m < 0 ∨ 64 < m) :
    Calls Try.prog 11 #[.int .i64 m] w fun e w' => e = .returned (.tuple #[.pointer none, .int .i64 1]) ∧ w = w' := by
  rcases h with h | h
  · go_enter Try.func11, Try.ntmps11
    go_wp2
    go_ret2
    exact ⟨rfl, rfl⟩
  · have h' : ¬ m < 0 := by omega
    go_enter Try.func11, Try.ntmps11
    go_wp2
    go_ret2
    exact ⟨rfl, rfl⟩
set_option maxHeartbeats 400000 in
theorem new_ok (m : Nat) (h : m ≤ 64) :
    Calls Try.prog 11 #[.int .i64 (m : Int)] w fun e w' => ∃ bs, e = .returned (.tuple #[.pointer (some ⟨bs, 0, none⟩), .int .i64 0]) ∧ BagIs w' bs m (.slice none 0 0) [] ∧ w.heap.size ≤ bs ∧ Below w.heap.size w w' := by
  go_enter Try.func11, Try.ntmps11
  go_wp2_with fail
  go_ret2
  refine ⟨w.heap.size, rfl, ⟨?_, Tx.nil _ _, by simp, h, by simp [Value.ownBlock]⟩, Nat.le_refl _, (Below.refl _ w).alloc (Nat.le_refl _) _⟩
  exact heap_alloc_new w _

theorem twin_bad (h : BagIs w bs most v l) (p : Int) (hp : p < 0 ∨ (l.length : Int) ≤ p) :
    Calls Try.prog 17 #[.pointer (some ⟨bs, 0, none⟩), .int .i64 p] w fun e w' => e = .returned (.int .i64 7) ∧ w = w' := by
  have HL := Lib.hid (at_bad bs most v l w h p hp)
  clear h hp
  go_enter Try.func17, Try.ntmps17
  go_wp2_with fail
  refine HL.out.mono ?_
  rintro e w1 ⟨rfl, hw⟩
  subst hw
  go_wp2_with fail
  go_ret
  exact ⟨rfl, rfl⟩
theorem twin_nil (p : Int) :
    Calls Try.prog 17 #[.pointer none, .int .i64 p] w fun e w' => e = .returned (.int .i64 7) ∧ w = w' := by
  have HL := Lib.hid (at_nil w p)
  go_enter Try.func17, Try.ntmps17
  go_wp2_with fail
  refine HL.out.mono ?_
  rintro e w1 ⟨rfl, hw⟩
  subst hw
  go_wp2_with fail
  go_ret
  exact ⟨rfl, rfl⟩
theorem twin_full (h : BagIs w bs most v l) (hf : l.length = most) (k : Nat) (s : ByteArray) (hk : l[k]? = some s) :
    Calls Try.prog 17 #[.pointer (some ⟨bs, 0, none⟩), .int .i64 (k : Int)] w fun e w' => e = .returned (.int .i64 6) ∧ ∃ m, w' = w.drewN m := by
  have HL := Lib.hid (at_ok bs most v l w h k s hk)
  have HP := Lib.hid (put_full bs most v l w h hf s)
  clear h hk hf
  go_enter Try.func17, Try.ntmps17
  go_wp2_with fail
  refine HL.out.mono ?_
  rintro e w1 ⟨rfl, hw⟩
  subst hw
  go_wp2_with fail
  refine HP.out.mono ?_
  rintro e w1 ⟨rfl, m, rfl⟩
  go_wp2_with fail
  go_ret
  exact ⟨rfl, _, rfl⟩
theorem twin_room (h : BagIs w bs most v l) (hf : l.length < most) (k : Nat) (s : ByteArray) (hk : l[k]? = some s) :
    Calls Try.prog 17 #[.pointer (some ⟨bs, 0, none⟩), .int .i64 (k : Int)] w fun e w' => e = .returned (.int .i64 0) ∧
      ∃ v', BagIs w' bs most v' (l ++ [s]) ∧ OnlyIn (bs :: v.ownBlock.toList) w w' ∧ ∀ k, v'.ownBlock = some k → v.ownBlock = some k ∨ w.heap.size ≤ k := by
  have HL := Lib.hid (at_ok bs most v l w h k s hk)
  have HP := Lib.hid (put_room bs most v l w h hf s)
  clear h hk hf
  go_enter Try.func17, Try.ntmps17
  go_wp2_with fail
  refine HL.out.mono ?_
  rintro e w1 ⟨rfl, hw⟩
  subst hw
  go_wp2_with fail
  refine HP.out.mono ?_
  rintro e w1 ⟨rfl, HB⟩
  have HB := Lib.hid HB
  go_wp2_with fail
  go_ret
  exact ⟨rfl, HB.out⟩

theorem take_bad (h : BagIs w bs most v l) (p : Int) (hp : p < 0 ∨ (l.length : Int) ≤ p) :
    Calls Try.prog 14 #[.pointer (some ⟨bs, 0, none⟩), .int .i64 p] w fun e w' => e = .returned (.tuple #[.string ⟨#[]⟩, .bool false]) ∧ w = w' := by
  have HL := Lib.hid (at_bad bs most v l w h p hp)
  clear h hp
  go_enter Try.func14, Try.ntmps14
  go_wp2_with fail
  refine HL.out.mono ?_
  rintro e w1 ⟨rfl, hw⟩
  subst hw
  go_wp2_with fail
  go_ret2
  exact ⟨rfl, rfl⟩

set_option maxHeartbeats 1000000 in
theorem take_ok (h : BagIs w bs most v l) (k : Nat) (s : ByteArray) (hk : l[k]? = some s) :
    Calls Try.prog 14 #[.pointer (some ⟨bs, 0, none⟩), .int .i64 (k : Int)] w fun e w' => e = .returned (.tuple #[.string s, .bool true]) ∧
      ∃ v', BagIs w' bs most v' (l.eraseIdx k) ∧ OnlyIn [bs] w w' ∧ ∀ k, v'.ownBlock = some k → v.ownBlock = some k ∨ w.heap.size ≤ k := by
  obtain ⟨i0, hi0, hz0, hz1, hz2⟩ := info_parts Try.info9
  have HL := Lib.hid (at_ok bs most v l w h k s hk)
  have hkl : k < l.length := (List.getElem?_eq_some_iff.1 hk).1
  obtain ⟨g, c, cur, rfl, hg, hc, htk⟩ := h.t.pos (by omega)
  have HS := Lib.hid h
  have c1 := h.c1
  have f1 := h.f1
  have hsm := h.small
  have hle := h.le
  obtain ⟨n, hn⟩ : ∃ n, l.length = n := ⟨_, rfl⟩
  rw [hn] at c1 hkl hc htk hle
  have HN := Lib.hid hn
  have hls : (strs l).length = n := (strs_length l).trans hn
  have hgt : ∀ p, p ≤ n → cur.toList.take p = (strs l).take p := fun p hp => by rw [← htk, List.take_take, Nat.min_eq_left hp]
  have hsl := sl_row (w := w) hg htk
  have hwr : IntKind.i64.wrap ((k : Int) + 1) = (k : Int) + 1 := by rw [IntKind.wrap_i64]; omega
  have q0 : (0 : Int) ≤ (k : Int) := by omega
  have q1 : (k : Int) ≤ (c : Int) := by omega
  have q2 : (k : Int) + 1 ≤ (n : Int) := by omega
  have q3 : (0 : Int) ≤ (k : Int) + 1 := by omega
  obtain ⟨A0, hA0, e1, e2⟩ : ∃ A0 : Addr, Sl w.drew w.heap.size (some A0) ((strs l).drop (k + 1)) ∧ (c = k + 1 → A0 = ⟨g, 0, none⟩) ∧ (c ≠ k + 1 → A0 = ⟨g, k + 1, none⟩) := by
    by_cases hcc : c = k + 1
    · refine ⟨⟨g, 0, none⟩, ?_, fun _ => rfl, fun h => absurd hcc h⟩
      rw [List.drop_eq_nil_of_le (by omega)]
      exact Sl.nil _ _ _
    · refine ⟨⟨g, k + 1, none⟩, ?_, fun h => absurd h hcc, fun _ => rfl⟩
      intro j u hj
      rw [List.getElem?_drop] at hj
      obtain ⟨a, ha, hb, hc2⟩ := hsl (k + 1 + j) u hj
      injection ha with ha
      subst ha
      refine ⟨_, rfl, hb, ?_⟩
      rw [← hc2]
      show w.cell? _ = _
      have h3 : (⟨g, 0, none⟩ : Addr).add (k + 1 + j) = ⟨g, k + 1 + j, none⟩ := by unfold Addr.add; split <;> simp_all
      have h4 : (⟨g, k + 1, none⟩ : Addr).add j = ⟨g, k + 1 + j, none⟩ := by unfold Addr.add; split <;> simp_all
      rw [h3, h4]
  obtain ⟨v', w', hr, ht', hg', hn'⟩ := run_append_tight (P := Try.prog) w.drew 29 29 9 i0 (.string ⟨#[]⟩) 16 Try.underlying29 hi0 hz0 hz1 hz2 rfl g k cur ((strs l).take k) hg (hgt k (by omega)) (by rw [List.length_take]; omega)
    w.heap.size (some A0) (n - (k + 1)) (c - (k + 1)) ((strs l).drop (k + 1)) (by rw [List.length_drop]; omega) hA0 (by omega) (by omega) (by simp)
  obtain ⟨A', c', hv', _, _, _⟩ := ht'.form
  subst hv'
  have hgb := HS.out.apart g rfl
  have hO2 := ((OnlyIn.refl [bs] w).drew).grown hg' (by simp)
  have hbs : w'.heap[bs]? = some (.cells #[.int .i64 (most : Int), .slice (some ⟨g, 0, none⟩) n c] 48 (0, 0)) := by
    rw [hg'.block bs (heap_lt HS.out.s) (by simp)]
    show w.heap[bs]? = _
    rw [HS.out.s, HN.out]
  have f2 : w'.frozen? ⟨bs, 1, none⟩ = false := by simp [World.frozen?, hbs]
  have g2 : w'.cell? ⟨bs, 1, none⟩ = some (.slice (some ⟨g, 0, none⟩) n c) := by rw [cell_of_row w' bs 1 _ _ _ hbs]; rfl
  have FIN : Hid (BagIs (w'.setCell ⟨bs, 1, none⟩ (.slice A' (k + (n - (k + 1))) c')) bs most (.slice A' (k + (n - (k + 1))) c') (l.eraseIdx k) ∧
      OnlyIn [bs] w (w'.setCell ⟨bs, 1, none⟩ (.slice A' (k + (n - (k + 1))) c')) ∧ ∀ j, (Value.slice A' (k + (n - (k + 1))) c').ownBlock = some j → (Value.slice (some ⟨g, 0, none⟩) l.length c).ownBlock = some j ∨ w.heap.size ≤ j) := by
    have hlt := heap_lt HS.out.s
    have hnb : ∀ j, (Value.slice A' (k + (n - (k + 1))) c').ownBlock = some j → j ≠ bs := fun j hj => by
      rcases hn' j hj with h | h
      · rw [h]; exact hgb
      · simp at h; omega
    have hle2 : (l.eraseIdx k).length = k + (n - (k + 1)) := by rw [List.length_eraseIdx, if_pos (by omega)]; omega
    refine ⟨⟨?_, ?_, by omega, hsm, hnb⟩, hO2.setCell (by simp) _, fun j hj => ?_⟩
    · rw [heap_set1 hbs 1 _]; rfl
    · have h2 := ht'.only ((OnlyIn.refl [bs] w').setCell (p := ⟨bs, 1, none⟩) (by simp) (.slice A' (k + (n - (k + 1))) c')) (fun j hj => by simpa using hnb j hj)
      rw [hle2]
      have h3 : strs (l.eraseIdx k) = (strs l).take k ++ (strs l).drop (k + 1) := by
        unfold strs; rw [List.eraseIdx_eq_take_drop_succ, List.map_append, List.map_take, List.map_drop]
      rw [h3]
      exact h2
    · rcases hn' j hj with h | h
      · left; rw [h]; rfl
      · right; simpa using h
  clear h hk hn hls hgt hsl ht' hn' hg' hO2 hbs hg htk hA0
  by_cases hcc : c = k + 1
  · have e := e1 hcc
    have hnk : n = k + 1 := by omega
    have q4 : (k : Int) ≤ (k : Int) + 1 := by omega
    subst e
    subst hcc hnk
    clear e1 e2
    have e0 : k + (k + 1 - (k + 1)) = k := by omega
    rw [e0] at FIN
    clear e0
    go_enter Try.func14, Try.ntmps14
    go_wp2_with fail
    refine HL.out.mono ?_
    rintro e w1 ⟨rfl, hw⟩
    subst hw
    go_wp2_with fail
    go_region_law (refine step_appendBy rfl _ _ 29 rfl _ _ (by simp [Act.eval, Act.put]) (by simp [Act.eval, Act.put]) _ _ hr ?_)
    all_goals
      go_wp2
      go_ret2
      exact ⟨rfl, _, FIN.out⟩
  · have e := e2 hcc
    subst e
    clear e1 e2
    go_enter Try.func14, Try.ntmps14
    go_wp2_with fail
    refine HL.out.mono ?_
    rintro e w1 ⟨rfl, hw⟩
    subst hw
    go_wp2_with fail
    go_region_law (refine step_appendBy rfl _ _ 29 rfl _ _ (by simp [Act.eval, Act.put]) (by simp [Act.eval, Act.put]) _ _ hr ?_)
    all_goals
      go_wp2
      go_ret2
      exact ⟨rfl, _, FIN.out⟩

theorem take_zero (bs : Nat) (w : World) (h : BagIs w bs 0 (.slice none 0 0) []) (p : Int) :
    Calls Try.prog 14 #[.pointer (some ⟨bs, 0, none⟩), .int .i64 p] w fun e w' => e = .returned (.tuple #[.string ⟨#[]⟩, .bool false]) ∧ w = w' :=
  take_bad bs 0 _ [] w h p (by simp; omega)

set_option maxHeartbeats 400000 in
theorem all_nil : Calls Try.prog 20 #[.pointer none] w fun e w' => e = .returned (.slice none 0 0) ∧ w = w' := by
  have HL := Lib.hid (fun W => len_nil W)
  go_enter Try.func20, Try.ntmps20
  go_wp2_with fail
  refine (HL.out _).mono ?_
  rintro e w1 ⟨rfl, hw⟩
  subst hw
  go_wp2_with fail
  go_ret
  exact ⟨rfl, rfl⟩

set_option maxHeartbeats 1000000 in
theorem all_ok (h : BagIs w bs most v l) :
    Calls Try.prog 20 #[.pointer (some ⟨bs, 0, none⟩)] w fun e w' => ∃ u, e = .returned u ∧ Tx w' 9 u l.length (strs l) ∧ (∀ k, u.ownBlock = some k → w.heap.size ≤ k) ∧ Below w.heap.size w w' := by
  obtain ⟨i0, hi0, hz0, hz1, hz2⟩ := info_parts Try.info9
  have HL := Lib.hid (fun W h => len_ok bs most v l W h)
  have HS := Lib.hid h
  obtain ⟨n, hn⟩ : ∃ n, l.length = n := ⟨_, rfl⟩
  have HN := Lib.hid hn
  have hle := h.le
  have hsm := h.small
  rcases Nat.eq_zero_or_pos n with h0 | h0
  · have hl : l = [] := List.eq_nil_of_length_eq_zero (by omega)
    subst hl
    clear h hn
    go_enter Try.func20, Try.ntmps20
    go_wp2_with fail
    refine (HL.out _ HS.out).mono ?_
    rintro e w1 ⟨rfl, hw⟩
    subst hw
    go_wp2_with fail
    go_ret
    exact ⟨_, rfl, Tx.nil _ _, by simp [Value.ownBlock], Below.refl _ _⟩
  · have hmk := make_n (P := Try.prog) 29 9 i0 (.string ⟨#[]⟩) Try.underlying29 hi0 hz0 rfl hz1 (by omega) n (by omega) w
    obtain ⟨g, c, cur, rfl, hg, hc, htk⟩ := h.t.pos (by omega)
    have hsl := sl_row (w := w) hg htk
    obtain ⟨zs, ezs⟩ : ∃ zs, zs = (List.replicate n (Value.string ⟨#[]⟩)).toArray := ⟨_, rfl⟩
    have hsl2 : Sl (w.alloc (.cells zs 9)) w.heap.size (some ⟨g, 0, none⟩) (strs l) := hsl.keep fun p hp => World.cell?_alloc_lt _ _ p hp
    have hcp := run_copy_row (P := Try.prog) (w.alloc (.cells zs 9)) 29 29 3 9 w.heap.size 0 n n ⟨g, 0, none⟩ n c zs 9 (strs l) Try.underlying29 (by rw [hi0]; simp [hz1]) (heap_alloc_new w _) (by rw [strs_length, hn]; simp)
      (fun j u hj => by obtain ⟨a, ha, _, hcc⟩ := hsl2 j u hj; injection ha with ha; subst ha; exact hcc) (by rw [strs_length, hn, ezs]; simp) (strs_one l)
    have c1 := (HS.out.below ((Below.refl w.heap.size w).alloc (Nat.le_refl _) (.cells zs 9))).c1
    rw [hn] at c1
    rw [← ezs] at hmk
    have hne : ((n : Int) == 0) = false := by rw [beq_eq_false_iff_ne]; omega
    have EZ := Lib.hid ezs
    clear h hsl hsl2 hg htk ezs
    go_enter Try.func20, Try.ntmps20
    go_wp2_with fail
    refine (HL.out _ HS.out).mono ?_
    rintro e w1 ⟨rfl, hw⟩
    subst hw
    rw [hn]
    go_wp2_with fail
    refine (HL.out _ HS.out).mono ?_
    rintro e w1 ⟨rfl, hw⟩
    subst hw
    rw [hn]
    go_wp2_with fail
    go_ret
    have hrow : ∀ X : Array Value, ((w.alloc (.cells zs 9)).setRow w.heap.size X).heap[w.heap.size]? = some (.cells X 9 (0, 0)) := fun X => setRow_heap _ w.heap.size zs X 9 _ (heap_alloc_new w _)
    have hls := strs_length l
    refine ⟨.slice (some ⟨w.heap.size, 0, none⟩) n n, rfl, ?_, by simp [Value.ownBlock], ((Below.refl w.heap.size w).alloc (Nat.le_refl _) (.cells zs 9)).trans ⟨rfl, rfl, rfl, by simp, fun k hk => setRow_other _ w.heap.size k _ (by omega)⟩⟩
    rw [hn]
    refine .inr ⟨hls.trans hn, w.heap.size, _, rfl, hrow _, ?_⟩
    have := hls.trans hn
    rw [List.toList_toArray, ← this, List.take_left]
end
end Go.Proofs.Ytlhlnaengedfgaa
