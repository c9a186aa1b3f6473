/- Contracts of Put, Take and Clear. Condition: the places are well made (SlotIs), or nil. -/
import Derived.Test.YtnlpjgogflcmoaaSlotA
namespace Go.Proofs.Ytnlpjgogflcmoaa
open Go.RowKit Go.Lk

theorem SlotIs.set_ {w : World} {bs many : Nat} {ps : List (Option (Nat × It))} (h : SlotIs w bs many ps) (q : Nat) (hq : q < many) (o : Option (Nat × It)) (ho : ∀ b x, o = some (b, x) → w.heap[b]? = some (.cells x.arr 29 (0, 0)) ∧ b ≠ bs) :
    SlotIs (w.setCell ⟨bs, 1 + q, none⟩ (pval o)) bs many (ps.set q o) := by
  have hoth : ∀ b, b ≠ bs → (w.setCell ⟨bs, 1 + q, none⟩ (pval o)).heap[b]? = w.heap[b]? := fun b hb => Below.heap_setCell _ _ _ _ (by simpa using hb)
  refine ⟨?_, by rw [List.length_set]; exact h.len, fun k b x hk => ?_, h.small, fun k b x hk => ?_⟩
  · rw [heap_set1 h.s (1 + q) _]
    congr 2
    rw [List.setIfInBounds_toArray, Nat.add_comm, List.set_cons_succ, List.map_set]
  · rw [List.getElem?_set] at hk
    split at hk
    · split at hk
      · injection hk with hk
        obtain ⟨h1, h2⟩ := ho b x hk
        exact (hoth b h2).trans h1
      · cases hk
    · exact (hoth b (h.ne hk)).trans (h.it k b x hk)
  · rw [List.getElem?_set] at hk
    split at hk
    · omega
    · exact h.free k b x hk

section
variable (bs many : Nat) (ps : List (Option (Nat × It))) (w : World)

set_option maxHeartbeats 1000000 in
theorem put_twice (h : SlotIs w bs many ps) (x : It) (q b : Nat) (y : It) (hq : ps[q]? = some (some (b, y))) (hid : y.id = x.id) (hno : ∀ (k b : Nat) (z : It), k < q → ps[k]? = some (some (b, z)) → z.id ≠ x.id) :
    Calls Try.prog 8 #[.pointer (some ⟨bs, 0, none⟩), .agg x.arr] w fun e w' => e = .returned (.tuple #[.int .i64 0, .int .i64 8]) ∧ Below w.heap.size w w' := by
  have h2 : SlotIs (w.alloc (.cells x.arr 29)) bs many ps := h.below ((Below.refl w.heap.size w).alloc (Nat.le_refl _) _)
  have HP := Lib.hid (place_ok bs many ps _ h2 x.id q b y hq hid hno)
  unfold It.arr at *
  clear h h2 hq hid hno
  go_enter Try.func8, Try.ntmps8
  go_wp2_with fail
  refine HP.out.mono ?_
  rintro e w1 ⟨rfl, hw⟩
  subst hw
  go_wp2_with fail
  go_ret2
  exact ⟨rfl, (Below.refl _ w).alloc (Nat.le_refl _) _⟩

set_option maxHeartbeats 2000000 in
theorem put_full (h : SlotIs w bs many ps) (x : It) (hno : ∀ (k b : Nat) (z : It), ps[k]? = some (some (b, z)) → z.id ≠ x.id) (hf : ∀ k, k < many → ∃ b z, ps[k]? = some (some (b, z))) :
    Calls Try.prog 8 #[.pointer (some ⟨bs, 0, none⟩), .agg x.arr] w fun e w' => e = .returned (.tuple #[.int .i64 0, .int .i64 6]) ∧ Below w.heap.size w w' := by
  have h2 : SlotIs (w.alloc (.cells x.arr 29)) bs many ps := h.below ((Below.refl w.heap.size w).alloc (Nat.le_refl _) _)
  have HP := Lib.hid (place_none bs many ps _ h2 x.id hno)
  have HQ := Lib.hid (places_ok bs many ps _ h2)
  have HS := Lib.hid h2
  have HF := Lib.hid hf
  have hsm := h.small
  have HB := Lib.hid ((Below.refl w.heap.size w).alloc (Nat.le_refl _) (.cells x.arr 29))
  unfold It.arr at *
  clear h h2 hno hf
  go_enter Try.func8, Try.ntmps8
  go_wp2_with fail
  refine HP.out.mono ?_
  rintro e w1 ⟨rfl, hw⟩
  subst hw
  go_wp2_with fail
  refine HQ.out.mono ?_
  rintro e w1 ⟨rfl, hw⟩
  subst hw
  go_wp2_with fail
  generalize w.alloc (.cells #[.int .i64 x.id, .int .i64 x.lv, .int .i64 x.fr, .int .i64 x.dl, .int .i64 x.bu, .int .i64 x.si, .int .i64 x.sq] 29) = wa at *
  go_loopw [19] (fun i wr => ∃ k : Nat, k ≤ many ∧ i = .int .i64 k ∧ wr = wa) (fun i _ => many - (intOf i).toNat)
  case atStart => exact ⟨0, by omega, rfl, rfl⟩
  case round =>
    obtain ⟨k, hk, rfl, rfl⟩ := hrel
    by_cases hlt : k < many
    · obtain ⟨b, z, ho⟩ := HF.out k hlt
      have ck := HS.out.ck ho
      have q1 : (k : Int) < 16 := by omega
      unfold pval at ck
      clear ho
      go_wp2_with fail
      exact ⟨⟨k + 1, by omega, by go_num, trivial⟩, by simp [intOf]; omega⟩
    · have : k = many := by omega
      subst this
      go_wp2_with fail
      go_ret2
      exact ⟨rfl, HB.out⟩

set_option maxHeartbeats 2000000 in
theorem put_ok (h : SlotIs w bs many ps) (x : It) (hno : ∀ (k b : Nat) (z : It), ps[k]? = some (some (b, z)) → z.id ≠ x.id) (q : Nat) (hqm : q < many) (hq : ps[q]? = some none) (hf : ∀ k, k < q → ∃ b z, ps[k]? = some (some (b, z))) :
    Calls Try.prog 8 #[.pointer (some ⟨bs, 0, none⟩), .agg x.arr] w fun e w' => e = .returned (.tuple #[.int .i64 (q : Int), .int .i64 0]) ∧ SlotIs w' bs many (ps.set q (some (w.heap.size, x))) ∧ OnlyIn [bs] w w' := by
  have h2 : SlotIs (w.alloc (.cells x.arr 29)) bs many ps := h.below ((Below.refl w.heap.size w).alloc (Nat.le_refl _) _)
  have HP := Lib.hid (place_none bs many ps _ h2 x.id hno)
  have HQ := Lib.hid (places_ok bs many ps _ h2)
  have HS := Lib.hid h2
  have HF := Lib.hid hf
  have HQq := Lib.hid hq
  have hsm := h.small
  have hlt0 := heap_lt h.s
  have hfz : (w.alloc (.cells x.arr 29)).frozen? ⟨bs, 1 + q, none⟩ = false := by simp [World.frozen?, h2.s]
  have FIN : Hid (SlotIs ((w.alloc (.cells x.arr 29)).setCell ⟨bs, 1 + q, none⟩ (pval (some (w.heap.size, x)))) bs many (ps.set q (some (w.heap.size, x))) ∧ OnlyIn [bs] w ((w.alloc (.cells x.arr 29)).setCell ⟨bs, 1 + q, none⟩ (pval (some (w.heap.size, x))))) :=
    ⟨h2.set_ q hqm _ (fun b z e => by injection e with e; injection e with e1 e2; subst e1 e2; exact ⟨heap_alloc_new w _, by omega⟩), ((OnlyIn.refl [bs] w).alloc _).setCell (by simp) _⟩
  unfold It.arr at *
  clear h h2 hno hf hq hlt0
  go_enter Try.func8, Try.ntmps8
  go_wp2_with fail
  refine HP.out.mono ?_
  rintro e w1 ⟨rfl, hw⟩
  subst hw
  go_wp2_with fail
  refine HQ.out.mono ?_
  rintro e w1 ⟨rfl, hw⟩
  subst hw
  go_wp2_with fail
  generalize w.alloc (.cells #[.int .i64 x.id, .int .i64 x.lv, .int .i64 x.fr, .int .i64 x.dl, .int .i64 x.bu, .int .i64 x.si, .int .i64 x.sq] 29) = wa at *
  go_loopw [19] (fun i wr => ∃ k : Nat, k ≤ q ∧ i = .int .i64 k ∧ wr = wa) (fun i _ => many - (intOf i).toNat)
  case atStart => exact ⟨0, by omega, rfl, rfl⟩
  case round =>
    obtain ⟨k, hk, rfl, rfl⟩ := hrel
    have hlt : k < many := by omega
    have q1 : (k : Int) < 16 := by omega
    by_cases hkq : k < q
    · obtain ⟨b, z, ho⟩ := HF.out k hkq
      have ck := HS.out.ck ho
      unfold pval at ck
      clear ho
      go_wp2_with fail
      exact ⟨⟨k + 1, by omega, by go_num, trivial⟩, by simp [intOf]; omega⟩
    · have : k = q := by omega
      subst this
      have ck := HS.out.ck HQq.out
      unfold pval at ck
      go_wp2_with fail
      go_ret2
      exact ⟨rfl, FIN.out⟩
end
end Go.Proofs.Ytnlpjgogflcmoaa
