/- Contracts of ticks, turns, classes of users and of the references for them. Condition: the numbers fit their types; turns of up to 2^40 ticks. -/
import Derived.Test.YtheggklmkgffaaaMixE
import Derived.Test.YtheggklmkgffaaaUserLaw
import Derived.WalkLawsBesides
namespace Go.Proofs.Ytheggklmkgffaaa
open Go.RowKit Go.Proofs.MixLaw Go.Proofs.UserLaw Go.Lk

theorem keepTick (n : Int) (w : World) :
    Calls Try.prog 34 #[.int .i64 n, .int .i64 1099511627776] w fun e w' => e = .returned (.int .i64 (tick n)) ∧ w = w' := by
  rcases Int.lt_or_le n 0 with h | h
  · have ht := Lib.hid (tick_neg n h)
    have h2 : n ≤ 1099511627776 := by omega
    go_enter Try.func34, Try.ntmps34
    go_wp2
    all_goals go_ret
    all_goals exact ⟨by rw [ht.out]; rfl, rfl⟩
  · rcases Int.lt_or_le 1099511627776 n with h2 | h2
    · have ht := Lib.hid (tick_big n h2)
      go_enter Try.func34, Try.ntmps34
      go_wp2
      all_goals go_ret
      all_goals exact ⟨by rw [ht.out]; rfl, rfl⟩
    · have ht := Lib.hid (tick_mid n h h2)
      go_enter Try.func34, Try.ntmps34
      go_wp2
      all_goals go_ret
      all_goals exact ⟨by rw [ht.out]; rfl, rfl⟩

theorem refKeepTick (n : Int) (w : World) :
    Calls Try.prog 35 #[.int .i64 n, .int .i64 1099511627776] w fun e w' => e = .returned (.int .i64 (tick n)) ∧ w = w' := by
  rcases Int.lt_or_le n 0 with h | h
  · have ht := Lib.hid (tick_neg n h)
    go_enter Try.func35, Try.ntmps35
    go_wp2
    go_ret
    exact ⟨by rw [ht.out]; rfl, rfl⟩
  · rcases Int.lt_or_le 1099511627776 n with h2 | h2
    · have ht := Lib.hid (tick_big n h2)
      go_enter Try.func35, Try.ntmps35
      go_wp2
      go_ret
      exact ⟨by rw [ht.out]; rfl, rfl⟩
    · have ht := Lib.hid (tick_mid n h h2)
      go_enter Try.func35, Try.ntmps35
      go_wp2
      go_ret
      exact ⟨by rw [ht.out]; rfl, rfl⟩

theorem refTick (n : Int) (w : World) :
    Calls Try.prog 26 #[.int .i64 n] w fun e w' => e = .returned (.int .i64 (tick n)) ∧ w = w' := by
  go_enter Try.func26, Try.ntmps26
  go_wp2_with fail
  refine (refKeepTick n _).mono ?_
  rintro e w' ⟨rfl, rfl⟩
  go_wp2
  go_ret
  exact ⟨rfl, rfl⟩

def users (key : Nat) (cl ro : Int) : Value := .agg #[.int .u64 (key : Int), .int .i64 cl, .int .i64 ro]

set_option maxHeartbeats 400000 in
theorem uTurn (key : Nat) (cl ro now : Int) (h : 0 ≤ ro) (w : World) :
    Calls Try.prog 20 #[users key cl ro, .int .i64 now] w fun e w' => e = .returned (.int .i64 (turn ro now)) ∧ Below w.heap.size w w' := by
  unfold users
  rcases Int.lt_or_eq_of_le h with h0 | h0
  · have hb : (ro == 0) = false := by rw [beq_eq_false_iff_ne]; omega
    have ht := tick_bd now
    have hp := Lib.hid (turn_pos ro now (by omega))
    go_enter Try.func20, Try.ntmps20
    go_wp2_with fail
    go_quiet ((go_at_call 34; exact quiet_l (keepTick now _)))
    go_wp2
    go_ret
    exact ⟨by rw [hp.out]; rfl, below_drewN ((Below.refl _ w).alloc (Nat.le_refl _) _) _⟩
  · subst h0
    have hp := Lib.hid (turn_zero now)
    go_enter Try.func20, Try.ntmps20
    go_wp2
    go_ret
    exact ⟨by rw [hp.out]; rfl, (Below.refl _ w).alloc (Nat.le_refl _) _⟩

set_option maxHeartbeats 400000 in
theorem refTurn (ro now : Int) (h : 1 ≤ ro) (w : World) :
    Calls Try.prog 25 #[.int .i64 ro, .int .i64 now] w fun e w' => e = .returned (.int .i64 (turn ro now)) ∧ w = w' := by
  have hb : (ro == 0) = false := by rw [beq_eq_false_iff_ne]; omega
  have ht := tick_bd now
  have hp := Lib.hid (turn_pos ro now (by omega))
  go_enter Try.func25, Try.ntmps25
  go_wp2_with fail
  refine (refTick now _).mono ?_
  rintro e w' ⟨rfl, rfl⟩
  go_wp2
  go_ret
  exact ⟨by rw [hp.out]; rfl, rfl⟩

theorem uRight (cl ro : Int) (h1 : 1 ≤ cl) (h2 : cl ≤ 16) (h3 : 1 ≤ ro) (h4 : ro ≤ 1099511627776) (w : World) :
    Calls Try.prog 19 #[.int .i64 cl, .int .i64 ro] w fun e w' => e = .returned (.bool true) ∧ w = w' := by
  go_enter Try.func19, Try.ntmps19
  go_wp2
  go_ret
  exact ⟨rfl, rfl⟩
theorem uWrong (cl ro : Int) (h : ¬ (1 ≤ cl ∧ cl ≤ 16 ∧ 1 ≤ ro ∧ ro ≤ 1099511627776)) (w : World) :
    Calls Try.prog 19 #[.int .i64 cl, .int .i64 ro] w fun e w' => e = .returned (.bool false) ∧ w = w' := by
  by_cases h1 : 1 ≤ cl
  · by_cases h2 : cl ≤ 16
    · by_cases h3 : 1 ≤ ro
      · have h4 : 1099511627776 < ro := by omega
        have h5 : decide (ro ≤ 1099511627776) = false := by simp; omega
        clear h
        go_enter Try.func19, Try.ntmps19
        go_wp2
        go_ret
        exact ⟨rfl, rfl⟩
      · clear h
        go_enter Try.func19, Try.ntmps19
        go_wp2
        go_ret
        exact ⟨rfl, rfl⟩
    · clear h
      go_enter Try.func19, Try.ntmps19
      go_wp2
      go_ret
      exact ⟨rfl, rfl⟩
  · clear h
    go_enter Try.func19, Try.ntmps19
    go_wp2
    go_ret
    exact ⟨rfl, rfl⟩

theorem next_eq (ro now : Int) : tick ((turn ro now + 1) * ro) = next ro now := rfl
set_option maxHeartbeats 400000 in
theorem uNext (key : Nat) (cl ro now : Int) (h : 0 ≤ ro) (h2 : ro ≤ 1099511627776) (w : World) :
    Calls Try.prog 21 #[users key cl ro, .int .i64 now] w fun e w' => e = .returned (.int .i64 (next ro now)) ∧ Below w.heap.size w w' := by
  have hb := turn_bd ro now h
  have hp := prod_bd ro now h h2
  have hu := fun W => uTurn key cl ro now h W
  unfold users at hu ⊢
  have HU := Lib.hid hu
  have HK := Lib.hid (fun W => keepTick ((turn ro now + 1) * ro) W)
  have hw1 : IntKind.i64.wrap (turn ro now + 1) = turn ro now + 1 := by rw [IntKind.wrap_i64]; omega
  have hw2 : IntKind.i64.wrap ((turn ro now + 1) * ro) = (turn ro now + 1) * ro := by rw [IntKind.wrap_i64]; generalize (turn ro now + 1) * ro = q at hp; omega
  clear hu hp hb
  go_enter Try.func21, Try.ntmps21
  go_wp2_with fail
  have HB := Lib.hid (((Below.refl w.heap.size w).alloc (Nat.le_refl _) (.cells #[.int .u64 (key : Int), .int .i64 cl, .int .i64 ro] 38)).drew)
  go_region_held3 (fun w' => w'.cell? ⟨w.heap.size, 0, none⟩ = some (.int .u64 (key : Int)) ∧ w'.cell? ⟨w.heap.size, 1, none⟩ = some (.int .i64 cl) ∧ w'.cell? ⟨w.heap.size, 2, none⟩ = some (.int .i64 ro)) (first | (exact ⟨(hB1.cell (p := ⟨w.heap.size, 0, none⟩) (by simp)).trans (by simp), (hB1.cell (p := ⟨w.heap.size, 1, none⟩) (by simp)).trans (by simp), (hB1.cell (p := ⟨w.heap.size, 2, none⟩) (by simp)).trans (by simp)⟩) | go_keep)
    (first
      | (go_at_call 20; refine (HU.out _).mono ?_; rintro e w1 ⟨rfl, hB1⟩)
      | (go_at_call 34; refine (HK.out _).mono ?_; rintro e w2 ⟨rfl, rfl⟩; rw [next_eq]))
  go_wp2
  go_ret
  exact ⟨rfl, HB.out.trans (hB1.mono (by simp))⟩

set_option maxHeartbeats 1000000 in
theorem uClass (key id : Nat) (cl ro now : Int) (hid : id < 18446744073709551616) (hc0 : 0 ≤ cl) (hc1 : cl ≤ 16) (h : 0 ≤ ro) (w : World) :
    Calls Try.prog 22 #[users key cl ro, .int .u64 (id : Int), .int .i64 now] w fun e w' => e = .returned (.int .i64 (cls key (turn ro now).toNat id cl)) ∧ Below w.heap.size w w' := by
  have hb := turn_bd ro now h
  obtain ⟨tn, htn⟩ : ∃ tn : Nat, turn ro now = (tn : Int) := ⟨(turn ro now).toNat, by omega⟩
  have hu := fun W => uTurn key cl ro now h W
  rw [htn] at hu hb ⊢
  rw [Int.toNat_natCast]
  unfold users at hu ⊢
  have HU := Lib.hid hu
  have HK := Lib.hid (fun W => mixClass key tn id cl (by omega) hid (by omega) W)
  have hw1 : IntKind.u64.wrap (tn : Int) = (tn : Int) := by rw [IntKind.wrap_u64]; omega
  clear hu htn
  go_enter Try.func22, Try.ntmps22
  go_wp2_with fail
  have HB := Lib.hid (((Below.refl w.heap.size w).alloc (Nat.le_refl _) (.cells #[.int .u64 (key : Int), .int .i64 cl, .int .i64 ro] 38)).drew)
  go_region_held3 (fun w' => w'.cell? ⟨w.heap.size, 0, none⟩ = some (.int .u64 (key : Int)) ∧ w'.cell? ⟨w.heap.size, 1, none⟩ = some (.int .i64 cl) ∧ w'.cell? ⟨w.heap.size, 2, none⟩ = some (.int .i64 ro)) (first | (exact ⟨(hB2.cell (p := ⟨w.heap.size, 0, none⟩) hs1).trans k0, (hB2.cell (p := ⟨w.heap.size, 1, none⟩) hs1).trans k1, (hB2.cell (p := ⟨w.heap.size, 2, none⟩) hs1).trans k2⟩) | (exact ⟨k0, k1, k2⟩) | go_keep)
    (first
      | (go_at_call 20; refine (HU.out _).mono ?_; rintro e w1 ⟨rfl, hB1⟩; have k0 := (hB1.cell (p := ⟨w.heap.size, 0, none⟩) (by simp)).trans (show _ = some (Value.int .u64 (key : Int)) by simp); have k1 := (hB1.cell (p := ⟨w.heap.size, 1, none⟩) (by simp)).trans (show _ = some (Value.int .i64 cl) by simp); have k2 := (hB1.cell (p := ⟨w.heap.size, 2, none⟩) (by simp)).trans (show _ = some (Value.int .i64 ro) by simp); have hs1 : w.heap.size < w1.heap.size := by have := hB1.size; simp at this; omega)
      | (go_at_call 14; refine (HK.out _).mono ?_; rintro e w2 ⟨rfl, hB2⟩))
  go_wp2
  go_ret
  exact ⟨rfl, (HB.out.trans (hB1.mono (by simp))).trans (hB2.mono (by omega))⟩

set_option maxHeartbeats 400000 in
theorem refUClass (key id : Nat) (cl ro now : Int) (hid : id < 18446744073709551616) (_hc0 : 0 ≤ cl) (hc1 : cl ≤ 16) (h : 1 ≤ ro) (w : World) :
    Calls Try.prog 27 #[.int .u64 (key : Int), .int .i64 cl, .int .i64 ro, .int .u64 (id : Int), .int .i64 now] w fun e w' => e = .returned (.int .i64 (cls key (turn ro now).toNat id cl)) ∧ w = w' := by
  have hb := turn_bd ro now (by omega)
  have HT := Lib.hid (fun W => refTurn ro now h W)
  obtain ⟨tn, htn⟩ : ∃ tn : Nat, turn ro now = (tn : Int) := ⟨(turn ro now).toNat, by omega⟩
  rw [htn] at HT hb ⊢
  rw [Int.toNat_natCast]
  have HK := Lib.hid (fun W => refClass key tn id cl (by omega) hid (by omega) W)
  clear htn
  go_enter Try.func27, Try.ntmps27
  go_wp2_with fail
  refine (HT.out _).mono ?_
  rintro e w1 ⟨rfl, rfl⟩
  go_wp2_with fail
  refine (HK.out _).mono ?_
  rintro e w1 ⟨rfl, rfl⟩
  go_wp2
  go_ret
  exact ⟨rfl, rfl⟩
end Go.Proofs.Ytheggklmkgffaaa
