/- Contracts of keys, Pair, Back, Of, Class and of the references for them. Condition: the numbers are below 2^64. -/
import Derived.Test.YtheggklmkgffaaaMixA
import Derived.BigQuiet
import Derived.Deep.QuietTactic
namespace Go.Proofs.Ytheggklmkgffaaa
open Go.RowKit Go.Proofs.MixLaw
set_option maxHeartbeats 400000 in
theorem keysF (B key x y : Nat) (hx : x < 18446744073709551616) (hy : y < 18446744073709551616) (w : World) (h : Two B x y w) :
    Calls Try.prog 28 #[.int .u64 key, .bool false, .func (.func 29) #[] #[.pointer (some ⟨B, 0, none⟩), .pointer (some ⟨B + 1, 0, none⟩)]] w fun e w' => e = .returned (.tuple #[]) ∧ Two B (pairN key x y 8).1 (pairN key x y 8).2 w' ∧ Below B w w' := by
  go_enter Try.func28, Try.ntmps28
  go_wp2
  go_loopw [7] (fun i wr => ∃ k : Nat, k ≤ 8 ∧ i = .int .i64 k ∧ Two B (pairN key x y k).1 (pairN key x y k).2 wr ∧ Below B w wr) (fun i _ => 8 - (intOf i).toNat)
  case atStart => exact ⟨0, by omega, rfl, h, Below.refl _ _⟩
  case round =>
    obtain ⟨k, hk8, rfl, hT, hB⟩ := hrel
    by_cases hlt : k < 8
    · go_wp2_with fail
      rw [rk_int key k]
      have hl := pairN_lt key x y k hx hy
      refine (pair1 B (rk key k) _ _ (rk_lt key k) hl.1 hl.2 _ hT).mono ?_
      rintro e w' ⟨rfl, hT', hB'⟩
      go_wp2_with fail
      go_roundw
      case rel => exact ⟨k + 1, by omega, by go_num, hT', hB.trans hB'⟩
      case measure => simp [intOf]; omega
    · have : k = 8 := by omega
      subst this
      go_wp2
      go_end0
      exact ⟨rfl, hT, hB⟩

theorem Two.new (w : World) (x y : Nat) : Two w.heap.size x y ((w.alloc (.cells #[.int .u64 (x : Int)] 22)).alloc (.cells #[.int .u64 (y : Int)] 22)) := by
  refine ⟨?_, ?_⟩
  · rw [Below.heap_alloc _ _ _ (by simp)]; exact heap_alloc_new w _
  · have := heap_alloc_new (w.alloc (.cells #[.int .u64 (x : Int)] 22)) (.cells #[.int .u64 (y : Int)] 22)
    simpa using this
theorem below_drewN {B : Nat} {a w : World} (h : Below B a w) (n : Nat) : Below B a (w.drewN n) := ⟨h.os, h.tape, h.output, h.size, h.block⟩

set_option maxHeartbeats 400000 in
theorem mixPair (key x y : Nat) (hx : x < 18446744073709551616) (hy : y < 18446744073709551616) (w : World) :
    Calls Try.prog 9 #[.int .u64 key, .int .u64 x, .int .u64 y] w fun e w' => e = .returned (.tuple #[.int .u64 ((pairN key x y 8).1 : Nat), .int .u64 ((pairN key x y 8).2 : Nat)]) ∧ Below w.heap.size w w' := by
  have hmf : ∀ (fn : Fn) (first cap : Array Value) (w : World), (Instr.makeFunc fn first cap).run Try.prog w = .ok (.func fn first cap) w := fun _ _ _ _ => rfl
  go_enter Try.func9, Try.ntmps9
  go_wp2_with fail
  refine (keysF w.heap.size key x y hx hy _ (Two.new w x y)).mono ?_
  rintro e w1 ⟨rfl, hT, hB⟩
  have HT := Lib.hid hT
  obtain ⟨h0, h1⟩ := hT
  have c0 := cell_of_one h0
  have c1 := cell_of_one h1
  have HB := Lib.hid hB
  clear h0 h1 hB
  go_wp2_with fail
  go_quiet (fail)
  go_wp2
  go_ret2
  exact ⟨rfl, below_drewN ((((Below.refl _ w).alloc (Nat.le_refl _) _).alloc (by simp) _).trans HB.out) _⟩

set_option maxHeartbeats 400000 in
theorem turned (x n : Nat) (hx : x < 18446744073709551616) (hn : n ≤ 64) (w : World) :
    Calls Try.prog 31 #[.int .u64 x, .int .i64 n] w fun e w' => e = .returned (.int .u64 ((turnN n x : Nat) : Int)) ∧ w = w' := by
  go_enter Try.func31, Try.ntmps31
  go_wp2
  go_loop [0, 5] (fun v i => ∃ k : Nat, k ≤ n ∧ i = .int .i64 k ∧ v = .int .u64 ((turnN k x : Nat) : Int)) (fun _ i => n - (intOf i).toNat)
  case atStart => exact ⟨0, by omega, rfl, rfl⟩
  case round =>
    obtain ⟨k, hk8, rfl, rfl⟩ := hrel
    by_cases hlt : k < n
    · go_wp2
      go_round
      case rel => 
        rw [turn1_int _ (turnN_lt k x hx)]
        exact ⟨k + 1, by omega, by go_num, rfl⟩
      case measure => simp [intOf]; omega
    · have : k = n := by omega
      subst this
      go_wp2
      go_ret
      exact ⟨rfl, rfl⟩

set_option maxHeartbeats 400000 in
theorem refPair (key x y : Nat) (hx : x < 18446744073709551616) (hy : y < 18446744073709551616) (w : World) :
    Calls Try.prog 10 #[.int .u64 key, .int .u64 x, .int .u64 y] w fun e w' => e = .returned (.tuple #[.int .u64 ((pairN key x y 8).1 : Nat), .int .u64 ((pairN key x y 8).2 : Nat)]) ∧ w = w' := by
  go_enter Try.func10, Try.ntmps10
  go_wp2
  go_loop [1, 2, 8] (fun a b i => ∃ k : Nat, k ≤ 8 ∧ i = .int .i64 k ∧ a = .int .u64 ((pairN key x y k).1 : Nat) ∧ b = .int .u64 ((pairN key x y k).2 : Nat)) (fun _ _ i => 8 - (intOf i).toNat)
  case atStart => exact ⟨0, by omega, rfl, rfl, rfl⟩
  case round =>
    obtain ⟨k, hk8, rfl, rfl, rfl⟩ := hrel
    have hl := pairN_lt key x y k hx hy
    by_cases hlt : k < 8
    · go_wp2_with fail
      refine (turned _ 56 hl.1 (by omega) _).mono ?_
      rintro e w' ⟨rfl, rfl⟩
      go_wp2_with fail
      refine (turned _ 3 hl.2 (by omega) _).mono ?_
      rintro e w' ⟨rfl, rfl⟩
      go_wp2_with fail
      go_round
      case rel =>
        rw [← rot_turn 56 _ (by omega) hl.1, ← rot_turn 3 _ (by omega) hl.2, rk_int key k, stepX_int _ _ _ (rk_lt key k), stepY_int _ _ _ (rk_lt key k) hl.2]
        exact ⟨k + 1, by omega, by go_num, rfl, rfl⟩
      case measure => simp [intOf]; omega
    · have : k = 8 := by omega
      subst this
      go_wp2
      go_ret2
      exact ⟨rfl, rfl⟩

set_option maxHeartbeats 400000 in
theorem mixOf (key x y : Nat) (hx : x < 18446744073709551616) (hy : y < 18446744073709551616) (w : World) :
    Calls Try.prog 11 #[.int .u64 key, .int .u64 x, .int .u64 y] w fun e w' => e = .returned (.int .u64 ((pairN key x y 8).1 : Nat)) ∧ Below w.heap.size w w' := by
  go_enter Try.func11, Try.ntmps11
  go_wp2_with fail
  refine (mixPair key x y hx hy _).mono ?_
  rintro e w1 ⟨rfl, hB⟩
  go_wp2
  go_ret
  exact ⟨rfl, hB⟩

set_option maxHeartbeats 400000 in
theorem refOf (key x y : Nat) (hx : x < 18446744073709551616) (hy : y < 18446744073709551616) (w : World) :
    Calls Try.prog 32 #[.int .u64 key, .int .u64 x, .int .u64 y] w fun e w' => e = .returned (.int .u64 ((pairN key x y 8).1 : Nat)) ∧ w = w' := by
  go_enter Try.func32, Try.ntmps32
  go_wp2_with fail
  refine (refPair key x y hx hy _).mono ?_
  rintro e w1 ⟨rfl, rfl⟩
  go_wp2
  go_ret
  exact ⟨rfl, rfl⟩

set_option maxHeartbeats 400000 in
theorem mixClass (key x y : Nat) (n : Int) (hx : x < 18446744073709551616) (hy : y < 18446744073709551616) (hn : n ≤ 9223372036854775807) (w : World) :
    Calls Try.prog 14 #[.int .u64 key, .int .u64 x, .int .u64 y, .int .i64 n] w fun e w' => e = .returned (.int .i64 (cls key x y n)) ∧ Below w.heap.size w w' := by
  by_cases h : n < 1
  · have hc := Lib.hid (cls_zero key x y n h)
    go_enter Try.func14, Try.ntmps14
    go_wp2
    go_ret
    exact ⟨by rw [hc.out]; rfl, Below.refl _ _⟩
  · have h1 : 1 ≤ n := by omega
    have hc := Lib.hid (cls_pos key x y n h1)
    have hl := cls_lt key x y n h1
    have h0 := cls_nonneg key x y n
    rw [hc.out] at hl h0
    go_enter Try.func14, Try.ntmps14
    go_wp2_with fail
    refine (mixOf key x y hx hy _).mono ?_
    rintro e w1 ⟨rfl, hB⟩
    go_wp2
    go_ret
    exact ⟨by rw [hc.out]; rfl, hB⟩

set_option maxHeartbeats 400000 in
theorem refClass (key x y : Nat) (n : Int) (hx : x < 18446744073709551616) (hy : y < 18446744073709551616) (hn : n ≤ 9223372036854775807) (w : World) :
    Calls Try.prog 13 #[.int .u64 key, .int .u64 x, .int .u64 y, .int .i64 n] w fun e w' => e = .returned (.int .i64 (cls key x y n)) ∧ w = w' := by
  by_cases h : n < 1
  · have hc := Lib.hid (cls_zero key x y n h)
    go_enter Try.func13, Try.ntmps13
    go_wp2
    go_ret
    exact ⟨by rw [hc.out]; rfl, rfl⟩
  · have h1 : 1 ≤ n := by omega
    have hc := Lib.hid (cls_pos key x y n h1)
    have hl := cls_lt key x y n h1
    have h0 := cls_nonneg key x y n
    rw [hc.out] at hl h0
    go_enter Try.func13, Try.ntmps13
    go_wp2_with fail
    refine (refOf key x y hx hy _).mono ?_
    rintro e w1 ⟨rfl, rfl⟩
    go_wp2
    go_ret
    exact ⟨by rw [hc.out]; rfl, rfl⟩

set_option maxHeartbeats 400000 in
theorem back1 (B r x y : Nat) (hr : r < 18446744073709551616) (hx : x < 18446744073709551616) (hy : y < 18446744073709551616) (w : World) (h : Two B x y w) :
    Calls Try.prog 33 #[.int .u64 r, .pointer (some ⟨B + 1, 0, none⟩), .pointer (some ⟨B, 0, none⟩)] w fun e w' => e = .returned (.tuple #[]) ∧ Two B (backX r x y) (backY r x y) w' ∧ Below B w w' := by
  have H := Lib.hid h
  obtain ⟨h0, h1⟩ := h
  have c0 := cell_of_one h0
  have c1 := cell_of_one h1
  have f0 := free_of_one h0
  have f1 := free_of_one h1
  clear h0 h1
  go_enter Try.func33, Try.ntmps33
  go_wp2_with fail
  rw [u64_xor_nat y x hy hx]
  refine (rotl_m3 _ (xor_lt y x hy hx) _).mono ?_
  rintro e w' ⟨rfl, rfl⟩
  rw [show rot 61 (y ^^^ x) = backY r x y from rfl]
  go_wp2_with fail
  rw [backX_int r x y hr hx hy]
  refine (rotl_8 (((x ^^^ r) + (M - backY r x y)) % M) (Nat.mod_lt _ (by decide)) _).mono ?_
  rintro e w' ⟨rfl, rfl⟩
  rw [show rot 8 (((x ^^^ r) + (M - backY r x y)) % M) = backX r x y from rfl]
  go_wp2
  go_end0
  exact ⟨rfl, (H.out.set1).set0, ((Below.refl B w).setCell (by simp) _).setCell (by simp) _⟩

set_option maxHeartbeats 400000 in
theorem keysB (B key x y : Nat) (hx : x < 18446744073709551616) (hy : y < 18446744073709551616) (w : World) (h : Two B x y w) :
    Calls Try.prog 28 #[.int .u64 key, .bool true, .func (.func 33) #[] #[.pointer (some ⟨B + 1, 0, none⟩), .pointer (some ⟨B, 0, none⟩)]] w fun e w' => e = .returned (.tuple #[]) ∧ Two B (backN key x y 8).1 (backN key x y 8).2 w' ∧ Below B w w' := by
  go_enter Try.func28, Try.ntmps28
  go_wp2
  go_loopw [7] (fun i wr => ∃ k : Nat, k ≤ 8 ∧ i = .int .i64 k ∧ Two B (backN key x y k).1 (backN key x y k).2 wr ∧ Below B w wr) (fun i _ => 8 - (intOf i).toNat)
  case atStart => exact ⟨0, by omega, rfl, h, Below.refl _ _⟩
  case round =>
    obtain ⟨k, hk8, rfl, hT, hB⟩ := hrel
    by_cases hlt : k < 8
    · go_wp2_with fail
      rw [show (7 : Int) - (k : Int) = ((7 - k : Nat) : Int) from by omega, rk_int key (7 - k)]
      have hl := backN_lt key x y k hx hy
      refine (back1 B (rk key (7 - k)) _ _ (rk_lt key (7 - k)) hl.1 hl.2 _ hT).mono ?_
      rintro e w' ⟨rfl, hT', hB'⟩
      go_wp2_with fail
      go_roundw
      case rel => exact ⟨k + 1, by omega, by go_num, hT', hB.trans hB'⟩
      case measure => simp [intOf]; omega
    · have : k = 8 := by omega
      subst this
      go_wp2
      go_end0
      exact ⟨rfl, hT, hB⟩

set_option maxHeartbeats 400000 in
theorem mixBack (key x y : Nat) (hx : x < 18446744073709551616) (hy : y < 18446744073709551616) (w : World) :
    Calls Try.prog 17 #[.int .u64 key, .int .u64 x, .int .u64 y] w fun e w' => e = .returned (.tuple #[.int .u64 ((backN key x y 8).1 : Nat), .int .u64 ((backN key x y 8).2 : Nat)]) ∧ Below w.heap.size w w' := by
  have hmf : ∀ (fn : Fn) (first cap : Array Value) (w : World), (Instr.makeFunc fn first cap).run Try.prog w = .ok (.func fn first cap) w := fun _ _ _ _ => rfl
  go_enter Try.func17, Try.ntmps17
  go_wp2_with fail
  refine (keysB w.heap.size key x y hx hy _ (Two.new w x y)).mono ?_
  rintro e w1 ⟨rfl, hT, hB⟩
  obtain ⟨h0, h1⟩ := hT
  have c0 := cell_of_one h0
  have c1 := cell_of_one h1
  have HB := Lib.hid hB
  clear h0 h1 hB
  go_wp2_with fail
  go_quiet (fail)
  go_wp2
  go_ret2
  exact ⟨rfl, below_drewN ((((Below.refl _ w).alloc (Nat.le_refl _) _).alloc (by simp) _).trans HB.out) _⟩
end Go.Proofs.Ytheggklmkgffaaa
