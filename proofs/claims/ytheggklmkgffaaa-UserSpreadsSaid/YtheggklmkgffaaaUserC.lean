/- The walk of UserClasses. Condition: the arguments fit their types. -/
import Derived.Test.YtheggklmkgffaaaUserB
namespace Go.Proofs.Ytheggklmkgffaaa
open Go.RowKit Go.Proofs.MixLaw Go.Proofs.UserLaw Go.Lk

theorem uSpreadNil (key : Nat) (ro now : Int) (v : Value) (w : World) :
    Calls Try.prog 23 #[users key 0 ro, .int .i64 now, v] w fun e w' => e = .returned (.slice none 0 0) ∧ Below w.heap.size w w' := by
  unfold users
  go_enter Try.func23, Try.ntmps23
  go_wp2
  go_ret
  exact ⟨rfl, (Below.refl _ w).alloc (Nat.le_refl _) _⟩

set_option maxRecDepth 100000 in
set_option maxHeartbeats 2000000 in
theorem classes9Bad (key id : Nat) (cl ro now : Int) (h : ¬ (1 ≤ cl ∧ cl ≤ 16 ∧ 1 ≤ ro ∧ ro ≤ 1099511627776)) (hid : id < 18446744073709551616) (w : World) :
    Calls Try.prog 6 #[users key cl ro, .int .u64 (id : Int), .int .i64 now] w fun e w' => e = .returned (.bool true) ∧ Below w.heap.size w w' := by
  have HN := Lib.hid (fun W => uNewBad key cl ro h W)
  have HR := Lib.hid (fun W => uWrong cl ro h W)
  have HT := Lib.hid (fun W => uTurn 0 0 0 now (by omega) W)
  have HX := Lib.hid (fun W => uNext 0 0 0 now (by omega) (by omega) W)
  have HC := Lib.hid (fun W => uClass 0 id 0 0 now hid (by omega) (by omega) (by omega) W)
  have HP := Lib.hid (fun v W => uSpreadNil 0 0 now v W)
  rw [turn_zero] at HT
  rw [next_zero] at HX
  rw [cls_zero _ _ _ 0 (by omega)] at HC
  unfold users at HN HT HX HC HP ⊢
  clear h
  go_enter Try.func6, Try.ntmps6
  go_wp2_with fail
  refine (HN.out _).mono ?_
  rintro e w1 ⟨rfl, hB1⟩
  have o1 := (hB1.cell (p := ⟨w.heap.size, 1, none⟩) (by simp)).trans (show _ = some (Value.int .i64 cl) by simp)
  have o2 := (hB1.cell (p := ⟨w.heap.size, 2, none⟩) (by simp)).trans (show _ = some (Value.int .i64 ro) by simp)
  have hs1 : w.heap.size < w1.heap.size := by have := hB1.size; simp at this; omega
  have HB := Lib.hid ((((Below.refl w.heap.size w).alloc (Nat.le_refl _) (.cells #[.int .u64 (key : Int), .int .i64 cl, .int .i64 ro] 36)).trans (hB1.mono (by simp))).alloc (by omega) (.cells #[.int .u64 0, .int .i64 0, .int .i64 0] 38))
  have o1' : ∀ X, (w1.alloc X).cell? ⟨w.heap.size, 1, none⟩ = some (Value.int .i64 cl) := fun X => cell_al o1 X
  have o2' : ∀ X, (w1.alloc X).cell? ⟨w.heap.size, 2, none⟩ = some (Value.int .i64 ro) := fun X => cell_al o2 X
  clear hB1
  go_wp2_with fail
  refine (HR.out _).mono ?_
  rintro e w2 ⟨rfl, rfl⟩
  go_wp2_with fail
  refine (HT.out _).mono ?_
  rintro e w3 ⟨rfl, hB3⟩
  have k0 := (hB3.cell (p := ⟨w1.heap.size, 0, none⟩) (by simp)).trans (show _ = some (Value.int .u64 0) by simp)
  have k1 := (hB3.cell (p := ⟨w1.heap.size, 1, none⟩) (by simp)).trans (show _ = some (Value.int .i64 0) by simp)
  have k2 := (hB3.cell (p := ⟨w1.heap.size, 2, none⟩) (by simp)).trans (show _ = some (Value.int .i64 0) by simp)
  have HB := Lib.hid (HB.out.trans (hB3.mono HB.out.size))
  have hs3 : w1.heap.size < w3.heap.size := by have := hB3.size; simp at this; omega
  clear hB3 o1' o2' o1 o2
  go_wp2_with fail
  refine (HX.out _).mono ?_
  rintro e w4 ⟨rfl, hB4⟩
  have l0 := (hB4.cell (p := ⟨w1.heap.size, 0, none⟩) hs3).trans k0
  have l1 := (hB4.cell (p := ⟨w1.heap.size, 1, none⟩) hs3).trans k1
  have l2 := (hB4.cell (p := ⟨w1.heap.size, 2, none⟩) hs3).trans k2
  have HB := Lib.hid (HB.out.trans (hB4.mono HB.out.size))
  have hs4 : w1.heap.size < w4.heap.size := by have := hB4.size; omega
  clear hB4 k0 k1 k2
  go_wp2_with fail
  refine (HC.out _).mono ?_
  rintro e w5 ⟨rfl, hB5⟩
  have k0 := (hB5.cell (p := ⟨w1.heap.size, 0, none⟩) hs4).trans l0
  have k1 := (hB5.cell (p := ⟨w1.heap.size, 1, none⟩) hs4).trans l1
  have k2 := (hB5.cell (p := ⟨w1.heap.size, 2, none⟩) hs4).trans l2
  have HB := Lib.hid (HB.out.trans (hB5.mono HB.out.size))
  have hs5 : w.heap.size ≤ w5.heap.size := HB.out.size
  clear hB5 l0 l1 l2
  go_wp2_with fail
  refine (HP.out _ _).mono ?_
  rintro e w6 ⟨rfl, hB6⟩
  have HB := Lib.hid ((HB.out.alloc hs5 (.cells #[.int .u64 (id : Int)] 22)).trans (hB6.mono (by simp; omega)))
  have hs6 : w.heap.size ≤ w6.heap.size := HB.out.size
  clear hB6
  go_wp2_with fail
  refine (awake09 _).mono ?_
  rintro e w7 ⟨rfl, hB7⟩
  have HB := Lib.hid (HB.out.trans (hB7.mono hs6))
  clear hB7
  go_wp2
  go_ret
  exact ⟨rfl, HB.out⟩

set_option maxRecDepth 100000 in
set_option maxHeartbeats 2000000 in
theorem classes9Good (key id : Nat) (cl ro now : Int) (c1 : 1 ≤ cl) (c2 : cl ≤ 16) (r1 : 1 ≤ ro) (r2 : ro ≤ 1099511627776) (hid : id < 18446744073709551616) (w : World) :
    Calls Try.prog 6 #[users key cl ro, .int .u64 (id : Int), .int .i64 now] w fun e w' => e = .returned (.bool true) ∧ Below w.heap.size w w' := by
  have HN := Lib.hid (fun W => uNew key cl ro c1 c2 r1 r2 W)
  have HR := Lib.hid (fun W => uRight cl ro c1 c2 r1 r2 W)
  have HT := Lib.hid (fun W => uTurn key cl ro now (by omega) W)
  have HX := Lib.hid (fun W => uNext key cl ro now (by omega) r2 W)
  have HC := Lib.hid (fun W => uClass key id cl ro now hid (by omega) c2 (by omega) W)
  have HRT := Lib.hid (fun W => refTurn ro now r1 W)
  have HRC := Lib.hid (fun W => refUClass key id cl ro now hid (by omega) c2 r1 W)
  have HRK := Lib.hid (fun W => refTick ((turn ro now + 1) * ro) W)
  have hb := turn_bd ro now (by omega)
  have hp := prod_bd ro now (by omega) r2
  have hw1 : IntKind.i64.wrap (turn ro now + 1) = turn ro now + 1 := by rw [IntKind.wrap_i64]; omega
  have hw2 : IntKind.i64.wrap ((turn ro now + 1) * ro) = (turn ro now + 1) * ro := by rw [IntKind.wrap_i64]; generalize (turn ro now + 1) * ro = q at hp; omega
  rw [next_eq] at HRK
  have HW1 := Lib.hid hw1
  have HW2 := Lib.hid hw2
  unfold users at HN HT HX HC ⊢
  clear hb hp hw1 hw2
  go_enter Try.func6, Try.ntmps6
  go_wp2_with fail
  refine (HN.out _).mono ?_
  rintro e w1 ⟨rfl, hB1⟩
  have o0 := (hB1.cell (p := ⟨w.heap.size, 0, none⟩) (by simp)).trans (show _ = some (Value.int .u64 (key : Int)) by simp)
  have o1 := (hB1.cell (p := ⟨w.heap.size, 1, none⟩) (by simp)).trans (show _ = some (Value.int .i64 cl) by simp)
  have o2 := (hB1.cell (p := ⟨w.heap.size, 2, none⟩) (by simp)).trans (show _ = some (Value.int .i64 ro) by simp)
  have hs1 : w.heap.size < w1.heap.size := by have := hB1.size; simp at this; omega
  have HB := Lib.hid ((((Below.refl w.heap.size w).alloc (Nat.le_refl _) (.cells #[.int .u64 (key : Int), .int .i64 cl, .int .i64 ro] 36)).trans (hB1.mono (by simp))).alloc (by omega) (.cells #[.int .u64 (key : Int), .int .i64 cl, .int .i64 ro] 38))
  have o1' : ∀ X, (w1.alloc X).cell? ⟨w.heap.size, 1, none⟩ = some (Value.int .i64 cl) := fun X => cell_al o1 X
  have o2' : ∀ X, (w1.alloc X).cell? ⟨w.heap.size, 2, none⟩ = some (Value.int .i64 ro) := fun X => cell_al o2 X
  clear hB1
  go_wp2_with fail
  refine (HR.out _).mono ?_
  rintro e w2 ⟨rfl, rfl⟩
  go_wp2_with fail
  refine (HRT.out _).mono ?_
  rintro e w2 ⟨rfl, rfl⟩
  go_wp2_with fail
  generalize hws : w1.alloc (.cells #[.int .u64 (key : Int), .int .i64 cl, .int .i64 ro] 38) = ws at HB
  have s0 : ws.cell? ⟨w.heap.size, 0, none⟩ = some (Value.int .u64 (key : Int)) := by rw [← hws]; exact cell_al o0 _
  have s1 : ws.cell? ⟨w.heap.size, 1, none⟩ = some (Value.int .i64 cl) := by rw [← hws]; exact cell_al o1 _
  have s2 : ws.cell? ⟨w.heap.size, 2, none⟩ = some (Value.int .i64 ro) := by rw [← hws]; exact cell_al o2 _
  have t0 : ws.cell? ⟨w1.heap.size, 0, none⟩ = some (Value.int .u64 (key : Int)) := by rw [← hws]; simp
  have t1 : ws.cell? ⟨w1.heap.size, 1, none⟩ = some (Value.int .i64 cl) := by rw [← hws]; simp
  have t2 : ws.cell? ⟨w1.heap.size, 2, none⟩ = some (Value.int .i64 ro) := by rw [← hws]; simp
  have q1 : w1.heap.size < ws.heap.size := by rw [← hws]; simp
  have q0 : w.heap.size < ws.heap.size := by omega
  clear hws o0 o1 o2 o1' o2'
  have HB := Lib.hid HB.out.drew
  have HD := Lib.hid (Below.refl ws.heap.size ws).drew
  have hw1 := HW1.out
  have hw2 := HW2.out
  go_region_held3 (fun w' => w'.cell? ⟨w.heap.size, 0, none⟩ = some (Value.int .u64 (key : Int)) ∧ w'.cell? ⟨w.heap.size, 1, none⟩ = some (Value.int .i64 cl) ∧ w'.cell? ⟨w.heap.size, 2, none⟩ = some (Value.int .i64 ro) ∧ w'.cell? ⟨w1.heap.size, 0, none⟩ = some (Value.int .u64 (key : Int)) ∧ w'.cell? ⟨w1.heap.size, 1, none⟩ = some (Value.int .i64 cl) ∧ w'.cell? ⟨w1.heap.size, 2, none⟩ = some (Value.int .i64 ro)) (first | (exact ⟨(HD.out.cell (p := ⟨w.heap.size, 0, none⟩) q0).trans s0, (HD.out.cell (p := ⟨w.heap.size, 1, none⟩) q0).trans s1, (HD.out.cell (p := ⟨w.heap.size, 2, none⟩) q0).trans s2, (HD.out.cell (p := ⟨w1.heap.size, 0, none⟩) q1).trans t0, (HD.out.cell (p := ⟨w1.heap.size, 1, none⟩) q1).trans t1, (HD.out.cell (p := ⟨w1.heap.size, 2, none⟩) q1).trans t2⟩) | go_keep)
    (first
      | (go_at_call 20; refine (HT.out _).mono ?_; rintro e w3 ⟨rfl, hB3⟩; have HB := Lib.hid (HB.out.trans (hB3.mono HB.out.size)); have HD := Lib.hid (HD.out.trans (hB3.mono HD.out.size)); clear hB3)
      | (go_at_call 21; refine (HX.out _).mono ?_; rintro e w3 ⟨rfl, hB3⟩; have HB := Lib.hid (HB.out.trans (hB3.mono HB.out.size)); have HD := Lib.hid (HD.out.trans (hB3.mono HD.out.size)); clear hB3)
      | (go_at_call 22; refine (HC.out _).mono ?_; rintro e w3 ⟨rfl, hB3⟩; have HB := Lib.hid (HB.out.trans (hB3.mono HB.out.size)); have HD := Lib.hid (HD.out.trans (hB3.mono HD.out.size)); clear hB3)
      | (go_at_call 26; refine (HRK.out _).mono ?_; rintro e w3 ⟨rfl, rfl⟩)
      | (go_at_call 27; refine (HRC.out _).mono ?_; rintro e w3 ⟨rfl, rfl⟩)
      | (go_at_call 24; refine (awake09 _).mono ?_; rintro e w3 ⟨rfl, hB3⟩; have HB := Lib.hid (HB.out.trans (hB3.mono HB.out.size)); have HD := Lib.hid (HD.out.trans (hB3.mono HD.out.size)); clear hB3))
  go_wp2
  go_ret
  exact ⟨rfl, HB.out⟩
end Go.Proofs.Ytheggklmkgffaaa
