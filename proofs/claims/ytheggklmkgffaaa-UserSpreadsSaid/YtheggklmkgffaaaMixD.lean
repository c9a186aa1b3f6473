/- Contract of awake, and the walks of MixPairs and MixBack. Condition: the numbers are below 2^64. -/
import Derived.Test.YtheggklmkgffaaaMixC
namespace Go.Proofs.Ytheggklmkgffaaa
open Go.ChangeShapes Go.WideShapes Go.ChangeAt Go.RowKit Go.Proofs.MixLaw Go.Lk

theorem own : ownKnob Try.prog.godebug = none := by kernel_rfl
theorem laid : laidOutB Try.prog = true := by kernel_rfl

set_option maxHeartbeats 400000 in
theorem awake04 (w : World) : Calls Try.prog 12 #[] w fun e w' => e = .returned (.bool true) ∧ Below w.heap.size w w' := by
  have hne : ((((pairN 7 0 0 8).1 : Nat) : Int) != 0) = true := by decide +kernel
  go_enter Try.func12, Try.ntmps12
  go_wp2_with fail
  refine (mixPair 7 0 0 (by omega) (by omega) _).mono ?_
  rintro e w1 ⟨rfl, hB1⟩
  go_wp2_with fail
  refine (refPair 7 0 0 (by omega) (by omega) _).mono ?_
  rintro e w2 ⟨rfl, rfl⟩
  have hS : w.heap.size ≤ w1.heap.size := hB1.size
  go_wp2_with fail
  refine (mixAll _ 2 7 1 5 [2, 3] 2 rfl (by omega) (by omega) (by intro y hy; simp at hy; omega) (by omega) _ ?_).mono ?_
  · intro k u hk
    match k, hk with
    | 0, hk => simp [u64s] at hk; subst hk; exact ⟨_, rfl, by simp, by simp [Addr.add, World.cell?_alloc_new]⟩
    | 1, hk => simp [u64s] at hk; subst hk; exact ⟨_, rfl, by simp, by simp [Addr.add, World.cell?_alloc_new]⟩
  rintro e w3 ⟨v, rfl, hown, hB3⟩
  obtain ⟨A, c, rfl, _, _⟩ := own_form hown
  have HB := Lib.hid ((hB1.alloc hS _).trans (hB3.mono (by simp; omega)))
  clear hB1 hB3 hown
  go_wp2
  go_ret
  exact ⟨rfl, HB.out⟩

set_option maxHeartbeats 400000 in
theorem pairsWalk (key x y : Nat) (hx : x < 18446744073709551616) (hy : y < 18446744073709551616) (w : World) :
    Calls Try.prog 3 #[.int .u64 key, .int .u64 x, .int .u64 y] w fun e w' => e = .returned (.bool true) ∧ Below w.heap.size w w' := by
  go_enter Try.func3, Try.ntmps3
  go_wp2_with fail
  refine (mixPair key x y hx hy _).mono ?_
  rintro e w1 ⟨rfl, hB1⟩
  go_wp2_with fail
  refine (refPair key x y hx hy _).mono ?_
  rintro e w2 ⟨rfl, rfl⟩
  go_wp2_with fail
  refine (mixOf key x y hx hy _).mono ?_
  rintro e w2 ⟨rfl, hB2⟩
  go_wp2_with fail
  refine (awake04 _).mono ?_
  rintro e w3 ⟨rfl, hB3⟩
  have HB := Lib.hid ((hB1.trans (hB2.mono hB1.size)).trans (hB3.mono (Nat.le_trans hB1.size hB2.size)))
  clear hB1 hB2 hB3
  go_wp2
  go_ret
  exact ⟨rfl, HB.out⟩

set_option maxHeartbeats 400000 in
theorem backWalk (key x y : Nat) (hx : x < 18446744073709551616) (hy : y < 18446744073709551616) (w : World) :
    Calls Try.prog 5 #[.int .u64 key, .int .u64 x, .int .u64 y] w fun e w' => e = .returned (.bool true) ∧ Below w.heap.size w w' := by
  have hl1 := backN_lt key x y 8 hx hy
  have hl2 := pairN_lt key x y 8 hx hy
  have e1 := Lib.hid (pair_backN key x y hx hy 8 (by omega))
  have e2 := Lib.hid (back_pairN key x y hx hy 8 (by omega))
  go_enter Try.func5, Try.ntmps5
  go_wp2_with fail
  refine (mixBack key x y hx hy _).mono ?_
  rintro e w1 ⟨rfl, hB1⟩
  go_wp2_with fail
  refine (refPair key _ _ hl1.1 hl1.2 _).mono ?_
  rintro e w2 ⟨rfl, rfl⟩
  rw [e1.out]
  go_wp2_with fail
  refine (refPair key x y hx hy _).mono ?_
  rintro e w2 ⟨rfl, rfl⟩
  go_wp2_with fail
  refine (mixBack key _ _ hl2.1 hl2.2 _).mono ?_
  rintro e w2 ⟨rfl, hB2⟩
  rw [e2.out]
  go_wp2_with fail
  refine (awake04 _).mono ?_
  rintro e w3 ⟨rfl, hB3⟩
  have HB := Lib.hid ((hB1.trans (hB2.mono hB1.size)).trans (hB3.mono (Nat.le_trans hB1.size hB2.size)))
  clear hB1 hB2 hB3
  go_wp2
  go_ret
  exact ⟨rfl, HB.out⟩

theorem open_u64 {v : Value} {H : Type} {enc : TypeId × Value → H} {W : World} {base : Nat} {d : DataW H} {p : List MemPlace} {sp : Nat → Bool} {r : Reach} (hv : Value.okWide Try.prog W r base 22 v) (h : DataW.Trod enc Try.prog W 0 sp true 22 v d p) :
    ∃ n : Nat, v = .int .u64 n ∧ n < 18446744073709551616 := by
  obtain ⟨a, rfl, rfl, rfl, wf⟩ := open_int Try.underlying22 hv h
  have hb : 0 ≤ a ∧ a < 18446744073709551616 := by
    simp [Lit.wf, IntKind.min, IntKind.max, IntKind.signed, IntKind.bits] at wf
    omega
  obtain ⟨n, rfl⟩ := Int.eq_ofNat_of_zero_le hb.1
  exact ⟨n, rfl, by omega⟩

end Go.Proofs.Ytheggklmkgffaaa
