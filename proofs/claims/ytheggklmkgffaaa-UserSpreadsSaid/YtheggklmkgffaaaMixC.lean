/- Contracts of Same on equal rows of ints and of All. Condition: at most 1000 numbers below 2^64. -/
import Derived.Test.YtheggklmkgffaaaMixB
import Derived.Test.YtheggklmkgffaaaWords
namespace Go.Proofs.Ytheggklmkgffaaa
open Go.RowKit Go.Proofs.MixLaw Go.Lk

theorem Try.info3 : (Try.prog.info? 3).map (fun i => (i.zero, i.size, i.bytes)) = some (some (.int .i64 0), 1, 8) := by kernel_rfl

def ints (xs : List Int) : List Value := xs.map (Value.int .i64)
def u64s (xs : List Nat) : List Value := xs.map fun (y : Nat) => Value.int .u64 (y : Int)

set_option maxHeartbeats 400000 in
theorem sameInts (A B : Option Addr) (c d G : Nat) (xs : List Int) (n : Nat) (hn : xs.length = n) (hn2 : n ≤ 1000000) (w : World) (ha : Sl w G A (ints xs)) (hb : Sl w G B (ints xs)) :
    Calls Try.prog 15 #[.slice A n c, .slice B n d] w fun e w' => e = .returned (.bool true) ∧ ∃ m, w' = w.drewN m := by
  have HN := Lib.hid hn
  have HA := Lib.hid ha
  have HB := Lib.hid hb
  clear ha hb hn
  go_enter Try.func15, Try.ntmps15
  go_wp2
  go_loopw [5] (fun i wr => ∃ k m : Nat, k ≤ n ∧ i = .int .i64 k ∧ wr = w.drewN m) (fun i _ => n - (intOf i).toNat)
  case atStart => exact ⟨0, 0, by omega, rfl, rfl⟩
  case round =>
    obtain ⟨k, m, hk, rfl, rfl⟩ := hrel
    by_cases hlt : k < n
    · obtain ⟨a, rfl, _, h1⟩ := HA.out.at_ (k := k) (by unfold ints; rw [List.length_map, HN.out]; exact hlt)
      obtain ⟨b, rfl, _, h2⟩ := HB.out.at_ (k := k) (by unfold ints; rw [List.length_map, HN.out]; exact hlt)
      obtain ⟨x, hx⟩ : ∃ x : Int, (ints xs)[k]'(by unfold ints; rw [List.length_map, HN.out]; exact hlt) = .int .i64 x := by unfold ints; rw [List.getElem_map]; exact ⟨_, rfl⟩
      rw [hx] at h1 h2
      clear hx
      go_wp2_with fail
      go_quiet (fail)
      go_wp2
      exact ⟨⟨k + 1, _, by omega, by go_num, rfl⟩, by simp [intOf]; omega⟩
    · have : k = n := by omega
      subst this
      go_wp2
      go_ret
      exact ⟨rfl, _, rfl⟩

set_option maxHeartbeats 400000 in
theorem mixAll (A : Option Addr) (c key x : Nat) (n : Int) (ys : List Nat) (len : Nat) (hl : ys.length = len) (hl2 : len ≤ 1000) (hx : x < 18446744073709551616) (hy : ∀ y ∈ ys, y < 18446744073709551616)
    (hn : n ≤ 9223372036854775807) (w : World) (ha : Sl w w.heap.size A (u64s ys)) :
    Calls Try.prog 16 #[.int .u64 key, .int .u64 x, .int .i64 n, .slice A len c] w fun e w' => ∃ v, e = .returned v ∧ w'.ownsRow w.heap.size 3 1 v len (ints (ys.map fun y => cls key x y n)) ∧ Below w.heap.size w w' := by
  obtain ⟨i0, hi0, hz0, hz1, hz2⟩ := info_parts Try.info3
  have HL := Lib.hid hl
  have HA := Lib.hid ha
  have HY := Lib.hid hy
  clear ha hl hy
  go_enter Try.func16, Try.ntmps16
  go_wp2
  go_loopw [9, 14] (fun v i wr => ∃ k : Nat, k ≤ len ∧ i = .int .i64 k ∧ wr.ownsRow w.heap.size 3 1 v k (ints ((ys.take k).map fun y => cls key x y n)) ∧ Below w.heap.size w wr) (fun _ i _ => len - (intOf i).toNat)
  case atStart => exact ⟨0, by omega, rfl, World.ownsRow_nil _ _ _ _, Below.refl _ _⟩
  case round =>
    obtain ⟨k, hk, rfl, hown, hB⟩ := hrel
    by_cases hlt : k < len
    · have hk' : k < ys.length := by rw [HL.out]; exact hlt
      obtain ⟨a, rfl, _, h1⟩ := (HA.out.below hB).at_ (k := k) (by unfold u64s; rw [List.length_map]; exact hk')
      obtain ⟨y, hy⟩ : ∃ y, ys[k] = y := ⟨_, rfl⟩
      have hyl : y < 18446744073709551616 := by rw [← hy]; exact HY.out _ (List.getElem_mem hk')
      have hv : (u64s ys)[k]'(by unfold u64s; rw [List.length_map]; exact hk') = .int .u64 (y : Int) := by unfold u64s; rw [List.getElem_map, hy]
      rw [hv] at h1
      have Hy := Lib.hid hy
      clear hv hy
      have HO := Lib.hid hown
      have HB := Lib.hid hB
      clear hown
      go_wp2_with fail
      refine (mixClass key x y n hx hyl hn _).mono ?_
      rintro e w1 ⟨rfl, hB1⟩
      have HB1 := Lib.hid (HB.out.trans (hB1.mono hB.size))
      have hS1 : w.heap.size ≤ w1.heap.size := HB1.out.size
      have HO1 := Lib.hid (HO.out.kept ⟨hB1.os, hB1.tape, hB1.output, hB1.size, fun j hj _ => hB1.block j hj⟩ (row := none) (by cases u9.ownBlock <;> simp))
      clear hB hB1
      go_wp2_with (at_builtin; refine append1 _ rfl _ _ 30 rfl w.heap.size 3 i0 (.int .i64 0) 8 Try.underlying30 hi0 hz0 hz1 hz2 rfl _ k _ rfl (HO1.out.alloc _) _ 1 (.int .i64 (cls key x y n)) rfl ?c1 rfl (by omega) (by omega) ?c2 ?_)
      case c1 => simp
      case c2 => simp; omega
      intro v' w2 hown2 hg2 hat2
      have hB2 := (HB1.out.alloc hS1 (.cells #[Value.int .i64 (cls key x y n)] 3)).grown hg2 (by simp; omega) (fun j hj => (HO1.out.lt j hj).1)
      have HB2 := Lib.hid hB2
      have e2 : ints (List.take k (List.map (fun y => cls key x y n) ys)) ++ [Value.int IntKind.i64 (cls key x y n)] = ints (List.map (fun y => cls key x y n) (List.take (k + 1) ys)) := by
        rw [List.take_succ_eq_append_getElem hk', Hy.out]; simp [ints]
      rw [e2] at hown2
      have HO2 := Lib.hid hown2
      clear hB2 hown2 e2 hg2 hat2
      go_wp2
      exact ⟨⟨k + 1, by omega, by go_num, HO2.out, HB2.out⟩, by simp [intOf]; omega⟩
    · have : k = len := by omega
      subst this
      go_wp2
      go_ret
      refine ⟨_, rfl, ?_, hB⟩
      have := hown
      rw [List.take_of_length_le (by rw [HL.out]; omega)] at this
      exact this
end Go.Proofs.Ytheggklmkgffaaa
