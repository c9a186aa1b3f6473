/- The walk of MixClasses. Condition: the arguments fit their types. -/
import Derived.Test.YtheggklmkgffaaaMixD
namespace Go.Proofs.Ytheggklmkgffaaa
open Go.ChangeShapes Go.WideShapes Go.ChangeAt Go.RowKit Go.Proofs.MixLaw Go.Lk

set_option maxHeartbeats 400000 in
theorem mixClass0 (key x y : Nat) (n : Int) (h : n < 1) (w : World) :
    Calls Try.prog 14 #[.int .u64 key, .int .u64 x, .int .u64 y, .int .i64 n] w fun e w' => e = .returned (.int .i64 (cls key x y n)) ∧ w = w' := by
  have hc := Lib.hid (cls_zero key x y n h)
  go_enter Try.func14, Try.ntmps14
  go_wp2
  go_ret
  exact ⟨by rw [hc.out]; rfl, rfl⟩

set_option maxHeartbeats 400000 in
theorem classesWalk (k0 k1 : Nat) (n : Int) (A : Option Addr) (c : Nat) (ys : List Nat) (len : Nat) (hl : ys.length = len) (_h0 : k0 < 18446744073709551616) (h1 : k1 < 18446744073709551616) (hy : ∀ y ∈ ys, y < 18446744073709551616)
    (hn : n ≤ 9223372036854775807) (hn0 : -9223372036854775808 ≤ n) (hl3 : len ≤ 9223372036854775807) (w : World) (ha : Sl w w.heap.size A (u64s ys)) :
    Calls Try.prog 4 #[.agg #[.int .u64 k0, .int .u64 k1], .int .i64 n, .slice A len c] w fun e w' => e = .returned (.bool true) ∧ Below w.heap.size w w' := by
  obtain ⟨i0, hi0, hz0, hz1, hz2⟩ := info_parts Try.info3
  have HL := Lib.hid hl
  have HA := Lib.hid ha
  have HY := Lib.hid hy
  clear ha hl hy
  by_cases hl2 : len ≤ 40
  · go_enter Try.func4, Try.ntmps4
    go_wp2
    have hs1 : ∀ X, w.heap.size < (w.alloc X).heap.size := by intro X; simp
    go_loopw [7, 8] (fun v i wr => ∃ k : Nat, k ≤ len ∧ i = .int .i64 k ∧ wr.ownsRow (w.heap.size + 1) 3 1 v k (ints ((ys.take k).map fun y => cls k0 k1 y n)) ∧ Below (w.heap.size + 1) (w.alloc (.cells #[.int .u64 k0, .int .u64 k1] 28)) wr) (fun _ i _ => len - (intOf i).toNat)
    case atStart => exact ⟨0, by omega, rfl, World.ownsRow_nil _ _ _ _, Below.refl _ _⟩
    case round =>
      obtain ⟨k, hk, rfl, hown, hB⟩ := hrel
      by_cases hlt : k < len
      · have hk' : k < ys.length := by rw [HL.out]; exact hlt
        have hB0 := ((Below.refl w.heap.size w).alloc (Nat.le_refl _) (.cells #[.int .u64 (k0 : Int), .int .u64 (k1 : Int)] 28)).trans (hB.mono (by omega))
        obtain ⟨a, rfl, ha, hc⟩ := (HA.out.below hB0).at_ (k := k) (by unfold u64s; rw [List.length_map]; exact hk')
        obtain ⟨y, hy⟩ : ∃ y, ys[k] = y := ⟨_, rfl⟩
        have hyl : y < 18446744073709551616 := by rw [← hy]; exact HY.out _ (List.getElem_mem hk')
        have hv : (u64s ys)[k]'(by unfold u64s; rw [List.length_map]; exact hk') = .int .u64 (y : Int) := by unfold u64s; rw [List.getElem_map, hy]
        rw [hv] at hc
        have Hy := Lib.hid hy
        clear hv hy
        have hk0 : wr.cell? ⟨w.heap.size, 0, none⟩ = some (.int .u64 (k0 : Int)) := by rw [hB.cell (p := ⟨w.heap.size, 0, none⟩) (by simp)]; simp
        have hk1 : wr.cell? ⟨w.heap.size, 1, none⟩ = some (.int .u64 (k1 : Int)) := by rw [hB.cell (p := ⟨w.heap.size, 1, none⟩) (by simp)]; simp
        have HO := Lib.hid hown
        have HB := Lib.hid hB
        have HB0 := Lib.hid hB0
        clear hown hB hB0
        go_wp2_with fail
        go_quiet ((go_at_call 13; exact quiet_l (refClass k0 k1 y n h1 hyl hn _)))
        go_wp2_with (at_builtin; refine append1 _ rfl _ _ 30 rfl (w.heap.size + 1) 3 i0 (.int .i64 0) 8 Try.underlying30 hi0 hz0 hz1 hz2 rfl _ k _ rfl ((own_drewN HO.out nq).alloc _) _ 1 (.int .i64 (cls k0 k1 y n)) rfl ?c1 rfl (by omega) (by omega) ?c2 ?_)
        case c1 => exact cell_dn _ _ _ _
        case c2 => have := HB.out.size; simp at this ⊢; omega
        intro v' w2 hown2 hg2 hat2
        have hS := HB.out.size
        have hB2 := ((below_drewN HB.out nq).alloc (by simp at hS ⊢; omega) (.cells #[Value.int .i64 (cls k0 k1 y n)] 3)).grown hg2 (by simp at hS ⊢; omega) (fun j hj => (HO.out.lt j hj).1)
        have HB2 := Lib.hid hB2
        have HB20 := Lib.hid (((Below.refl w.heap.size w).alloc (Nat.le_refl _) (.cells #[.int .u64 (k0 : Int), .int .u64 (k1 : Int)] 28)).trans (hB2.mono (by omega)))
        have e2 : ints (List.take k (List.map (fun y => cls k0 k1 y n) ys)) ++ [Value.int IntKind.i64 (cls k0 k1 y n)] = ints (List.map (fun y => cls k0 k1 y n) (List.take (k + 1) ys)) := by
          rw [List.take_succ_eq_append_getElem hk', Hy.out]; simp [ints]
        rw [e2] at hown2
        have HO2 := Lib.hid hown2
        have hc2 : w2.cell? (a.add k) = some (Value.int IntKind.u64 ↑y) := by rw [HB20.out.cell (by rw [add_block]; exact ha), ← HB0.out.cell (by rw [add_block]; exact ha)]; exact hc
        have hk02 : w2.cell? ⟨w.heap.size, 0, none⟩ = some (.int .u64 (k0 : Int)) := by rw [HB2.out.cell (p := ⟨w.heap.size, 0, none⟩) (by simp)]; simp
        have hk12 : w2.cell? ⟨w.heap.size, 1, none⟩ = some (.int .u64 (k1 : Int)) := by rw [HB2.out.cell (p := ⟨w.heap.size, 1, none⟩) (by simp)]; simp
        have ha2 : (a.add k).block < w2.heap.size := by have := HB20.out.size; rw [add_block]; omega
        have hs2 : w.heap.size < w2.heap.size := by have := HB2.out.size; simp at this; omega
        clear hc hk0 hk1 hS hB2 hown2 e2 hg2 hat2
        have hc0 := cls_nonneg k0 k1 y n
        have hd1 : decide (cls k0 k1 y n < 0) = false := by simp; omega
        by_cases hn1 : n < 1
        · have hd2 : decide (0 < n) = false := by simp; omega
          go_wp2_with fail
          go_quiet ((go_at_call 14; exact quiet_l (mixClass0 k0 k1 y n hn1 _)))
          go_wp2
          exact ⟨⟨k + 1, by omega, by go_num, own_drewN HO2.out _, below_drewN HB2.out _⟩, by simp [intOf]; omega⟩
        · have hd2 : decide (0 < n) = true := by simp; omega
          have hl1 := cls_lt k0 k1 y n (by omega)
          have hd3 : decide (n ≤ cls k0 k1 y n) = false := by simp; omega
          go_wp2_with fail
          go_region_held3 (fun w' => w'.cell? (a.add k) = some (Value.int IntKind.u64 ↑y) ∧ w'.cell? ⟨w.heap.size, 0, none⟩ = some (.int .u64 (k0 : Int)) ∧ w'.cell? ⟨w.heap.size, 1, none⟩ = some (.int .u64 (k1 : Int))) (first | (exact ⟨(hB'.cell ha2).trans hc2, (hB'.cell hs2).trans hk02, (hB'.cell hs2).trans hk12⟩) | go_keep)
            (first | (go_at_call 14; refine (mixClass k0 k1 y n h1 hyl hn _).mono ?_; rintro e w' ⟨rfl, hB'⟩))
          go_wp2_with fail
          exact ⟨⟨k + 1, by omega, by go_num, (World.ownsRow.drew HO2.out).kept ⟨hB'.os, hB'.tape, hB'.output, hB'.size, fun j hj _ => hB'.block j hj⟩ (row := none) (by cases v'.ownBlock <;> simp), HB2.out.drew.trans (hB'.mono hs2)⟩, by simp [intOf]; omega⟩
      · have : k = len := by omega
        subst this
        have hk0 : wr.cell? ⟨w.heap.size, 0, none⟩ = some (.int .u64 (k0 : Int)) := by rw [hB.cell (p := ⟨w.heap.size, 0, none⟩) (by simp)]; simp
        have hk1 : wr.cell? ⟨w.heap.size, 1, none⟩ = some (.int .u64 (k1 : Int)) := by rw [hB.cell (p := ⟨w.heap.size, 1, none⟩) (by simp)]; simp
        have hB0 := ((Below.refl w.heap.size w).alloc (Nat.le_refl _) (.cells #[.int .u64 (k0 : Int), .int .u64 (k1 : Int)] 28)).trans (hB.mono (by omega))
        have HB0 := Lib.hid hB0
        rw [List.take_of_length_le (by rw [HL.out]; omega)] at hown
        obtain ⟨A1, c1, rfl, hS1, hS2⟩ := own_form hown
        clear hown hB hB0
        have hsz : w.heap.size ≤ wr.heap.size := HB0.out.size
        go_wp2_with fail
        refine (mixAll A c k0 k1 n ys k HL.out (by omega) h1 HY.out hn _ ((HA.out.below HB0.out).mono hsz)).mono ?_
        rintro e w2 ⟨v2, rfl, hown2, hB2⟩
        obtain ⟨A2, c2, rfl, hS3, hS4⟩ := own_form hown2
        have HB2 := Lib.hid (HB0.out.trans (hB2.mono hsz))
        have hsz2 : w.heap.size ≤ w2.heap.size := HB2.out.size
        go_wp2_with fail
        refine (sameInts A2 A1 c2 c1 w2.heap.size _ k (by unfold ints at hS4; simpa using hS4) (by omega) _ hS3 ((hS1.below hB2).mono hB2.size)).mono ?_
        rintro e w3 ⟨rfl, m3, rfl⟩
        clear hown2 hB2 hS3 hS1 hS2 hS4
        go_wp2_with fail
        refine (awake04 _).mono ?_
        rintro e w4 ⟨rfl, hB4⟩
        have HB4 := Lib.hid ((below_drewN HB2.out m3).trans (hB4.mono (by simpa using hsz2)))
        clear hB4
        go_wp2
        go_ret
        exact ⟨rfl, HB4.out⟩
  · have hgt : 40 < len := by omega
    go_enter Try.func4, Try.ntmps4
    go_wp2_with fail
    refine (awake04 _).mono ?_
    rintro e w1 ⟨rfl, hB⟩
    go_wp2
    go_ret
    exact ⟨rfl, ((Below.refl _ w).alloc (Nat.le_refl _) _).trans (hB.mono (by simp))⟩
end Go.Proofs.Ytheggklmkgffaaa
