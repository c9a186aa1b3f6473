/- The walk of UserSpreads. Condition: the arguments fit their types. -/
import Derived.Test.YtheggklmkgffaaaUserC
namespace Go.Proofs.Ytheggklmkgffaaa
open Go.RowKit Go.Proofs.MixLaw Go.Proofs.UserLaw Go.Lk

/-- The block of what is wanted. -/
def WCnt (w : World) (b n : Nat) (L : List Int) : Prop := L.length = n ∧ w.heap[b]? = some (.cells (ints L).toArray 3 (0, 0))
theorem WCnt.set_ {w : World} {b n : Nat} {L : List Int} (h : WCnt w b n L) (c : Nat) : WCnt (w.setCell ⟨b, c, none⟩ (.int .i64 (L[c]?.getD 0 + 1))) b n (bump L c) := by
  refine ⟨(bump_length L c).trans h.1, ?_⟩
  rw [heap_set1 h.2 c _]
  simp [ints, bump, List.map_set]
theorem WCnt.sl {w : World} {b n : Nat} {L : List Int} (h : WCnt w b n L) : Sl w w.heap.size (some ⟨b, 0, none⟩) (ints L) := by
  intro j u hj
  refine ⟨_, rfl, heap_lt h.2, ?_⟩
  have h3 : (⟨b, 0, none⟩ : Addr).add j = ⟨b, j, none⟩ := by unfold Addr.add; split <;> simp_all
  rw [h3, cell_of_row w _ j _ _ _ h.2]
  simpa using hj

set_option maxHeartbeats 1000000 in
theorem spreads9Many (key : Nat) (cl ro now : Int) (A : Option Addr) (c n : Nat) (hn : 60 < n) (hn2 : n ≤ 9223372036854775807) (w : World) :
    Calls Try.prog 8 #[users key cl ro, .int .i64 now, .slice A n c] w fun e w' => e = .returned (.bool true) ∧ Below w.heap.size w w' := by
  unfold users
  go_enter Try.func8, Try.ntmps8
  go_wp2_with fail
  refine (awake09 _).mono ?_
  rintro e w7 ⟨rfl, hB7⟩
  have HB := Lib.hid (((Below.refl w.heap.size w).alloc (Nat.le_refl _) (.cells #[.int .u64 (key : Int), .int .i64 cl, .int .i64 ro] 36)).trans (hB7.mono (by simp)))
  clear hB7
  go_wp2
  go_ret
  exact ⟨rfl, HB.out⟩

set_option maxHeartbeats 1000000 in
theorem spreads9Bad (key : Nat) (cl ro now : Int) (h : ¬ (1 ≤ cl ∧ cl ≤ 16 ∧ 1 ≤ ro ∧ ro ≤ 1099511627776)) (A : Option Addr) (c n : Nat) (hn : n ≤ 60) (w : World) :
    Calls Try.prog 8 #[users key cl ro, .int .i64 now, .slice A n c] w fun e w' => e = .returned (.bool true) ∧ Below w.heap.size w w' := by
  unfold users
  have HW := Lib.hid (fun W => uWrong cl ro h W)
  clear h
  go_enter Try.func8, Try.ntmps8
  go_wp2_with fail
  refine (HW.out _).mono ?_
  rintro e w1 ⟨rfl, rfl⟩
  go_wp2_with fail
  refine (awake09 _).mono ?_
  rintro e w7 ⟨rfl, hB7⟩
  have HB := Lib.hid (((Below.refl w.heap.size w).alloc (Nat.le_refl _) (.cells #[.int .u64 (key : Int), .int .i64 cl, .int .i64 ro] 36)).trans (hB7.mono (by simp)))
  clear hB7
  go_wp2
  go_ret
  exact ⟨rfl, HB.out⟩

set_option maxRecDepth 100000 in
set_option maxHeartbeats 2000000 in
theorem spreads9Good (key : Nat) (cl ro now : Int) (h1 : 1 ≤ cl) (h2 : cl ≤ 16) (h3 : 1 ≤ ro) (h4 : ro ≤ 1099511627776) (A : Option Addr) (c : Nat) (ids : List Nat) (n : Nat) (hn : ids.length = n) (hn2 : n ≤ 60) (hid : ∀ y ∈ ids, y < 18446744073709551616)
    (w : World) (ha : Sl w w.heap.size A (u64s ids)) :
    Calls Try.prog 8 #[users key cl ro, .int .i64 now, .slice A n c] w fun e w' => e = .returned (.bool true) ∧ Below w.heap.size w w' := by
  obtain ⟨i0, hi0, hz0, hz1, hz2⟩ := info_parts Try.info3
  obtain ⟨cn, rfl⟩ : ∃ cn : Nat, cl = (cn : Int) := ⟨cl.toNat, by omega⟩
  have HNw := Lib.hid (fun W => uNew key (cn : Int) ro h1 h2 h3 h4 W)
  have HS := fun W ha => uSpread key (cn : Int) ro now h1 h2 h3 A c ids n hn (by omega) hid W ha
  have HC := fun id hid W => refUClass key id (cn : Int) ro now hid (by omega) h2 h3 W
  have HR := Lib.hid (fun W => uRight (cn : Int) ro h1 h2 h3 h4 W)
  have hmk := Lib.hid (fun W => make_n (P := Try.prog) 30 3 i0 (.int .i64 0) Try.underlying30 hi0 hz0 rfl hz1 (by omega) cn (by omega) W)
  unfold users at *
  rw [Int.toNat_natCast] at HS
  obtain ⟨tn, htn⟩ : ∃ tn : Nat, (turn ro now).toNat = tn := ⟨_, rfl⟩
  rw [htn] at HS HC
  rw [bumps_take _ _ cn (by
    intro x hx
    unfold clss at hx
    obtain ⟨id, _, rfl⟩ := List.mem_map.1 hx
    have := cls_lt key tn id (cn : Int) h1
    have := cls_nonneg key tn id (cn : Int)
    omega), show (List.replicate 16 (0 : Int)).take cn = List.replicate cn 0 by rw [List.take_replicate, Nat.min_eq_left (by omega)]] at HS
  have HS := Lib.hid HS
  have HC := Lib.hid HC
  have HN := Lib.hid hn
  have HA := Lib.hid ha
  have HI := Lib.hid hid
  clear hn ha hid htn hi0 hz0 hz1 hz2
  have hd : decide (60 < (n : Int)) = false := by simp; omega
  have hnn : ((cn : Int) == 0) = false := by rw [beq_eq_false_iff_ne]; omega
  go_enter Try.func8, Try.ntmps8
  go_wp2_with fail
  refine (HR.out _).mono ?_
  rintro e w0 ⟨rfl, hw0⟩
  subst hw0
  go_wp2_with fail
  refine (HNw.out _).mono ?_
  rintro e w1 ⟨rfl, hB1⟩
  have hs1 : w.heap.size < w1.heap.size := by have := hB1.size; simp at this; omega
  have HB1 := Lib.hid (((Below.refl w.heap.size w).alloc (Nat.le_refl _) (.cells #[.int .u64 (key : Int), .int .i64 (cn : Int), .int .i64 ro] 36)).trans (hB1.mono (by simp)))
  have hO1 : w1.heap[w.heap.size]? = some (.cells #[.int .u64 (key : Int), .int .i64 (cn : Int), .int .i64 ro] 36 (0, 0)) := (hB1.block _ (by simp)).trans (heap_alloc_new w _)
  have HO1 := Lib.hid hO1
  clear hB1 hO1
  go_wp2_with fail
  refine (HS.out _ ?_).mono ?_
  · exact ((HA.out.below HB1.out).keep fun p hp => World.cell?_alloc_lt _ _ p (by omega)).mono (by simp; omega)
  rintro e w2 ⟨v, rfl, hown, hB2⟩
  obtain ⟨A1, c1, rfl, hS1, hS2⟩ := own_form hown
  have hs2 : w.heap.size < w2.heap.size := by have := hB2.size; simp at this; omega
  have HB2 := Lib.hid ((HB1.out.alloc (by omega) (.cells #[.int .u64 (key : Int), .int .i64 (cn : Int), .int .i64 ro] 38)).trans (hB2.mono (by simp; omega)))
  have hO2 : w2.heap[w.heap.size]? = some (.cells #[.int .u64 (key : Int), .int .i64 (cn : Int), .int .i64 ro] 36 (0, 0)) := (hB2.block _ (by simp; omega)).trans ((Below.heap_alloc _ _ _ (by omega)).trans HO1.out)
  have HO2 := Lib.hid hO2
  have HS1 := Lib.hid hS1
  have o1 : w2.cell? ⟨w.heap.size, 1, none⟩ = some (.int .i64 (cn : Int)) := by rw [cell_of_row w2 _ 1 _ _ _ hO2]; rfl
  clear hown hB2 hO2 hS1
  have hmk2 := hmk.out w2
  go_wp2_with fail
  go_loopw [11] (fun i wr => ∃ k : Nat, k ≤ n ∧ i = .int .i64 k ∧ WCnt wr w2.heap.size cn (bumps (List.replicate cn 0) (clss key tn (cn : Int) (ids.take k))) ∧ Below w2.heap.size w2 wr) (fun i _ => n - (intOf i).toNat)
  case atStart =>
    refine ⟨0, by omega, rfl, ⟨by simp [bumps, clss], ?_⟩, (Below.refl _ _).alloc (Nat.le_refl _) _⟩
    rw [heap_alloc_new]
    simp [ints, bumps, clss]
  case round =>
    obtain ⟨k, hk, rfl, hC, hB⟩ := hrel
    have hO := (hB.block _ hs2).trans HO2.out
    have u0 : wr.cell? ⟨w.heap.size, 0, none⟩ = some (.int .u64 (key : Int)) := by rw [cell_of_row wr _ 0 _ _ _ hO]; rfl
    have u1 : wr.cell? ⟨w.heap.size, 1, none⟩ = some (.int .i64 (cn : Int)) := by rw [cell_of_row wr _ 1 _ _ _ hO]; rfl
    have u2 : wr.cell? ⟨w.heap.size, 2, none⟩ = some (.int .i64 ro) := by rw [cell_of_row wr _ 2 _ _ _ hO]; rfl
    have HBw := Lib.hid (HB2.out.trans (hB.mono HB2.out.size))
    have HB := Lib.hid hB
    clear hO hB
    by_cases hlt : k < n
    · have hk' : k < ids.length := by rw [HN.out]; exact hlt
      obtain ⟨id, hi⟩ : ∃ id, ids[k] = id := ⟨_, rfl⟩
      have hidl : id < 18446744073709551616 := by rw [← hi]; exact HI.out _ (List.getElem_mem hk')
      obtain ⟨a, rfl, _, hc⟩ := (HA.out.below HBw.out).at_ (k := k) (by unfold u64s; rw [List.length_map]; exact hk')
      have hv : (u64s ids)[k]'(by unfold u64s; rw [List.length_map]; exact hk') = .int .u64 (id : Int) := by unfold u64s; rw [List.getElem_map, hi]
      rw [hv] at hc
      have hcl := cls_lt key tn id (cn : Int) h1
      have hc0 := cls_nonneg key tn id (cn : Int)
      obtain ⟨q, hq⟩ : ∃ q : Nat, cls key tn id (cn : Int) = (q : Int) := ⟨(cls key tn id (cn : Int)).toNat, by omega⟩
      have hqc : q < cn := by omega
      obtain ⟨L, hL⟩ : ∃ L, bumps (List.replicate cn 0) (clss key tn (cn : Int) (ids.take k)) = L := ⟨_, rfl⟩
      have hLq : ∃ x, L[q]? = some x ∧ 0 ≤ x ∧ x ≤ 1000 := by
        have hlen : L.length = cn := by rw [← hL, bumps_length, List.length_replicate]
        refine ⟨L[q], List.getElem?_eq_getElem (by omega), ?_⟩
        have := bumps_bd cn (clss key tn (cn : Int) (ids.take k)) q L[q] (by rw [hL]; exact List.getElem?_eq_getElem (by omega))
        have hl2 : (clss key tn (cn : Int) (ids.take k)).length ≤ k := by unfold clss; rw [List.length_map]; exact List.length_take_le _ _
        omega
      obtain ⟨x, hx, hx0, hx1⟩ := hLq
      rw [hL] at hC
      have e2 : bumps (List.replicate cn 0) (clss key tn (cn : Int) (ids.take (k + 1))) = bump L q := by
        rw [List.take_succ_eq_append_getElem hk', hi, ← hL, ← bumps_snoc]
        congr 1
        unfold clss
        rw [List.map_append]
        simp [hq]
      have hCm := Lib.hid hC
      have HE2 := Lib.hid e2
      have HX := Lib.hid hx
      have HUc := Lib.hid (fun W => HC.out id hidl W)
      rw [hq] at HUc
      clear hC e2 hL hi hv hq hcl hc0 hx
      go_wp2_with fail
      go_quiet ((go_at_call 27; exact quiet_l (HUc.out _)))
      have cq : (wr.drewN nq).cell? ⟨w2.heap.size, q, none⟩ = some (.int .i64 x) := by show wr.cell? _ = _; rw [cell_of_row wr _ q _ _ _ hCm.out.2]; simp [ints, HX.out]
      have fq : (wr.drewN nq).frozen? ⟨w2.heap.size, q, none⟩ = false := by show wr.frozen? _ = _; simp [World.frozen?, hCm.out.2]
      go_wp2_with fail
      have hs := hCm.out.set_ q
      rw [HX.out, Option.getD_some] at hs
      exact ⟨⟨k + 1, by omega, by go_num, (by rw [HE2.out]; exact hs), (below_drewN HB.out nq).setCell (by simp) _⟩, by simp [intOf]; omega⟩
    · have : k = n := by omega
      subst this
      rw [List.take_of_length_le (by rw [HN.out]; omega)] at hC
      have hsl := hC.sl
      have hln : (bumps (List.replicate cn 0) (clss key tn (cn : Int) ids)).length = cn := hC.1
      have HCs := Lib.hid hsl
      have HS3 := Lib.hid ((HS1.out.below HB.out).mono HB.out.size)
      clear hC hsl
      go_wp2_with fail
      refine (sameInts A1 (some ⟨w2.heap.size, 0, none⟩) c1 cn wr.heap.size _ cn hln (by omega) _ HS3.out HCs.out).mono ?_
      rintro e w3 ⟨rfl, m3, rfl⟩
      go_wp2_with fail
      refine (awake09 _).mono ?_
      rintro e w4 ⟨rfl, hB4⟩
      have HB4 := Lib.hid ((below_drewN HBw.out m3).trans (hB4.mono (by simpa using HBw.out.size)))
      clear hB4
      go_wp2
      go_ret
      exact ⟨rfl, HB4.out⟩

theorem spreads9Walk (key : Nat) (cl ro now : Int) (A : Option Addr) (c : Nat) (ids : List Nat) (n : Nat) (hn : ids.length = n) (hn2 : n ≤ 9223372036854775807) (hid : ∀ y ∈ ids, y < 18446744073709551616)
    (w : World) (ha : Sl w w.heap.size A (u64s ids)) :
    Calls Try.prog 8 #[users key cl ro, .int .i64 now, .slice A n c] w fun e w' => e = .returned (.bool true) ∧ Below w.heap.size w w' := by
  by_cases h60 : 60 < n
  · exact spreads9Many key cl ro now A c n h60 hn2 w
  · by_cases h : 1 ≤ cl ∧ cl ≤ 16 ∧ 1 ≤ ro ∧ ro ≤ 1099511627776
    · exact spreads9Good key cl ro now h.1 h.2.1 h.2.2.1 h.2.2.2 A c ids n hn (by omega) hid w ha
    · exact spreads9Bad key cl ro now h A c n (by omega) w
end Go.Proofs.Ytheggklmkgffaaa
