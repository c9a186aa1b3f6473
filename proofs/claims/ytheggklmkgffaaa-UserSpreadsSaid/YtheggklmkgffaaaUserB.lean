/- Contracts of New and Spread of users, and awake. Condition: the numbers fit their types; at most 1000 users. -/
import Derived.Test.YtheggklmkgffaaaUserA
namespace Go.Proofs.Ytheggklmkgffaaa
open Go.RowKit Go.Proofs.MixLaw Go.Proofs.UserLaw Go.Lk

set_option maxHeartbeats 400000 in
theorem uNew (key : Nat) (cl ro : Int) (h1 : 1 ≤ cl) (h2 : cl ≤ 16) (h3 : 1 ≤ ro) (h4 : ro ≤ 1099511627776) (w : World) :
    Calls Try.prog 18 #[.int .u64 (key : Int), .int .i64 cl, .int .i64 ro] w fun e w' => e = .returned (.tuple #[users key cl ro, .int .i64 0]) ∧ Below w.heap.size w w' := by
  unfold users
  go_enter Try.func18, Try.ntmps18
  go_wp2
  exact bodyPost_ret (v := .tuple #[.agg #[.int .u64 (key : Int), .int .i64 cl, .int .i64 ro], .int .i64 0]) (by simp [results, Try.results18, go_sem]) rfl ⟨rfl, (Below.refl _ w).alloc (Nat.le_refl _) _⟩

set_option maxHeartbeats 1000000 in
theorem uNewBad (key : Nat) (cl ro : Int) (h : ¬ (1 ≤ cl ∧ cl ≤ 16 ∧ 1 ≤ ro ∧ ro ≤ 1099511627776)) (w : World) :
    Calls Try.prog 18 #[.int .u64 (key : Int), .int .i64 cl, .int .i64 ro] w fun e w' => e = .returned (.tuple #[users 0 0 0, .int .i64 1]) ∧ Below w.heap.size w w' := by
  unfold users
  by_cases h1 : 1 ≤ cl
  · by_cases h2 : cl ≤ 16
    · by_cases h3 : 1 ≤ ro
      · have h4 : 1099511627776 < ro := by omega
        clear h
        go_enter Try.func18, Try.ntmps18
        go_wp2
        exact bodyPost_ret (v := .tuple #[.agg #[.int .u64 0, .int .i64 0, .int .i64 0], .int .i64 1]) (by simp [results, Try.results18, go_sem]) rfl ⟨rfl, (Below.refl _ w).alloc (Nat.le_refl _) _⟩
      · clear h
        go_enter Try.func18, Try.ntmps18
        go_wp2
        exact bodyPost_ret (v := .tuple #[.agg #[.int .u64 0, .int .i64 0, .int .i64 0], .int .i64 1]) (by simp [results, Try.results18, go_sem]) rfl ⟨rfl, (Below.refl _ w).alloc (Nat.le_refl _) _⟩
    · clear h
      go_enter Try.func18, Try.ntmps18
      go_wp2
      exact bodyPost_ret (v := .tuple #[.agg #[.int .u64 0, .int .i64 0, .int .i64 0], .int .i64 1]) (by simp [results, Try.results18, go_sem]) rfl ⟨rfl, (Below.refl _ w).alloc (Nat.le_refl _) _⟩
  · clear h
    go_enter Try.func18, Try.ntmps18
    go_wp2
    exact bodyPost_ret (v := .tuple #[.agg #[.int .u64 0, .int .i64 0, .int .i64 0], .int .i64 1]) (by simp [results, Try.results18, go_sem]) rfl ⟨rfl, (Below.refl _ w).alloc (Nat.le_refl _) _⟩

/-- The classes of users at a turn. -/
def clss (key : Nat) (tn : Nat) (cl : Int) (ids : List Nat) : List Nat := ids.map fun id => (cls key tn id cl).toNat

/-- The block of the counts. -/
def Cnt (w : World) (b : Nat) (L : List Int) : Prop := L.length = 16 ∧ w.heap[b]? = some (.cells (ints L).toArray 55 (0, 0))
theorem Cnt.set_ {w : World} {b : Nat} {L : List Int} (h : Cnt w b L) (c : Nat) : Cnt (w.setCell ⟨b, c, none⟩ (.int .i64 (L[c]?.getD 0 + 1))) b (bump L c) := by
  refine ⟨(bump_length L c).trans h.1, ?_⟩
  rw [heap_set1 h.2 c _]
  simp [ints, bump, List.map_set]

set_option maxRecDepth 100000 in
set_option maxHeartbeats 2000000 in
theorem uSpread (key : Nat) (cl ro now : Int) (h1 : 1 ≤ cl) (h2 : cl ≤ 16) (h3 : 1 ≤ ro) (A : Option Addr) (c : Nat) (ids : List Nat) (n : Nat) (hn : ids.length = n) (hn2 : n ≤ 1000) (hid : ∀ y ∈ ids, y < 18446744073709551616)
    (w : World) (ha : Sl w w.heap.size A (u64s ids)) :
    Calls Try.prog 23 #[users key cl ro, .int .i64 now, .slice A n c] w fun e w' => ∃ v, e = .returned v ∧ w'.ownsRow w.heap.size 3 1 v cl.toNat (ints ((bumps (List.replicate 16 0) (clss key (turn ro now).toNat cl ids)).take cl.toNat)) ∧ Below w.heap.size w w' := by
  obtain ⟨i0, hi0, hz0, hz1, hz2⟩ := info_parts Try.info3
  obtain ⟨cn, rfl⟩ : ∃ cn : Nat, cl = (cn : Int) := ⟨cl.toNat, by omega⟩
  rw [Int.toNat_natCast]
  have HU := Lib.hid (fun id hid W => uClass key id (cn : Int) ro now hid (by omega) h2 (by omega) W)
  unfold users at HU ⊢
  obtain ⟨tn, htn⟩ : ∃ tn : Nat, (turn ro now).toNat = tn := ⟨_, rfl⟩
  rw [htn] at HU ⊢
  have hb0 : ((cn : Int) == 0) = false := by rw [beq_eq_false_iff_ne]; omega
  have HN := Lib.hid hn
  have HA := Lib.hid ha
  have HI := Lib.hid hid
  clear hn ha hid htn
  go_enter Try.func23, Try.ntmps23
  go_wp2_with fail
  go_loopw [15] (fun i wr => ∃ k : Nat, k ≤ n ∧ i = .int .i64 k ∧ Cnt wr (w.heap.size + 1) (bumps (List.replicate 16 0) (clss key tn (cn : Int) (ids.take k))) ∧ wr.heap[w.heap.size]? = some (.cells #[.int .u64 (key : Int), .int .i64 (cn : Int), .int .i64 ro] 38 (0, 0)) ∧ Below w.heap.size w wr) (fun i _ => n - (intOf i).toNat)
  case atStart =>
    refine ⟨0, by omega, rfl, ⟨rfl, ?_⟩, ?_, ((Below.refl _ w).alloc (Nat.le_refl _) _).alloc (by simp) _⟩
    · have hh := heap_alloc_new (w.alloc (.cells #[.int .u64 (key : Int), .int .i64 (cn : Int), .int .i64 ro] 38)) (.cells (ints (List.replicate 16 0)).toArray 55)
      have e : (w.alloc (.cells #[.int .u64 (key : Int), .int .i64 (cn : Int), .int .i64 ro] 38)).heap.size = w.heap.size + 1 := by simp
      rw [e] at hh
      exact hh
    · rw [Below.heap_alloc _ _ _ (by simp), heap_alloc_new]
  case round =>
    obtain ⟨k, hk, rfl, hC, hU, hB⟩ := hrel
    by_cases hlt : k < n
    · have hk' : k < ids.length := by rw [HN.out]; exact hlt
      obtain ⟨id, hi⟩ : ∃ id, ids[k] = id := ⟨_, rfl⟩
      have hidl : id < 18446744073709551616 := by rw [← hi]; exact HI.out _ (List.getElem_mem hk')
      obtain ⟨a, rfl, _, hc⟩ := (HA.out.below hB).at_ (k := k) (by unfold u64s; rw [List.length_map]; exact hk')
      have hv : (u64s ids)[k]'(by unfold u64s; rw [List.length_map]; exact hk') = .int .u64 (id : Int) := by unfold u64s; rw [List.getElem_map, hi]
      rw [hv] at hc
      have hcl := cls_lt key tn id (cn : Int) h1
      have hc0 := cls_nonneg key tn id (cn : Int)
      obtain ⟨q, hq⟩ : ∃ q : Nat, cls key tn id (cn : Int) = (q : Int) := ⟨(cls key tn id (cn : Int)).toNat, by omega⟩
      have hq16 : q < 16 := by omega
      have u0 : wr.cell? ⟨w.heap.size, 0, none⟩ = some (.int .u64 (key : Int)) := by rw [cell_of_row wr _ 0 _ _ _ hU]; rfl
      have u1 : wr.cell? ⟨w.heap.size, 1, none⟩ = some (.int .i64 (cn : Int)) := by rw [cell_of_row wr _ 1 _ _ _ hU]; rfl
      have u2 : wr.cell? ⟨w.heap.size, 2, none⟩ = some (.int .i64 ro) := by rw [cell_of_row wr _ 2 _ _ _ hU]; rfl
      obtain ⟨L, hL⟩ : ∃ L, bumps (List.replicate 16 0) (clss key tn (cn : Int) (ids.take k)) = L := ⟨_, rfl⟩
      have hLq : ∃ x, L[q]? = some x ∧ 0 ≤ x ∧ x ≤ 1000 := by
        have hlen : L.length = 16 := by rw [← hL]; exact bumps_length _ _
        refine ⟨L[q], List.getElem?_eq_getElem (by omega), ?_⟩
        have := bumps_bd 16 (clss key tn (cn : Int) (ids.take k)) q L[q] (by rw [hL]; exact List.getElem?_eq_getElem (by omega))
        have hl2 : (clss key tn (cn : Int) (ids.take k)).length ≤ k := by unfold clss; rw [List.length_map]; exact List.length_take_le _ _
        omega
      obtain ⟨x, hx, hx0, hx1⟩ := hLq
      rw [hL] at hC
      have e2 : bumps (List.replicate 16 0) (clss key tn (cn : Int) (ids.take (k + 1))) = bump L q := by
        rw [List.take_succ_eq_append_getElem hk', hi, ← hL, ← bumps_snoc]
        congr 1
        unfold clss
        rw [List.map_append]
        simp [hq]
      have HC := Lib.hid hC
      have HUb := Lib.hid hU
      have HB := Lib.hid hB
      have HE2 := Lib.hid e2
      have HX := Lib.hid hx
      have HUc := Lib.hid (HU.out id hidl wr)
      rw [hq] at HUc
      clear hC hU hB e2 hL hi hv hq hcl hc0 hx
      go_wp2_with fail
      refine HUc.out.mono ?_
      rintro e w2 ⟨rfl, hB2⟩
      have hC2 : Cnt w2 (w.heap.size + 1) L := ⟨HC.out.1, (hB2.block _ (heap_lt HC.out.2)).trans HC.out.2⟩
      have cq : w2.cell? ⟨w.heap.size + 1, q, none⟩ = some (.int .i64 x) := by rw [cell_of_row w2 _ q _ _ _ hC2.2]; simp [ints, HX.out]
      have fq : w2.frozen? ⟨w.heap.size + 1, q, none⟩ = false := by simp [World.frozen?, hC2.2]
      have HC2 := Lib.hid hC2
      have HB2 := Lib.hid hB2
      clear hC2 hB2
      go_wp2_with fail
      have hs := HC2.out.set_ q
      rw [HX.out, Option.getD_some] at hs
      exact ⟨⟨k + 1, by omega, by go_num, (by rw [HE2.out]; exact hs), (Below.heap_setCell _ _ _ _ (by simp)).trans ((HB2.out.block _ (heap_lt HUb.out)).trans HUb.out), (HB.out.trans (HB2.out.mono HB.out.size)).setCell (by simp) _⟩, by simp [intOf]; omega⟩
    · have : k = n := by omega
      subst this
      have u1 : wr.cell? ⟨w.heap.size, 1, none⟩ = some (.int .i64 (cn : Int)) := by rw [cell_of_row wr _ 1 _ _ _ hU]; rfl
      rw [List.take_of_length_le (by rw [HN.out]; omega)] at hC
      obtain ⟨L, hL⟩ : ∃ L, bumps (List.replicate 16 0) (clss key tn (cn : Int) ids) = L := ⟨_, rfl⟩
      rw [hL] at hC
      have HL := Lib.hid hL
      clear hL
      have hb1 : w.heap.size + 1 < wr.heap.size := heap_lt hC.2
      have hS : Sl wr wr.heap.size (some ⟨w.heap.size + 1, 0, none⟩) (ints (L.take cn)) := by
        intro j u hj
        refine ⟨_, rfl, hb1, ?_⟩
        have h3 : (⟨w.heap.size + 1, 0, none⟩ : Addr).add j = ⟨w.heap.size + 1, j, none⟩ := by unfold Addr.add; split <;> simp_all
        rw [h3, cell_of_row wr _ j _ _ _ hC.2]
        unfold ints at hj ⊢
        rw [List.map_take, List.getElem?_take] at hj
        split at hj
        · simpa using hj
        · cases hj
      have hlen : (ints (L.take cn)).length = cn := by unfold ints; rw [List.length_map, List.length_take, hC.1]; omega
      have HS := Lib.hid hS
      have HB := Lib.hid hB
      have HLn := Lib.hid hlen
      have u1' : ∀ X, (wr.alloc X).cell? ⟨w.heap.size, 1, none⟩ = some (.int .i64 (cn : Int)) := fun X => cell_al u1 X
      clear hC hU hB hS hlen
      go_wp2_with (at_builtin; refine appendAll _ rfl _ _ 30 rfl wr.heap.size 3 i0 (.int .i64 0) 8 Try.underlying30 hi0 hz0 hz1 hz2 rfl _ 0 [] rfl ?c1 wr.heap.size (some ⟨w.heap.size + 1, 0, none⟩) cn 16 (ints (L.take cn)) rfl HLn.out ?c2 ?c3 (by omega) (by omega) ?c4 (by simp) ?_)
      case c1 => exact ⟨rfl, Or.inr ⟨wr.heap.size, 0, #[], rfl, Nat.le_refl _, heap_alloc_new _ _, by omega, by omega, rfl, rfl⟩⟩
      case c2 => exact HS.out.keep fun p hp => World.cell?_alloc_lt _ _ p hp
      case c3 => intro u hu; unfold ints at hu; obtain ⟨z, _, rfl⟩ := List.mem_map.1 hu; rfl
      case c4 => simp
      intro v2 w2 hown2 hg2 hat2
      have hBs := HB.out.size
      have HB2 := Lib.hid ((HB.out.alloc hBs (.cells #[] 3)).grown hg2 (by simp; omega) (fun j hj => by simp [Value.ownBlock] at hj; omega))
      have HO2 := Lib.hid (own_base hown2 (show w.heap.size ≤ wr.heap.size from hBs))
      clear hown2 hg2 hat2
      go_wp2
      go_ret
      refine ⟨v2, rfl, ?_, HB2.out⟩
      rw [HL.out]
      have := HO2.out
      simpa using this

set_option maxRecDepth 100000 in
set_option maxHeartbeats 2000000 in
theorem awake09 (w : World) : Calls Try.prog 24 #[] w fun e w' => e = .returned (.bool true) ∧ Below w.heap.size w w' := by
  have hsp : (bumps (List.replicate 16 0) (clss 7 (turn 10 25).toNat 4 [1, 2, 3, 4])).take 4 = [0, 2, 1, 1] := by decide +kernel
  have ht : turn 10 25 = 2 := by decide +kernel
  have hx : next 10 25 = 30 := by decide +kernel
  have HS := Lib.hid hsp
  have HN := Lib.hid (fun W => uNew 7 4 10 (by omega) (by omega) (by omega) (by omega) W)
  have HP := Lib.hid (fun A c W ha => uSpread 7 4 10 25 (by omega) (by omega) (by omega) A c [1, 2, 3, 4] 4 rfl (by omega) (by intro y hy; simp at hy; omega) W ha)
  have HT := Lib.hid (fun W => uTurn 7 4 10 25 (by omega) W)
  have HX := Lib.hid (fun W => uNext 7 4 10 25 (by omega) (by omega) W)
  unfold users at HN HP HT HX
  rw [ht] at HT
  rw [hx] at HX
  clear hsp ht hx
  go_enter Try.func24, Try.ntmps24
  go_wp2_with fail
  refine (HN.out _).mono ?_
  rintro e w1 ⟨rfl, hB1⟩
  have hs1 := hB1.size
  go_wp2_with fail
  refine (HP.out _ _ _ ?_).mono ?_
  · intro k u hk
    match k, hk with
    | 0, hk => simp [u64s] at hk; subst hk; exact ⟨_, rfl, by simp, by simp [Addr.add]⟩
    | 1, hk => simp [u64s] at hk; subst hk; exact ⟨_, rfl, by simp, by simp [Addr.add]⟩
    | 2, hk => simp [u64s] at hk; subst hk; exact ⟨_, rfl, by simp, by simp [Addr.add]⟩
    | 3, hk => simp [u64s] at hk; subst hk; exact ⟨_, rfl, by simp, by simp [Addr.add]⟩
  rintro e w2 ⟨v, rfl, hown, hB2⟩
  rw [show (4 : Int).toNat = 4 from rfl, HS.out] at hown
  obtain ⟨g, cap, rfl, hg, hgl, hcap, hcell, hfr⟩ := own_pos hown (by omega)
  have c0 := hcell 0 (.int .i64 0) (by simp [ints])
  have c1 := hcell 1 (.int .i64 2) (by simp [ints])
  have c2 := hcell 2 (.int .i64 1) (by simp [ints])
  have c3 := hcell 3 (.int .i64 1) (by simp [ints])
  have q0 := (hB2.cell (p := ⟨w1.heap.size, 0, none⟩) (by simp; omega)).trans (show _ = some (Value.int .u64 7) by simp)
  have q1 := (hB2.cell (p := ⟨w1.heap.size, 1, none⟩) (by simp; omega)).trans (show _ = some (Value.int .i64 4) by simp)
  have q2 := (hB2.cell (p := ⟨w1.heap.size, 2, none⟩) (by simp; omega)).trans (show _ = some (Value.int .i64 10) by simp)
  have hq : w1.heap.size < w2.heap.size := by have := hB2.size; simp at this; omega
  have HB := Lib.hid ((((hB1.alloc hs1 (.cells #[.int .u64 7, .int .i64 4, .int .i64 10] 38)).alloc (by simp; omega) (.cells #[.int .u64 1, .int .u64 2, .int .u64 3, .int .u64 4] 22)).trans (hB2.mono (by simp; omega))).drew)
  have HC := Lib.hid (Below.refl w2.heap.size w2).drew
  clear hown hcell hfr hB1 hB2
  go_wp2_with fail
  go_region_held3 (fun w' => w'.cell? ⟨w1.heap.size, 0, none⟩ = some (.int .u64 7) ∧ w'.cell? ⟨w1.heap.size, 1, none⟩ = some (.int .i64 4) ∧ w'.cell? ⟨w1.heap.size, 2, none⟩ = some (.int .i64 10) ∧ w'.cell? ⟨g, 0, none⟩ = some (.int .i64 0) ∧ w'.cell? ⟨g, 1, none⟩ = some (.int .i64 2) ∧ w'.cell? ⟨g, 2, none⟩ = some (.int .i64 1) ∧ w'.cell? ⟨g, 3, none⟩ = some (.int .i64 1)) (first | (exact ⟨(HC.out.cell (p := ⟨w1.heap.size, 0, none⟩) hq).trans q0, (HC.out.cell (p := ⟨w1.heap.size, 1, none⟩) hq).trans q1, (HC.out.cell (p := ⟨w1.heap.size, 2, none⟩) hq).trans q2, (HC.out.cell (p := ⟨g, 0, none⟩) hgl).trans c0, (HC.out.cell (p := ⟨g, 1, none⟩) hgl).trans c1, (HC.out.cell (p := ⟨g, 2, none⟩) hgl).trans c2, (HC.out.cell (p := ⟨g, 3, none⟩) hgl).trans c3⟩) | go_keep)
    (first
      | (go_at_call 20; refine (HT.out _).mono ?_; rintro e w3 ⟨rfl, hB3⟩; have HB := Lib.hid (HB.out.trans (hB3.mono HB.out.size)); have HC := Lib.hid (HC.out.trans (hB3.mono HC.out.size)); clear hB3)
      | (go_at_call 21; refine (HX.out _).mono ?_; rintro e w3 ⟨rfl, hB3⟩; have HB := Lib.hid (HB.out.trans (hB3.mono HB.out.size)); have HC := Lib.hid (HC.out.trans (hB3.mono HC.out.size)); clear hB3))
  go_wp2
  go_ret
  exact ⟨rfl, HB.out⟩
end Go.Proofs.Ytheggklmkgffaaa
