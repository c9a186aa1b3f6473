/- The walk of UserStays. Condition: the arguments fit their types. -/
import Derived.Test.YtheggklmkgffaaaUserC
import Derived.Test.YtheggklmkgffaaaCalm
namespace Go.Proofs.Ytheggklmkgffaaa
open Go.RowKit Go.Proofs.MixLaw Go.Proofs.UserLaw Go.Lk

set_option maxHeartbeats 2000000 in
theorem stays9Bad (key id : Nat) (cl ro n0 n1 : Int) (h : ¬ (1 ≤ cl ∧ cl ≤ 16 ∧ 1 ≤ ro ∧ ro ≤ 1099511627776)) (w : World) :
    Calls Try.prog 7 #[users key cl ro, .int .u64 (id : Int), .agg #[.int .i64 n0, .int .i64 n1]] w fun e w' => e = .returned (.bool true) ∧ Below w.heap.size w w' := by
  have HN := Lib.hid (fun W => uNewBad key cl ro h W)
  unfold users at HN ⊢
  clear h
  go_enter Try.func7, Try.ntmps7
  go_wp2_with fail
  refine (HN.out _).mono ?_
  rintro e w1 ⟨rfl, hB1⟩
  have HB := Lib.hid (((((Below.refl w.heap.size w).alloc (Nat.le_refl _) (.cells #[.int .u64 (key : Int), .int .i64 cl, .int .i64 ro] 36)).alloc (by simp) (.cells #[.int .i64 n0, .int .i64 n1] 49)).trans (hB1.mono (by simp; omega))).alloc (by have := hB1.size; simp at this; omega) (.cells #[.int .u64 0, .int .i64 0, .int .i64 0] 38))
  clear hB1
  go_wp2_with fail
  refine (awake09 _).mono ?_
  rintro e w7 ⟨rfl, hB7⟩
  have HB := Lib.hid (HB.out.trans (hB7.mono HB.out.size))
  clear hB7
  go_wp2
  go_ret
  exact ⟨rfl, HB.out⟩

set_option maxRecDepth 100000 in
set_option maxHeartbeats 8000000 in
theorem stays9Good (key id : Nat) (cl ro n0 n1 : Int) (c1 : 1 ≤ cl) (c2 : cl ≤ 16) (r1 : 1 ≤ ro) (r2 : ro ≤ 1099511627776) (hid : id < 18446744073709551616) (w : World) :
    Calls Try.prog 7 #[users key cl ro, .int .u64 (id : Int), .agg #[.int .i64 n0, .int .i64 n1]] w fun e w' => e = .returned (.bool true) ∧ Below w.heap.size w w' := by
  have HN := Lib.hid (fun W => uNew key cl ro c1 c2 r1 r2 W)
  have HT0 := Lib.hid (fun W => uTurn key cl ro n0 (by omega) W)
  have HT1 := Lib.hid (fun W => uTurn key cl ro n1 (by omega) W)
  have HT2 := Lib.hid (fun W => uTurn key cl ro (next ro n0 - 1) (by omega) W)
  have HT3 := Lib.hid (fun W => uTurn key cl ro (next ro n0) (by omega) W)
  have HX := Lib.hid (fun W => uNext key cl ro n0 (by omega) r2 W)
  have HC0 := Lib.hid (fun W => uClass key id cl ro n0 hid (by omega) c2 (by omega) W)
  have HC1 := Lib.hid (fun W => uClass key id cl ro n1 hid (by omega) c2 (by omega) W)
  have HRK := Lib.hid (fun W => refTick n0 W)
  have hst := stays ro n0 r1 r2
  have htb := tick_bd n0
  have hnb : 0 ≤ next ro n0 ∧ next ro n0 ≤ 1099511627776 := tick_bd _
  have hqb := turn_bd ro n0 (by omega)
  have hcn := cls_nonneg key (turn ro n0).toNat id cl
  have hcl := cls_lt key (turn ro n0).toNat id cl c1
  have hsame : turn ro n0 = turn ro n1 → cls key (turn ro n0).toNat id cl = cls key (turn ro n1).toNat id cl := fun h => by rw [h]
  generalize cls key (turn ro n0).toNat id cl = ca at *
  generalize cls key (turn ro n1).toNat id cl = cb at *
  generalize next ro n0 = nx at *
  generalize hnm : nx - 1 = nm at *
  generalize turn ro nm = q2 at *
  generalize turn ro nx = q3 at *
  generalize turn ro n0 = q0 at *
  generalize turn ro n1 = q1 at *
  generalize tick n0 = tk at *
  unfold users at *
  go_enter Try.func7, Try.ntmps7
  go_wp2_with fail
  refine (HN.out _).mono ?_
  rintro e w1 ⟨rfl, hB1⟩
  have o1 := (hB1.cell (p := ⟨w.heap.size, 1, none⟩) (by simp; omega)).trans (show _ = some (Value.int .i64 cl) by simp)
  have d0 := (hB1.cell (p := ⟨w.heap.size + 1, 0, none⟩) (by simp)).trans (show _ = some (Value.int .i64 n0) by simp)
  have d1 := (hB1.cell (p := ⟨w.heap.size + 1, 1, none⟩) (by simp)).trans (show _ = some (Value.int .i64 n1) by simp)
  have hs1 : w.heap.size + 1 < w1.heap.size := by have := hB1.size; simp at this; omega
  have HB := Lib.hid (((((Below.refl w.heap.size w).alloc (Nat.le_refl _) (.cells #[.int .u64 (key : Int), .int .i64 cl, .int .i64 ro] 36)).alloc (by simp) (.cells #[.int .i64 n0, .int .i64 n1] 49)).trans (hB1.mono (by simp; omega))).alloc (by omega) (.cells #[.int .u64 (key : Int), .int .i64 cl, .int .i64 ro] 38))
  clear hB1
  go_wp2_with fail
  generalize hws : w1.alloc (.cells #[.int .u64 (key : Int), .int .i64 cl, .int .i64 ro] 38) = ws at HB
  have s1 : ws.cell? ⟨w.heap.size, 1, none⟩ = some (Value.int .i64 cl) := by rw [← hws]; exact cell_al o1 _
  have e0 : ws.cell? ⟨w.heap.size + 1, 0, none⟩ = some (Value.int .i64 n0) := by rw [← hws]; exact cell_al d0 _
  have e1 : ws.cell? ⟨w.heap.size + 1, 1, none⟩ = some (Value.int .i64 n1) := by rw [← hws]; exact cell_al d1 _
  have t0 : ws.cell? ⟨w1.heap.size, 0, none⟩ = some (Value.int .u64 (key : Int)) := by rw [← hws]; simp
  have t1 : ws.cell? ⟨w1.heap.size, 1, none⟩ = some (Value.int .i64 cl) := by rw [← hws]; simp
  have t2 : ws.cell? ⟨w1.heap.size, 2, none⟩ = some (Value.int .i64 ro) := by rw [← hws]; simp
  clear hws o1 d0 d1 hs1
  refine calm_region (by kernel_rfl) (by kernel_rfl) ?_
  repeat (first
    | go_big_quiet_skip
    | (go_big_quiet_want; rename_i K hK
       apply Exists.intro
       refine ⟨fun w' hw' => ?_, hK _ ?_⟩
       · have f0 := hw'.cell s1
         have f1 := hw'.cell e0
         have f2 := hw'.cell e1
         have f3 := hw'.cell t0
         have f4 := hw'.cell t1
         have f5 := hw'.cell t2
         go_simp
         first
           | done
           | with_reducible rfl
           | (go_at_call_of 22 n0; exact hw'.call (HC0.out _))
           | (go_at_call_of 22 n1; exact hw'.call (HC1.out _))
           | (go_at_call_of 20 n0; exact hw'.call (HT0.out _))
           | (go_at_call_of 20 n1; exact hw'.call (HT1.out _))
           | (go_at_call_of 20 nm; exact hw'.call (HT2.out _))
           | (go_at_call_of 20 nx; exact hw'.call (HT3.out _))
           | (go_at_call 26; exact hw'.same (HRK.out _))
           | (go_at_call 24; exact hw'.call (awake09 _))
       clear hK K
       try simp only [Act.put, List.setIfInBounds_toArray, List.set_cons_zero, List.set_cons_succ]))
  refine wpQuiet_nil ?_
  intro w2 hc
  have HB := Lib.hid (HB.out.trans (hc.below.mono HB.out.size))
  have s1 := hc.cell s1
  have e0 := hc.cell e0
  have e1 := hc.cell e1
  have t0 := hc.cell t0
  have t1 := hc.cell t1
  have t2 := hc.cell t2
  clear hc
  have z1 : decide (ca < 0) = false := by simp; omega
  have z2 : decide (cl ≤ ca) = false := by simp; omega
  have z3 : (ca == ca) = true := by simp
  clear hcn hcl
  rcases Decidable.em (q0 = q1) with hq | hq
  · have hab := hsame hq
    subst hq hab
    go_wp2_with fail
    refine calm_region (by kernel_rfl) (by kernel_rfl) ?_
    repeat (first
      | go_big_quiet_skip
      | (go_big_quiet_want; rename_i K hK
         apply Exists.intro
         refine ⟨fun w' hw' => ?_, hK _ ?_⟩
         · have f0 := hw'.cell s1
           have f1 := hw'.cell e0
           have f2 := hw'.cell e1
           have f3 := hw'.cell t0
           have f4 := hw'.cell t1
           have f5 := hw'.cell t2
           go_simp
           first
             | done
             | with_reducible rfl
             | (go_at_call_of 22 n0; exact hw'.call (HC0.out _))
             | (go_at_call_of 22 n1; exact hw'.call (HC1.out _))
             | (go_at_call_of 20 n0; exact hw'.call (HT0.out _))
             | (go_at_call_of 20 n1; exact hw'.call (HT1.out _))
             | (go_at_call_of 20 nm; exact hw'.call (HT2.out _))
             | (go_at_call_of 20 nx; exact hw'.call (HT3.out _))
             | (go_at_call 26; exact hw'.same (HRK.out _))
             | (go_at_call 24; exact hw'.call (awake09 _))
         clear hK K
         try simp only [Act.put, List.setIfInBounds_toArray, List.set_cons_zero, List.set_cons_succ]))
    refine wpQuiet_nil ?_
    intro w3 hc
    have HB := Lib.hid (HB.out.trans (hc.below.mono HB.out.size))
    have s1 := hc.cell s1
    have e0 := hc.cell e0
    have e1 := hc.cell e1
    have t0 := hc.cell t0
    have t1 := hc.cell t1
    have t2 := hc.cell t2
    clear hc
    go_wp2_with fail
    refine (HX.out _).mono ?_
    rintro e w4 ⟨rfl, hB4⟩
    have hc : Lk.Calm w3 w4 := hB4
    have HB := Lib.hid (HB.out.trans (hB4.mono HB.out.size))
    have s1 := hc.cell s1
    have e0 := hc.cell e0
    have e1 := hc.cell e1
    have t0 := hc.cell t0
    have t1 := hc.cell t1
    have t2 := hc.cell t2
    clear hc hB4
    rcases Decidable.em (tk = 1099511627776) with ht | ht
    · have z4 : decide (nx > tk) = false := by simp; omega
      have z4' : decide (tk < nx) = false := by simp; omega
      have z5 : (tk == 1099511627776) = true := by simpa using ht
      clear hst hsame htb hnb ht hnm
      go_wp2_with fail
      refine calm_region (by kernel_rfl) (by kernel_rfl) ?_
      repeat (first
        | go_big_quiet_skip
        | (go_big_quiet_want; rename_i K hK
           apply Exists.intro
           refine ⟨fun w' hw' => ?_, hK _ ?_⟩
           · have f0 := hw'.cell s1
             have f1 := hw'.cell e0
             have f2 := hw'.cell e1
             have f3 := hw'.cell t0
             have f4 := hw'.cell t1
             have f5 := hw'.cell t2
             go_simp
             first
               | done
               | with_reducible rfl
               | (go_at_call_of 22 n0; exact hw'.call (HC0.out _))
               | (go_at_call_of 22 n1; exact hw'.call (HC1.out _))
               | (go_at_call_of 20 n0; exact hw'.call (HT0.out _))
               | (go_at_call_of 20 n1; exact hw'.call (HT1.out _))
               | (go_at_call_of 20 nm; exact hw'.call (HT2.out _))
               | (go_at_call_of 20 nx; exact hw'.call (HT3.out _))
               | (go_at_call 26; exact hw'.same (HRK.out _))
               | (go_at_call 24; exact hw'.call (awake09 _))
           clear hK K
           try simp only [Act.put, List.setIfInBounds_toArray, List.set_cons_zero, List.set_cons_succ]))
      refine wpQuiet_nil ?_
      intro w5 hc
      have HB := Lib.hid (HB.out.trans (hc.below.mono HB.out.size))
      have s1 := hc.cell s1
      have e0 := hc.cell e0
      have e1 := hc.cell e1
      have t0 := hc.cell t0
      have t1 := hc.cell t1
      have t2 := hc.cell t2
      clear hc
      go_wp2
      go_ret
      exact ⟨rfl, HB.out⟩
    · obtain ⟨h1, h2, h3⟩ := hst ht
      have z4 : decide (nx > tk) = true := by simp; omega
      have z4' : decide (tk < nx) = true := by simp; omega
      have hw1 : IntKind.i64.wrap (nx - 1) = nm := by rw [IntKind.wrap_i64]; omega
      have hw2 : IntKind.i64.wrap (q0 + 1) = q0 + 1 := by rw [IntKind.wrap_i64]; omega
      have z6 : (q2 == q0) = true := by simpa using h2
      rcases Decidable.em (nx = 1099511627776) with hm | hm
      · have z7 : (nx == 1099511627776) = true := by simpa using hm
        clear hst hsame htb hnb h1 h2 h3 hqb hm ht hnm
        go_wp2_with fail
        refine calm_region (by kernel_rfl) (by kernel_rfl) ?_
        repeat (first
          | go_big_quiet_skip
          | (go_big_quiet_want; rename_i K hK
             apply Exists.intro
             refine ⟨fun w' hw' => ?_, hK _ ?_⟩
             · have f0 := hw'.cell s1
               have f1 := hw'.cell e0
               have f2 := hw'.cell e1
               have f3 := hw'.cell t0
               have f4 := hw'.cell t1
               have f5 := hw'.cell t2
               go_simp
               first
                 | done
                 | with_reducible rfl
                 | (go_at_call_of 22 n0; exact hw'.call (HC0.out _))
                 | (go_at_call_of 22 n1; exact hw'.call (HC1.out _))
                 | (go_at_call_of 20 n0; exact hw'.call (HT0.out _))
                 | (go_at_call_of 20 n1; exact hw'.call (HT1.out _))
                 | (go_at_call_of 20 nm; exact hw'.call (HT2.out _))
                 | (go_at_call_of 20 nx; exact hw'.call (HT3.out _))
                 | (go_at_call 26; exact hw'.same (HRK.out _))
                 | (go_at_call 24; exact hw'.call (awake09 _))
             clear hK K
             try simp only [Act.put, List.setIfInBounds_toArray, List.set_cons_zero, List.set_cons_succ]))
        refine wpQuiet_nil ?_
        intro w5 hc
        have HB := Lib.hid (HB.out.trans (hc.below.mono HB.out.size))
        have s1 := hc.cell s1
        have e0 := hc.cell e0
        have e1 := hc.cell e1
        have t0 := hc.cell t0
        have t1 := hc.cell t1
        have t2 := hc.cell t2
        clear hc
        go_wp2
        go_ret
        exact ⟨rfl, HB.out⟩
      · have z7 : (nx == 1099511627776) = false := by simpa using hm
        have z8 : (q3 == q0 + 1) = true := by simpa using h3 hm
        clear hst hsame htb hnb h1 h2 h3 hqb hm ht hnm
        go_wp2_with fail
        refine calm_region (by kernel_rfl) (by kernel_rfl) ?_
        repeat (first
          | go_big_quiet_skip
          | (go_big_quiet_want; rename_i K hK
             apply Exists.intro
             refine ⟨fun w' hw' => ?_, hK _ ?_⟩
             · have f0 := hw'.cell s1
               have f1 := hw'.cell e0
               have f2 := hw'.cell e1
               have f3 := hw'.cell t0
               have f4 := hw'.cell t1
               have f5 := hw'.cell t2
               go_simp
               first
                 | done
                 | with_reducible rfl
                 | (go_at_call_of 22 n0; exact hw'.call (HC0.out _))
                 | (go_at_call_of 22 n1; exact hw'.call (HC1.out _))
                 | (go_at_call_of 20 n0; exact hw'.call (HT0.out _))
                 | (go_at_call_of 20 n1; exact hw'.call (HT1.out _))
                 | (go_at_call_of 20 nm; exact hw'.call (HT2.out _))
                 | (go_at_call_of 20 nx; exact hw'.call (HT3.out _))
                 | (go_at_call 26; exact hw'.same (HRK.out _))
                 | (go_at_call 24; exact hw'.call (awake09 _))
             clear hK K
             try simp only [Act.put, List.setIfInBounds_toArray, List.set_cons_zero, List.set_cons_succ]))
        refine wpQuiet_nil ?_
        intro w5 hc
        have HB := Lib.hid (HB.out.trans (hc.below.mono HB.out.size))
        have s1 := hc.cell s1
        have e0 := hc.cell e0
        have e1 := hc.cell e1
        have t0 := hc.cell t0
        have t1 := hc.cell t1
        have t2 := hc.cell t2
        clear hc
        go_wp2
        go_ret
        exact ⟨rfl, HB.out⟩
  · have zq : (q0 == q1) = false := by simpa using hq
    go_wp2_with fail
    refine calm_region (by kernel_rfl) (by kernel_rfl) ?_
    repeat (first
      | go_big_quiet_skip
      | (go_big_quiet_want; rename_i K hK
         apply Exists.intro
         refine ⟨fun w' hw' => ?_, hK _ ?_⟩
         · have f0 := hw'.cell s1
           have f1 := hw'.cell e0
           have f2 := hw'.cell e1
           have f3 := hw'.cell t0
           have f4 := hw'.cell t1
           have f5 := hw'.cell t2
           go_simp
           first
             | done
             | with_reducible rfl
             | (go_at_call_of 22 n0; exact hw'.call (HC0.out _))
             | (go_at_call_of 22 n1; exact hw'.call (HC1.out _))
             | (go_at_call_of 20 n0; exact hw'.call (HT0.out _))
             | (go_at_call_of 20 n1; exact hw'.call (HT1.out _))
             | (go_at_call_of 20 nm; exact hw'.call (HT2.out _))
             | (go_at_call_of 20 nx; exact hw'.call (HT3.out _))
             | (go_at_call 26; exact hw'.same (HRK.out _))
             | (go_at_call 24; exact hw'.call (awake09 _))
         clear hK K
         try simp only [Act.put, List.setIfInBounds_toArray, List.set_cons_zero, List.set_cons_succ]))
    refine wpQuiet_nil ?_
    intro w3 hc
    have HB := Lib.hid (HB.out.trans (hc.below.mono HB.out.size))
    have s1 := hc.cell s1
    have e0 := hc.cell e0
    have e1 := hc.cell e1
    have t0 := hc.cell t0
    have t1 := hc.cell t1
    have t2 := hc.cell t2
    clear hc
    go_wp2_with fail
    refine (HX.out _).mono ?_
    rintro e w4 ⟨rfl, hB4⟩
    have hc : Lk.Calm w3 w4 := hB4
    have HB := Lib.hid (HB.out.trans (hB4.mono HB.out.size))
    have s1 := hc.cell s1
    have e0 := hc.cell e0
    have e1 := hc.cell e1
    have t0 := hc.cell t0
    have t1 := hc.cell t1
    have t2 := hc.cell t2
    clear hc hB4
    rcases Decidable.em (tk = 1099511627776) with ht | ht
    · have z4 : decide (nx > tk) = false := by simp; omega
      have z4' : decide (tk < nx) = false := by simp; omega
      have z5 : (tk == 1099511627776) = true := by simpa using ht
      clear hst hsame htb hnb ht hnm
      go_wp2_with fail
      refine calm_region (by kernel_rfl) (by kernel_rfl) ?_
      repeat (first
        | go_big_quiet_skip
        | (go_big_quiet_want; rename_i K hK
           apply Exists.intro
           refine ⟨fun w' hw' => ?_, hK _ ?_⟩
           · have f0 := hw'.cell s1
             have f1 := hw'.cell e0
             have f2 := hw'.cell e1
             have f3 := hw'.cell t0
             have f4 := hw'.cell t1
             have f5 := hw'.cell t2
             go_simp
             first
               | done
               | with_reducible rfl
               | (go_at_call_of 22 n0; exact hw'.call (HC0.out _))
               | (go_at_call_of 22 n1; exact hw'.call (HC1.out _))
               | (go_at_call_of 20 n0; exact hw'.call (HT0.out _))
               | (go_at_call_of 20 n1; exact hw'.call (HT1.out _))
               | (go_at_call_of 20 nm; exact hw'.call (HT2.out _))
               | (go_at_call_of 20 nx; exact hw'.call (HT3.out _))
               | (go_at_call 26; exact hw'.same (HRK.out _))
               | (go_at_call 24; exact hw'.call (awake09 _))
           clear hK K
           try simp only [Act.put, List.setIfInBounds_toArray, List.set_cons_zero, List.set_cons_succ]))
      refine wpQuiet_nil ?_
      intro w5 hc
      have HB := Lib.hid (HB.out.trans (hc.below.mono HB.out.size))
      have s1 := hc.cell s1
      have e0 := hc.cell e0
      have e1 := hc.cell e1
      have t0 := hc.cell t0
      have t1 := hc.cell t1
      have t2 := hc.cell t2
      clear hc
      go_wp2
      go_ret
      exact ⟨rfl, HB.out⟩
    · obtain ⟨h1, h2, h3⟩ := hst ht
      have z4 : decide (nx > tk) = true := by simp; omega
      have z4' : decide (tk < nx) = true := by simp; omega
      have hw1 : IntKind.i64.wrap (nx - 1) = nm := by rw [IntKind.wrap_i64]; omega
      have hw2 : IntKind.i64.wrap (q0 + 1) = q0 + 1 := by rw [IntKind.wrap_i64]; omega
      have z6 : (q2 == q0) = true := by simpa using h2
      rcases Decidable.em (nx = 1099511627776) with hm | hm
      · have z7 : (nx == 1099511627776) = true := by simpa using hm
        clear hst hsame htb hnb h1 h2 h3 hqb hm ht hnm
        go_wp2_with fail
        refine calm_region (by kernel_rfl) (by kernel_rfl) ?_
        repeat (first
          | go_big_quiet_skip
          | (go_big_quiet_want; rename_i K hK
             apply Exists.intro
             refine ⟨fun w' hw' => ?_, hK _ ?_⟩
             · have f0 := hw'.cell s1
               have f1 := hw'.cell e0
               have f2 := hw'.cell e1
               have f3 := hw'.cell t0
               have f4 := hw'.cell t1
               have f5 := hw'.cell t2
               go_simp
               first
                 | done
                 | with_reducible rfl
                 | (go_at_call_of 22 n0; exact hw'.call (HC0.out _))
                 | (go_at_call_of 22 n1; exact hw'.call (HC1.out _))
                 | (go_at_call_of 20 n0; exact hw'.call (HT0.out _))
                 | (go_at_call_of 20 n1; exact hw'.call (HT1.out _))
                 | (go_at_call_of 20 nm; exact hw'.call (HT2.out _))
                 | (go_at_call_of 20 nx; exact hw'.call (HT3.out _))
                 | (go_at_call 26; exact hw'.same (HRK.out _))
                 | (go_at_call 24; exact hw'.call (awake09 _))
             clear hK K
             try simp only [Act.put, List.setIfInBounds_toArray, List.set_cons_zero, List.set_cons_succ]))
        refine wpQuiet_nil ?_
        intro w5 hc
        have HB := Lib.hid (HB.out.trans (hc.below.mono HB.out.size))
        have s1 := hc.cell s1
        have e0 := hc.cell e0
        have e1 := hc.cell e1
        have t0 := hc.cell t0
        have t1 := hc.cell t1
        have t2 := hc.cell t2
        clear hc
        go_wp2
        go_ret
        exact ⟨rfl, HB.out⟩
      · have z7 : (nx == 1099511627776) = false := by simpa using hm
        have z8 : (q3 == q0 + 1) = true := by simpa using h3 hm
        clear hst hsame htb hnb h1 h2 h3 hqb hm ht hnm
        go_wp2_with fail
        refine calm_region (by kernel_rfl) (by kernel_rfl) ?_
        repeat (first
          | go_big_quiet_skip
          | (go_big_quiet_want; rename_i K hK
             apply Exists.intro
             refine ⟨fun w' hw' => ?_, hK _ ?_⟩
             · have f0 := hw'.cell s1
               have f1 := hw'.cell e0
               have f2 := hw'.cell e1
               have f3 := hw'.cell t0
               have f4 := hw'.cell t1
               have f5 := hw'.cell t2
               go_simp
               first
                 | done
                 | with_reducible rfl
                 | (go_at_call_of 22 n0; exact hw'.call (HC0.out _))
                 | (go_at_call_of 22 n1; exact hw'.call (HC1.out _))
                 | (go_at_call_of 20 n0; exact hw'.call (HT0.out _))
                 | (go_at_call_of 20 n1; exact hw'.call (HT1.out _))
                 | (go_at_call_of 20 nm; exact hw'.call (HT2.out _))
                 | (go_at_call_of 20 nx; exact hw'.call (HT3.out _))
                 | (go_at_call 26; exact hw'.same (HRK.out _))
                 | (go_at_call 24; exact hw'.call (awake09 _))
             clear hK K
             try simp only [Act.put, List.setIfInBounds_toArray, List.set_cons_zero, List.set_cons_succ]))
        refine wpQuiet_nil ?_
        intro w5 hc
        have HB := Lib.hid (HB.out.trans (hc.below.mono HB.out.size))
        have s1 := hc.cell s1
        have e0 := hc.cell e0
        have e1 := hc.cell e1
        have t0 := hc.cell t0
        have t1 := hc.cell t1
        have t2 := hc.cell t2
        clear hc
        go_wp2
        go_ret
        exact ⟨rfl, HB.out⟩
end Go.Proofs.Ytheggklmkgffaaa
