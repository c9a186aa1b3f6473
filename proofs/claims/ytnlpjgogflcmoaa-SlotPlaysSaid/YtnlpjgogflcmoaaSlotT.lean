/- The walk of SlotPlays. Condition: the arguments fit their types. -/
import Derived.Test.YtnlpjgogflcmoaaSlotSnn
import Derived.Test.YtnlpjgogflcmoaaSlotSns
import Derived.Test.YtnlpjgogflcmoaaSlotSsn
import Derived.Test.YtnlpjgogflcmoaaSlotSss
import Derived.Deep.CutBlock
namespace Go.Proofs.Ytnlpjgogflcmoaa
open Go.RowKit Go.Lk

set_option maxRecDepth 100000 in
set_option maxHeartbeats 8000000 in
theorem playsWalk (workers : Int) (A0 : Option Addr) (c0 : Nat) (acts : List (Int × Int × It)) (l : Nat) (hl : acts.length = l) (hl3 : l ≤ 9223372036854775807) (w : World) (ha : Sl w w.heap.size A0 (acts9 acts)) :
    Calls Try.prog 4 #[.int .i64 workers, .slice A0 l c0] w fun e w' => e = .returned (.bool true) ∧ Below w.heap.size w w' := by
  have HN := Lib.hid hl
  have HA := Lib.hid ha
  clear ha hl
  by_cases hm : l ≤ 100
  · have hm' : ¬ 100 < l := by omega
    by_cases hw0 : workers < 1 ∨ 16 < workers
    · have HNew := Lib.hid (new_bad w workers hw0)
      rcases hw0 with hw0 | hw0
      · go_enter Try.func4, Try.ntmps4
        go_wp2_with fail
        refine HNew.out.mono ?_
        rintro e w1 ⟨rfl, hw1⟩
        subst hw1
        go_wp2_with fail
        refine (awake31 _).mono ?_
        rintro e w1 ⟨rfl, hB⟩
        go_wp2
        go_ret
        exact ⟨rfl, hB⟩
      · have hw2 : ¬ workers < 1 := by omega
        go_enter Try.func4, Try.ntmps4
        go_wp2_with fail
        refine HNew.out.mono ?_
        rintro e w1 ⟨rfl, hw1⟩
        subst hw1
        go_wp2_with fail
        refine (awake31 _).mono ?_
        rintro e w1 ⟨rfl, hB⟩
        go_wp2
        go_ret
        exact ⟨rfl, hB⟩
    · obtain ⟨n, rfl⟩ : ∃ n : Nat, workers = (n : Int) := ⟨workers.toNat, by omega⟩
      have hn1 : 1 ≤ n := by omega
      have hn16 : n ≤ 16 := by omega
      have hd1 : decide (n < 1) = false := by simp; omega
      have hd2 : decide (16 < n) = false := by simp; omega
      have hd3 : decide ((n : Int) < 1) = false := by simp; omega
      have hd4 : decide ((16 : Int) < (n : Int)) = false := by simp; omega
      clear hw0
      go_enter Try.func4, Try.ntmps4
      go_wp2_with fail
      refine (q_new w n hn1 hn16).mono ?_
      rintro e w1 ⟨bs, rfl, hS1, hbs, hB1⟩
      have hmk := make8 n hn16 w1
      have FIN0 : Hid (SB w bs n (.slice (some ⟨w1.heap.size, 0, none⟩) n n) (w1.alloc (.cells (sc (List.replicate n none)).toArray 53))) :=
        ⟨_, _, n, rfl, hS1.below ((Below.refl _ _).alloc (Nat.le_refl _) _), Rw.made n hn16 w1, by have := hS1.lt; omega, hbs, hB1.alloc hB1.size _⟩
      clear hS1 hB1
      go_wp2_with fail
      clear hmk hd1 hd2 hd3 hd4
      generalize w1.alloc (.cells (sc (List.replicate n none)).toArray 53) = w1' at *
      go_loopw [7, 8] (fun sv i wr => ∃ k : Nat, k ≤ l ∧ i = .int .i64 k ∧ SB w bs n sv wr) (fun _ i _ => l - (intOf i).toNat)
      case atStart => exact ⟨0, by omega, rfl, FIN0.out⟩
      case round =>
        obtain ⟨k, hk, rfl, hR⟩ := hrel
        by_cases hlt : k < l
        · have hk' : k < acts.length := by rw [HN.out]; exact hlt
          obtain ⟨⟨kd, now, x⟩, hp⟩ : ∃ p, acts[k]? = some p := ⟨_, List.getElem?_eq_getElem hk'⟩
          have hc := acts9_at acts k kd now x hp
          obtain ⟨b, o, rfl, hab, hcell⟩ := HA.out.plain (by rw [acts9_length]; omega)
          obtain ⟨qs, g, cg, rfl, hS, hRw, hgb, hlo, hB⟩ := hR
          have cc : ∀ i, i < 9 → ∀ v, (acells kd now x)[i]? = some v → wr.cell? ⟨b, o + k * 9 + i, none⟩ = some v := by
            intro i hi v hv
            rw [hB.cell (p := ⟨b, o + k * 9 + i, none⟩) hab, Nat.add_assoc]
            exact hcell _ _ ((hc i hi).trans hv)
          have d0 : wr.cell? ⟨b, o + k * 9, none⟩ = some (.int .i64 kd) := cc 0 (by omega) _ rfl
          have d1 := cc 1 (by omega) _ rfl
          have d2 := cc 2 (by omega) _ rfl
          have d3 := cc 3 (by omega) _ rfl
          have d4 := cc 4 (by omega) _ rfl
          have d5 := cc 5 (by omega) _ rfl
          have d6 := cc 6 (by omega) _ rfl
          have d7 := cc 7 (by omega) _ rfl
          have d8 := cc 8 (by omega) _ rfl
          have hO : Sp w (wr.alloc (.cells (acells kd now x).toArray 31)) bs n qs qs g wr.heap.size kd now x :=
            ⟨⟨hS.below ((Below.refl _ _).alloc (Nat.le_refl _) _), hlo, hB.alloc hB.size _, heap_alloc_new wr _, by have := hS.lt; omega⟩, hRw.al _, hgb⟩
          have HO := Lib.hid hO
          clear cc hp hc hcell hS hB hO hRw
          unfold acells at HO
          go_upto_block 2 with fail
          generalize wr.alloc (.cells #[.int .i64 kd, .int .i64 now, .int .i64 x.id, .int .i64 x.lv, .int .i64 x.fr, .int .i64 x.dl, .int .i64 x.bu, .int .i64 x.si, .int .i64 x.sq] 31) = wa at *
          generalize wr.heap.size = ba at *
          clear d0 d1 d2 d3 d4 d5 d6 d7 d8
          obtain ⟨a0, a1, a2, a3, a4, a5, a6, a7, a8⟩ := HO.out.on.cells
          go_cut [7] from 54 to 241 (fun sv wx => ∃ qx gx cx, sv = .slice (some ⟨gx, 0, none⟩) n cx ∧ Sp w wx bs n qx qx gx ba kd now x)
          case first =>
            as_aux_lemma =>
              by_cases hk0 : kd = 0
              · subst hk0
                have HP := Lib.hid (r_put wa g n cg qs HO.out.row x)
                have HP2 := Lib.hid (fun W (h : Sq W bs n qs) => q_put bs n qs W h x)
                generalize putR qs x = pr at *
                obtain ⟨pq, pk, pe⟩ := pr
                unfold It.arr at HP HP2
                go_wp2_with fail
                refine HP.out.mono ?_
                rintro e w2 ⟨g2, c2, rfl, hR2, hg2, hB2⟩
                have HX := Lib.hid (HO.out.ref hR2 hg2 hB2)
                obtain ⟨a0, a1, a2, a3, a4, a5, a6, a7, a8⟩ := HX.out.on.cells
                clear hR2 hg2 hB2
                go_wp2_with fail
                refine (HP2.out _ HX.out.on.sq).mono ?_
                rintro e w3 ⟨rfl, hS3, hO3⟩
                have HX3 := Lib.hid (HX.out.slot hS3 hO3)
                clear hS3 hO3 a0 a1 a2 a3 a4 a5 a6 a7 a8
                go_wp2_with fail
                go_meet
                exact ⟨_, _, _, rfl, HX3.out⟩
              · have hk0b : (kd == 0) = false := by rw [beq_eq_false_iff_ne]; exact hk0
                clear hk0
                by_cases hk1 : kd = 1
                · subst hk1
                  have HP := Lib.hid (r_take wa g n cg qs HO.out.row x.id)
                  have HP2 := Lib.hid (fun W (h : Sq W bs n qs) => q_take bs n qs W h x.id)
                  generalize takeR qs x.id = pr at *
                  obtain ⟨pq, py, pe⟩ := pr
                  unfold It.arr at HP HP2
                  go_wp2_with fail
                  refine HP.out.mono ?_
                  rintro e w2 ⟨g2, c2, rfl, hR2, hg2, hB2⟩
                  have HX := Lib.hid ((HO.out.ref hR2 hg2 hB2).calm ((Below.refl _ _).alloc (Nat.le_refl _) (.cells py.arr 29)))
                  obtain ⟨a0, a1, a2, a3, a4, a5, a6, a7, a8⟩ := HX.out.on.cells
                  have y1 := heap_alloc_new w2 (.cells py.arr 29)
                  have hb2 : w2.heap.size ≠ bs := by have := (HO.out.ref hR2 hg2 hB2).on.sq.lt; omega
                  have HY1 := Lib.hid y1
                  clear hR2 hg2 hB2 y1
                  unfold It.arr at *
                  go_wp2_with fail
                  generalize w2.alloc (.cells #[.int .i64 py.id, .int .i64 py.lv, .int .i64 py.fr, .int .i64 py.dl, .int .i64 py.bu, .int .i64 py.si, .int .i64 py.sq] 29) = w2' at *
                  generalize w2.heap.size = b2 at *
                  refine (HP2.out _ HX.out.on.sq).mono ?_
                  rintro e w3 ⟨rfl, hS3, hO3⟩
                  have HX3 := Lib.hid ((HX.out.slot hS3 hO3).calm ((Below.refl _ _).alloc (Nat.le_refl _) (.cells py.arr 29)))
                  have hy3 : w3.heap[b2]? = some (.cells py.arr 29 (0, 0)) := (hO3.block b2 (heap_lt HY1.out) (by simp; omega)).trans HY1.out
                  have hy4 : (w3.alloc (.cells py.arr 29)).heap[b2]? = some (.cells py.arr 29 (0, 0)) := (Below.heap_alloc _ _ _ (heap_lt hy3)).trans hy3
                  obtain ⟨y0, y1, y2, y3, y4, y5, y6⟩ := It.cell py hy4
                  obtain ⟨z0, z1, z2, z3, z4, z5, z6⟩ := It.cell py (heap_alloc_new w3 (.cells py.arr 29))
                  clear hS3 hO3 a0 a1 a2 a3 a4 a5 a6 a7 a8 hy3 hy4
                  unfold It.arr at *
                  go_wp2_with fail
                  go_meet
                  exact ⟨_, _, _, rfl, HX3.out⟩
                · have hk1b : (kd == 1) = false := by rw [beq_eq_false_iff_ne]; exact hk1
                  clear hk1
                  by_cases hk2 : kd = 2
                  · subst hk2
                    have HP := Lib.hid (r_late wa g n cg qs HO.out.row now)
                    have HP2 := Lib.hid (fun W (h : Sq W bs n qs) => q_late bs n qs W h now)
                    have hle : (due now (itq qs)).length ≤ 16 := by have h1 := due_le now (itq qs); have h2 := itq_le qs; have h3 := HO.out.on.sq.len; omega
                    have HLE := Lib.hid hle
                    clear hle
                    go_wp2_with fail
                    refine HP.out.mono ?_
                    rintro e w2 ⟨g2, c2, u2, rfl, hR2, hg2, hown2, hB2⟩
                    have HX := Lib.hid (HO.out.ref hR2 hg2 hB2)
                    have HU2 := Lib.hid hown2
                    have HBS := Lib.hid HO.out.on.sq.lt
                    obtain ⟨a0, a1, a2, a3, a4, a5, a6, a7, a8⟩ := HX.out.on.cells
                    clear hR2 hg2 hB2 hown2
                    go_wp2_with fail
                    refine (HP2.out _ HX.out.on.sq).mono ?_
                    rintro e w3 ⟨u3, rfl, hown3, hS3, hO3⟩
                    have HX3 := Lib.hid (HX.out.slot hS3 hO3)
                    have HU3 := Lib.hid hown3
                    have HU23 := Lib.hid (hO3.own HU2.out (fun j hj => by have h1 := (HU2.out.lt j hj).1; have h2 := HBS.out; simp; omega))
                    clear hS3 hO3 hown3 a0 a1 a2 a3 a4 a5 a6 a7 a8
                    go_wp2_with fail
                    refine (same_below w3 _ _ u3 u2 _ HLE.out HU3.out HU23.out).mono ?_
                    rintro e w4 ⟨rfl, hB4⟩
                    have HX4 := Lib.hid (HX3.out.calm hB4)
                    clear hB4
                    go_wp2_with fail
                    go_meet
                    exact ⟨_, _, _, rfl, HX4.out⟩
                  · have hk2b : (kd == 2) = false := by rw [beq_eq_false_iff_ne]; exact hk2
                    clear hk2
                    by_cases hk3 : kd = 3
                    · subst hk3
                      have HP := Lib.hid (q_clear bs n qs wa HO.out.on.sq)
                      go_wp2_with fail
                      refine HP.out.mono ?_
                      rintro e w2 ⟨rfl, hS2, hO2⟩
                      have HX := Lib.hid ((HO.out.slot hS2 hO2).ref (Rw.made n hn16 w2) (.inr (Nat.le_refl _)) ((Below.refl _ _).alloc (Nat.le_refl _) _))
                      have hmk := make8 n hn16 w2
                      clear hS2 hO2
                      go_wp2_with fail
                      go_meet
                      exact ⟨_, _, _, rfl, HX.out⟩
                    · have hk3b : (kd == 3) = false := by rw [beq_eq_false_iff_ne]; exact hk3
                      clear hk3
                      go_wp2_with fail
                      go_meet
                      exact ⟨_, _, _, rfl, HO.out⟩
          case rest =>
            obtain ⟨qx, gx, cx, rfl, hX⟩ := hcut
            have HX := Lib.hid hX
            clear hX HO a0 a1 a2 a3 a4 a5 a6 a7 a8
            generalize wc = w2 at *
            have HLE : Hid ((itq qx).length ≤ 16) := by have h2 := itq_le qx; have h3 := HX.out.on.sq.len; show _ ≤ _; omega
            obtain ⟨a0, a1, a2, a3, a4, a5, a6, a7, a8⟩ := HX.out.on.cells
            have HPl := Lib.hid (r_place w2 gx n cx qx HX.out.row x.id)
            have HPq := Lib.hid (q_place bs n qx w2 HX.out.on.sq x.id)
            have HAt := Lib.hid (q_at bs n qx w2 HX.out.on.sq now)
            generalize placeR qx x.id = pl at *
            obtain ⟨oo, hoo⟩ : ∃ oo, atR qx now = oo := ⟨_, rfl⟩
            obtain ⟨y, hy⟩ : ∃ y, oo.getD It.zero = y := ⟨_, rfl⟩
            rw [hoo, hy] at HAt
            have HOO := Lib.hid hoo
            have HYY := Lib.hid hy
            clear hoo hy
            unfold It.arr at HAt
            go_wp2_with fail
            refine HPl.out.mono ?_
            rintro e w3 ⟨rfl, hw3⟩
            subst hw3
            go_wp2_with fail
            refine HPq.out.mono ?_
            rintro e w3 ⟨rfl, hw3⟩
            subst hw3
            go_wp2_with fail
            refine HAt.out.mono ?_
            rintro e w3 ⟨rfl, hB3⟩
            have HX4 := Lib.hid ((HX.out.calm hB3).calm ((Below.refl _ _).alloc (Nat.le_refl _) (.cells y.arr 29)))
            have HY := Lib.hid (heap_alloc_new w3 (.cells y.arr 29))
            clear hB3 a0 a1 a2 a3 a4 a5 a6 a7 a8
            obtain ⟨a0, a1, _⟩ := HX4.out.on.cells
            unfold It.arr at *
            go_upto_region 35 with fail
            generalize w3.alloc (.cells #[.int .i64 y.id, .int .i64 y.lv, .int .i64 y.fr, .int .i64 y.dl, .int .i64 y.bu, .int .i64 y.si, .int .i64 y.sq] 29) = w4 at *
            generalize w3.heap.size = b25 at *
            have HL4 := Lib.hid HX4.out.row.len
            go_cut [27] from 163 to 179 (fun v wx => v = .bool oo.isSome ∧ w4 = wx)
            case first =>
              as_aux_lemma =>
                by_cases hn0 : now < 0
                · have hno : oo = none := by have := HOO.out; unfold atR at this; rw [if_neg (by omega)] at this; exact this.symm
                  have hd0 : decide (0 ≤ now) = false := by simp; omega
                  have hd1 : ¬ 0 ≤ now := by omega
                  have HNO := Lib.hid hno
                  clear hno
                  go_wp2_with fail
                  go_meet
                  exact ⟨by rw [HNO.out]; rfl, rfl⟩
                · obtain ⟨q, rfl⟩ := Int.eq_ofNat_of_zero_le (show 0 ≤ now by omega)
                  by_cases hqn : q < n
                  · have hd0 : decide ((0 : Int) ≤ (q : Int)) = true := by simp
                    have hd2 : decide ((q : Int) < (n : Int)) = true := by simp; omega
                    have hd3 : (q : Int) < (n : Int) := by omega
                    obtain ⟨o, ho⟩ := HX4.out.row.get hqn
                    have hoo : oo = o := by have := HOO.out; unfold atR at this; rw [if_pos (by omega), Int.toNat_natCast, ho] at this; exact this.symm
                    cases o with
                    | none =>
                      obtain ⟨c0, _⟩ := HX4.out.row.none_ ho
                      have HNO := Lib.hid hoo
                      clear hoo ho
                      go_wp2_with fail
                      go_meet
                      exact ⟨by rw [HNO.out]; rfl, rfl⟩
                    | some z =>
                      obtain ⟨c0, _⟩ := HX4.out.row.some_ ho
                      have HNO := Lib.hid hoo
                      clear hoo ho
                      go_wp2_with fail
                      go_meet
                      exact ⟨by rw [HNO.out]; rfl, rfl⟩
                  · have hno : oo = none := by have := HOO.out; unfold atR at this; rw [if_pos (by omega), List.getElem?_eq_none (by rw [HL4.out, Int.toNat_natCast]; omega)] at this; exact this.symm
                    have hd0 : decide ((0 : Int) ≤ (q : Int)) = true := by simp
                    have hd2 : decide ((q : Int) < (n : Int)) = false := by simp; omega
                    have hd3 : ¬ (q : Int) < (n : Int) := by omega
                    have HNO := Lib.hid hno
                    clear hno
                    go_wp2_with fail
                    go_meet
                    exact ⟨by rw [HNO.out]; rfl, rfl⟩
            case rest =>
              obtain ⟨rfl, rfl⟩ := hcut
              clear a0 a1 HPl HPq HAt HX
              go_upto_region 36 with fail
              as_aux_lemma =>
                cases oo with
                | none =>
                  have hyz := HYY.out
                  simp only [Option.getD_none] at hyz
                  subst hyz
                  have HY2 : Hid (w4.heap[b25]? = some (.cells It.zero.arr 29 (0, 0))) := HY.out
                  cases pl with
                  | none =>
                    refine reg36nn w w4 bs n gx cx ba b25 qx kd now x HX4.out HY2.out _ _ (fun _ _ _ _ _ h => h) _ _ _ _ _ _ _ _ _ _ _ _ _ _ _ _ _ _ _ _ _ _ _ _ _ _ _ _ _ _ _ _ _ _ _ _ _ _ _ _ _ _ _ _ _ _ _ _ _ _ _ _ _ _ _ _ _ _ _ _ _ _ _ _ _ _ _ _ _ _ _ _ _ _ _ _ _ _ _ _ _ _ _ _ _ _ _ _ _ _ _ _ _ _ _ _ _ _ _ _ _ _ _ _ _ _ _ _ _ _ _ _ _ _ _ _ _ _ _ _ _ _ _ _ _ _ _ _ _ _ _ _ _ _ _ _ _ _ _ _ _ _ _ _ _ _ _ _ _ _ _ _ _ _ _ _ _ _ _ _ _ _ _ _ _ _ _ _ _ _ _ _ _ _ _ _ _ _ _ _ _ _ _ _ _ _ _ _ _ _ _ _ _ _ _ _ _ _ _ _ _ _ _ _ _ _ _ _ _ _ _ _ _ _ _ _ _ _ _ _ _ _ _ _ _ _ _ _ _ _ _ _ _ _ _ _ _ _ (fun u180 u181 u182 u183 u184 u185 u186 u187 u188 u189 u190 u191 u192 u193 u194 u195 u196 u197 u198 u199 u200 u201 u202 u203 u204 u205 u206 u207 u208 u209 u210 u211 u212 u213 u214 u215 u216 u217 u218 u219 u220 u221 u222 u223 u224 u225 u226 u227 u228 u229 u230 u231 u232 u233 u234 u235 u236 u237 u238 u239 u240 w9 hS9 => ?_) _ rfl
                    have FIN : Hid (SB w bs n (.slice (some ⟨gx, 0, none⟩) n cx) w9) := ⟨qx, gx, cx, rfl, hS9.on.sq, hS9.row, hS9.ne, hS9.on.lo, hS9.on.below⟩
                    clear hS9
                    dsimp only
                    go_wp2_with fail
                    exact ⟨⟨k + 1, by omega, by go_num, FIN.out⟩, by simp [intOf]; omega⟩
                  | some p =>
                    refine reg36ns w w4 bs n gx cx ba b25 p qx kd now x HX4.out HY2.out _ _ (fun _ _ _ _ _ h => h) _ _ _ _ _ _ _ _ _ _ _ _ _ _ _ _ _ _ _ _ _ _ _ _ _ _ _ _ _ _ _ _ _ _ _ _ _ _ _ _ _ _ _ _ _ _ _ _ _ _ _ _ _ _ _ _ _ _ _ _ _ _ _ _ _ _ _ _ _ _ _ _ _ _ _ _ _ _ _ _ _ _ _ _ _ _ _ _ _ _ _ _ _ _ _ _ _ _ _ _ _ _ _ _ _ _ _ _ _ _ _ _ _ _ _ _ _ _ _ _ _ _ _ _ _ _ _ _ _ _ _ _ _ _ _ _ _ _ _ _ _ _ _ _ _ _ _ _ _ _ _ _ _ _ _ _ _ _ _ _ _ _ _ _ _ _ _ _ _ _ _ _ _ _ _ _ _ _ _ _ _ _ _ _ _ _ _ _ _ _ _ _ _ _ _ _ _ _ _ _ _ _ _ _ _ _ _ _ _ _ _ _ _ _ _ _ _ _ _ _ _ _ _ _ _ _ _ _ _ _ _ _ _ _ _ _ _ _ (fun u180 u181 u182 u183 u184 u185 u186 u187 u188 u189 u190 u191 u192 u193 u194 u195 u196 u197 u198 u199 u200 u201 u202 u203 u204 u205 u206 u207 u208 u209 u210 u211 u212 u213 u214 u215 u216 u217 u218 u219 u220 u221 u222 u223 u224 u225 u226 u227 u228 u229 u230 u231 u232 u233 u234 u235 u236 u237 u238 u239 u240 w9 hS9 => ?_) _ rfl
                    have FIN : Hid (SB w bs n (.slice (some ⟨gx, 0, none⟩) n cx) w9) := ⟨qx, gx, cx, rfl, hS9.on.sq, hS9.row, hS9.ne, hS9.on.lo, hS9.on.below⟩
                    clear hS9
                    dsimp only
                    go_wp2_with fail
                    exact ⟨⟨k + 1, by omega, by go_num, FIN.out⟩, by simp [intOf]; omega⟩
                | some z =>
                  have hyz := HYY.out
                  simp only [Option.getD_some] at hyz
                  subst hyz
                  have HY2 : Hid (w4.heap[b25]? = some (.cells z.arr 29 (0, 0))) := HY.out
                  obtain ⟨q, hqe, hq⟩ : ∃ q : Nat, now = (q : Int) ∧ qx[q]? = some (some z) := by
                    have h1 := HOO.out
                    unfold atR at h1
                    split at h1
                    · rename_i h0
                      obtain ⟨q, rfl⟩ := Int.eq_ofNat_of_zero_le h0
                      rw [Int.toNat_natCast] at h1
                      refine ⟨q, rfl, ?_⟩
                      cases h2 : qx[q]? with
                      | none => rw [h2] at h1; cases h1
                      | some o => rw [h2] at h1; simp at h1; rw [h1]
                    · cases h1
                  subst hqe
                  have hqn : q < n := by have h2 := (List.getElem?_eq_some_iff.1 hq).1; have h3 := HL4.out; omega
                  have HQ := Lib.hid hq
                  clear hq
                  cases pl with
                  | none =>
                    refine reg36sn w w4 bs n gx cx ba b25 q qx kd x z HX4.out HY2.out HQ.out hqn _ _ (fun _ _ _ _ _ h => h) _ _ _ _ _ _ _ _ _ _ _ _ _ _ _ _ _ _ _ _ _ _ _ _ _ _ _ _ _ _ _ _ _ _ _ _ _ _ _ _ _ _ _ _ _ _ _ _ _ _ _ _ _ _ _ _ _ _ _ _ _ _ _ _ _ _ _ _ _ _ _ _ _ _ _ _ _ _ _ _ _ _ _ _ _ _ _ _ _ _ _ _ _ _ _ _ _ _ _ _ _ _ _ _ _ _ _ _ _ _ _ _ _ _ _ _ _ _ _ _ _ _ _ _ _ _ _ _ _ _ _ _ _ _ _ _ _ _ _ _ _ _ _ _ _ _ _ _ _ _ _ _ _ _ _ _ _ _ _ _ _ _ _ _ _ _ _ _ _ _ _ _ _ _ _ _ _ _ _ _ _ _ _ _ _ _ _ _ _ _ _ _ _ _ _ _ _ _ _ _ _ _ _ _ _ _ _ _ _ _ _ _ _ _ _ _ _ _ _ _ _ _ _ _ _ _ _ _ _ _ _ _ _ _ _ _ _ _ (fun u180 u181 u182 u183 u184 u185 u186 u187 u188 u189 u190 u191 u192 u193 u194 u195 u196 u197 u198 u199 u200 u201 u202 u203 u204 u205 u206 u207 u208 u209 u210 u211 u212 u213 u214 u215 u216 u217 u218 u219 u220 u221 u222 u223 u224 u225 u226 u227 u228 u229 u230 u231 u232 u233 u234 u235 u236 u237 u238 u239 u240 w9 hS9 => ?_) _ rfl
                    have FIN : Hid (SB w bs n (.slice (some ⟨gx, 0, none⟩) n cx) w9) := ⟨qx, gx, cx, rfl, hS9.on.sq, hS9.row, hS9.ne, hS9.on.lo, hS9.on.below⟩
                    clear hS9
                    dsimp only
                    go_wp2_with fail
                    exact ⟨⟨k + 1, by omega, by go_num, FIN.out⟩, by simp [intOf]; omega⟩
                  | some p =>
                    refine reg36ss w w4 bs n gx cx ba b25 q p qx kd x z HX4.out HY2.out HQ.out hqn _ _ (fun _ _ _ _ _ h => h) _ _ _ _ _ _ _ _ _ _ _ _ _ _ _ _ _ _ _ _ _ _ _ _ _ _ _ _ _ _ _ _ _ _ _ _ _ _ _ _ _ _ _ _ _ _ _ _ _ _ _ _ _ _ _ _ _ _ _ _ _ _ _ _ _ _ _ _ _ _ _ _ _ _ _ _ _ _ _ _ _ _ _ _ _ _ _ _ _ _ _ _ _ _ _ _ _ _ _ _ _ _ _ _ _ _ _ _ _ _ _ _ _ _ _ _ _ _ _ _ _ _ _ _ _ _ _ _ _ _ _ _ _ _ _ _ _ _ _ _ _ _ _ _ _ _ _ _ _ _ _ _ _ _ _ _ _ _ _ _ _ _ _ _ _ _ _ _ _ _ _ _ _ _ _ _ _ _ _ _ _ _ _ _ _ _ _ _ _ _ _ _ _ _ _ _ _ _ _ _ _ _ _ _ _ _ _ _ _ _ _ _ _ _ _ _ _ _ _ _ _ _ _ _ _ _ _ _ _ _ _ _ _ _ _ _ _ _ (fun u180 u181 u182 u183 u184 u185 u186 u187 u188 u189 u190 u191 u192 u193 u194 u195 u196 u197 u198 u199 u200 u201 u202 u203 u204 u205 u206 u207 u208 u209 u210 u211 u212 u213 u214 u215 u216 u217 u218 u219 u220 u221 u222 u223 u224 u225 u226 u227 u228 u229 u230 u231 u232 u233 u234 u235 u236 u237 u238 u239 u240 w9 hS9 => ?_) _ rfl
                    have FIN : Hid (SB w bs n (.slice (some ⟨gx, 0, none⟩) n cx) w9) := ⟨qx, gx, cx, rfl, hS9.on.sq, hS9.row, hS9.ne, hS9.on.lo, hS9.on.below⟩
                    clear hS9
                    dsimp only
                    go_wp2_with fail
                    exact ⟨⟨k + 1, by omega, by go_num, FIN.out⟩, by simp [intOf]; omega⟩
        · have : k = l := by omega
          subst this
          obtain ⟨qs, g, cg, rfl, hS, hRw, hgb, hlo, hB⟩ := hR
          have HB := Lib.hid hB
          clear hS hRw hgb hlo hB
          go_wp2_with fail
          refine (awake31 _).mono ?_
          rintro e w4 ⟨rfl, hB4⟩
          have HB4 := Lib.hid (HB.out.trans (hB4.mono HB.out.size))
          clear hB4
          go_wp2
          go_ret
          exact ⟨rfl, HB4.out⟩
  · go_enter Try.func4, Try.ntmps4
    go_wp2_with fail
    refine (awake31 _).mono ?_
    rintro e w1 ⟨rfl, hB⟩
    go_wp2
    go_ret
    exact ⟨rfl, hB⟩
end Go.Proofs.Ytnlpjgogflcmoaa
