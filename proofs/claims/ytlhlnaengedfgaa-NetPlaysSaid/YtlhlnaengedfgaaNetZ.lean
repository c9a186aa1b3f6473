/- The walk of NetPlays. Condition: the arguments fit their types. -/
import Derived.Test.YtlhlnaengedfgaaNetY
import Derived.Deep.CutBlock
namespace Go.Proofs.Ytlhlnaengedfgaa
open Go.RowKit Go.Lk

set_option maxRecDepth 100000 in
set_option maxHeartbeats 8000000 in
theorem netPlaysWalk (services : Int) (A0 : Option Addr) (c0 : Nat) (acts : List Act5) (l : Nat) (hl : acts.length = l) (hl3 : l ≤ 9223372036854775807) (w : World) (ha : Sl w w.heap.size A0 (acts5 acts)) :
    Calls Try.prog 6 #[.int .i64 services, .slice A0 l c0] w fun e w' => e = .returned (.bool true) ∧ Below w.heap.size w w' := by
  have HN := Lib.hid hl
  have HA := Lib.hid ha
  have HF := Lib.hid (few37 A0 c0 acts l hl hl3 w ha)
  clear ha hl
  go_enter Try.func6, Try.ntmps6
  go_wp2_with fail
  refine HF.out.mono ?_
  rintro e w1 ⟨⟨b, rfl, hb⟩, hw⟩
  subst hw
  cases b with
  | false =>
    clear hb
    go_wp2_with fail
    refine (awake37 _).mono ?_
    rintro e w1 ⟨rfl, hB⟩
    go_wp2
    go_ret
    exact ⟨rfl, hB⟩
  | true =>
    clear hb
    by_cases hbad : services < 1 ∨ 8 < services
    · have HB := Lib.hid (n_new_bad w services hbad)
      rcases hbad with hbad | hbad
      · go_wp2_with fail
        refine HB.out.mono ?_
        rintro e w1 ⟨rfl, hw⟩
        subst hw
        go_wp2_with fail
        refine (awake37 _).mono ?_
        rintro e w1 ⟨rfl, hB⟩
        go_wp2
        go_ret
        exact ⟨rfl, hB⟩
      · have hbad1 : ¬ services < 1 := by omega
        go_wp2_with fail
        refine HB.out.mono ?_
        rintro e w1 ⟨rfl, hw⟩
        subst hw
        go_wp2_with fail
        refine (awake37 _).mono ?_
        rintro e w1 ⟨rfl, hB⟩
        go_wp2
        go_ret
        exact ⟨rfl, hB⟩
    · obtain ⟨sv, rfl⟩ : ∃ sv : Nat, services = (sv : Int) := ⟨services.toNat, by omega⟩
      have hs1 : 1 ≤ sv := by omega
      have hs8 : sv ≤ 8 := by omega
      clear hbad
      have hd1 : decide ((sv : Int) < 1) = false := by simp; omega
      have hd2 : decide (8 < (sv : Int)) = false := by simp; omega
      go_wp2_with fail
      refine (n_new w sv hs1 hs8).mono ?_
      rintro e w1 ⟨bn, rfl, hN1, hbn, hB1⟩
      have HN1 := Lib.hid hN1
      have HB1 := Lib.hid hB1
      clear hN1 hB1
      go_wp2_with fail
      refine (d_new w1 sv hs8).mono ?_
      rintro e w2 ⟨bx, rfl, hD2, hB2⟩
      have FIN0 : Hid (HD w bn bx sv w2) := by
        refine ⟨_, ⟨_, _, HN1.out.bounded.below hB2, hD2.bounded, fun k hk hq => ?_, fun k hk => ?_, fun k hk => ?_⟩, HB1.out.trans (hB2.mono HB1.out.size)⟩
        · have h1 := hk.2; have h2 : w1.heap.size ≤ k := hq.1; omega
        · exact ⟨hk.1, Nat.lt_of_lt_of_le hk.2 hB2.size, fun h => h⟩
        · have h2 : w1.heap.size ≤ k := hk.1; have h3 := HB1.out.size; exact ⟨by omega, hk.2, fun h => h⟩
      clear hD2 hB2 hd1 hd2 HN1 HB1
      go_wp2_with fail
      go_loopw [8] (fun i wr => ∃ k : Nat, k ≤ l ∧ i = .int .i64 k ∧ HD w bn bx sv wr) (fun i _ => l - (intOf i).toNat)
      case atStart => exact ⟨0, by omega, rfl, FIN0.out⟩
      case round =>
        obtain ⟨k, hk, rfl, hR⟩ := hrel
        by_cases hlt : k < l
        · have hk' : k < acts.length := by rw [HN.out]; exact hlt
          obtain ⟨p, hp⟩ : ∃ p, acts[k]? = some p := ⟨_, List.getElem?_eq_getElem hk'⟩
          have hc := acts5_at acts k p hp
          obtain ⟨b, o, rfl, hab, hcell⟩ := HA.out.plain (by rw [acts5_length]; omega)
          obtain ⟨L, hPd, hB⟩ := hR
          have cc : ∀ i, i < 5 → ∀ v, (arow p)[i]? = some v → wr.cell? ⟨b, o + k * 5 + i, none⟩ = some v := by
            intro i hi v hv
            rw [hB.cell (p := ⟨b, o + k * 5 + i, none⟩) hab, Nat.add_assoc]
            exact hcell _ _ ((hc i hi).trans hv)
          have d0 : wr.cell? ⟨b, o + k * 5, none⟩ = some (.int .i64 p.1) := cc 0 (by omega) _ rfl
          have d1 := cc 1 (by omega) _ rfl
          have d2 := cc 2 (by omega) _ rfl
          have d3 := cc 3 (by omega) _ rfl
          have d4 := cc 4 (by omega) _ rfl
          have hO : Ad w (wr.alloc (.cells (arow p).toArray 58)) bn bx wr.heap.size sv L L p := ⟨hPd.made _, heap_alloc_new wr _, hB.alloc hB.size _⟩
          have HO := Lib.hid hO
          clear cc hp hc hcell hPd hB hO
          obtain ⟨kd, af, at_, pl, tx⟩ := p
          unfold arow at HO
          dsimp only at d0 d1 d2 d3 d4 HO
          go_upto_region 11 with fail
          generalize wr.alloc (.cells #[.int .i64 kd, .int .i64 af, .int .i64 at_, .int .i64 pl, .string tx] 58) = wa at *
          generalize wr.heap.size = ba at *
          clear d0 d1 d2 d3 d4
          obtain ⟨a0, a1, a2, a3, a4⟩ := HO.out.cells
          dsimp only at a0 a1 a2 a3 a4
          go_upto_block 2 with fail
          go_cut [] from 53 to 136 (fun wx => ∃ L, Ad w wx bn bx ba sv L L (kd, af, at_, pl, tx))
          case first =>
            by_cases hk0 : kd = 0
            · subst hk0
              have FINI : Hid (∃ L, Ad w wa bn bx ba sv L L (0, af, at_, pl, tx)) := ⟨L, HO.out⟩
              go_wp2_with fail
              go_loopw [10] (fun i wr2 => ∃ q : Nat, q ≤ 70 ∧ i = .int .i64 q ∧ ∃ L, Ad w wr2 bn bx ba sv L L (0, af, at_, pl, tx)) (fun i _ => 70 - (intOf i).toNat)
              case atStart => exact ⟨0, by omega, rfl, FINI.out⟩
              case round =>
                clear a0 a1 a2 a3 a4 HO FINI
                obtain ⟨q, hq, rfl, L2, hA2⟩ := hrel
                have HA2 := Lib.hid hA2
                clear hA2
                obtain ⟨a0, a1, a2, a3, a4⟩ := HA2.out.cells
                dsimp only at a0 a1 a2 a3 a4
                obtain ⟨cb, hcb⟩ : ∃ cb : Bool, decide (q < 70 ∧ (q = 0 ∨ (q : Int) < pl)) = cb := ⟨_, rfl⟩
                have HCB := Lib.hid hcb
                go_upto_region 14 with fail
                go_cut [66] from 55 to 65 (fun v wx => v = .bool cb ∧ wr = wx)
                case first =>
                  by_cases h70 : q < 70
                  · by_cases h0 : q = 0
                    · have e1 : cb = true := by rw [← hcb]; simp [h0]
                      subst h0
                      clear hcb
                      subst e1
                      go_wp2_with fail
                      go_meet
                      exact ⟨rfl, rfl⟩
                    · have h0b : ((q : Int) == 0) = false := by rw [beq_eq_false_iff_ne]; omega
                      by_cases hpl : (q : Int) < pl
                      · have e1 : cb = true := by rw [← hcb]; simp [h70, hpl]
                        have hd1 : decide ((q : Int) < 70) = true := by simp; omega
                        have hd2 : decide ((q : Int) < pl) = true := by simp; omega
                        clear hcb h0
                        subst e1
                        go_wp2_with fail
                        go_meet
                        exact ⟨rfl, rfl⟩
                      · have e1 : cb = false := by rw [← hcb]; simp [h0, hpl]
                        have hd1 : decide ((q : Int) < 70) = true := by simp; omega
                        clear hcb h0
                        subst e1
                        go_wp2_with fail
                        go_meet
                        exact ⟨rfl, rfl⟩
                  · have e1 : cb = false := by rw [← hcb]; simp [h70]
                    have hd1 : decide ((q : Int) < 70) = false := by simp; omega
                    clear hcb
                    subst e1
                    go_wp2_with fail
                    go_meet
                    exact ⟨rfl, rfl⟩
                case rest =>
                  obtain ⟨rfl, rfl⟩ := hcut
                  clear hcb
                  cases cb with
                  | true =>
                    have hq70 : q < 70 := (of_decide_eq_true HCB.out).1
                    obtain ⟨ev, hev⟩ : ∃ ev, (putN sv L2 af at_ tx).2 = ev := ⟨_, rfl⟩
                    obtain ⟨L3, hL3⟩ : ∃ L3, (putN sv L2 af at_ tx).1 = L3 := ⟨_, rfl⟩
                    have HP : Hid (∀ W, Ad w W bn bx ba sv L2 L2 (0, af, at_, pl, tx) → Calls Try.prog 26 #[.pointer (some ⟨bn, 0, none⟩), .int .i64 af, .int .i64 at_, .string tx] W fun e w' => e = .returned (.int .i64 ev) ∧ Ad w w' bn bx ba sv L3 L2 (0, af, at_, pl, tx)) := fun W h =>
                      h.n (Z := fun e => e = .returned (.int .i64 ev)) fun P h => by have h1 := n_put W bn sv L2 h af at_ tx; rwa [hev, hL3] at h1
                    have HQ : Hid (∀ W, Ad w W bn bx ba sv L3 L2 (0, af, at_, pl, tx) → Calls Try.prog 27 #[.pointer (some ⟨bx, 0, none⟩), .int .i64 af, .int .i64 at_, .string tx] W fun e w' => e = .returned (.int .i64 ev) ∧ Ad w w' bn bx ba sv L3 L3 (0, af, at_, pl, tx)) := fun W h =>
                      h.d (Z := fun e => e = .returned (.int .i64 ev)) fun gr U Q h => by have h1 := d_put W bx gr sv U L2 h af at_ tx; rwa [hev, hL3] at h1
                    have Sc : Hid (∀ W L L', Ad w W bn bx ba sv L L' (0, af, at_, pl, tx) → W.cell? ⟨ba, 1, none⟩ = some (.int .i64 af) ∧ W.cell? ⟨ba, 2, none⟩ = some (.int .i64 at_) ∧ W.cell? ⟨ba, 4, none⟩ = some (.string tx)) := fun W _ _ h => ⟨h.cells.2.1, h.cells.2.2.1, h.cells.2.2.2.2⟩
                    have HAd : Hid (Ad w wr.drew bn bx ba sv L2 L2 (0, af, at_, pl, tx)) := HA2.out.calm (Below.refl _ _).drew
                    have hS := Sc.out _ _ _ HA2.out
                    clear hev hL3 HCB a0 a1 a2 a3 a4
                    go_wp2_with fail
                    go_region_held3 (fun W => W.cell? ⟨ba, 1, none⟩ = some (.int .i64 af) ∧ W.cell? ⟨ba, 2, none⟩ = some (.int .i64 at_) ∧ W.cell? ⟨ba, 4, none⟩ = some (.string tx))
                      (first | (exact Sc.out _ _ _ HA4.out) | (exact Sc.out _ _ _ HA3.out) | go_keep)
                      (first
                        | (go_at_call 26; refine (HP.out _ HAd.out).mono ?_; rintro e w3 ⟨rfl, hA3⟩; have HA3 := Lib.hid hA3; clear hA3)
                        | (go_at_call 27; refine (HQ.out _ HA3.out).mono ?_; rintro e w4 ⟨rfl, hA4⟩; have HA4 := Lib.hid hA4; clear hA4))
                    go_wp2_with fail
                    exact ⟨⟨q + 1, by omega, by go_num, _, HA4.out⟩, by simp [intOf]; omega⟩
                  | false =>
                    go_wp2_with fail
                    go_meet
                    exact ⟨_, HA2.out⟩
            · have hk0b : (kd == 0) = false := by rw [beq_eq_false_iff_ne]; exact hk0
              clear hk0
              by_cases hk1 : kd = 1
              · subst hk1
                obtain ⟨sx, hsx⟩ : ∃ sx, (takeN sv L af at_ pl).2.1 = sx := ⟨_, rfl⟩
                obtain ⟨ev, hev⟩ : ∃ ev, (takeN sv L af at_ pl).2.2 = ev := ⟨_, rfl⟩
                obtain ⟨L3, hL3⟩ : ∃ L3, (takeN sv L af at_ pl).1 = L3 := ⟨_, rfl⟩
                have HP := Lib.hid (HO.out.n (Z := fun e => e = .returned (.tuple #[.string sx, .int .i64 ev])) (L' := L3) fun P h => by have h1 := n_take wa bn sv L h af at_ pl; rwa [hsx, hev, hL3] at h1)
                have HQ : Hid (∀ W, Ad w W bn bx ba sv L3 L (1, af, at_, pl, tx) → Calls Try.prog 29 #[.pointer (some ⟨bx, 0, none⟩), .int .i64 af, .int .i64 at_, .int .i64 pl] W fun e w' => e = .returned (.tuple #[.string sx, .int .i64 ev]) ∧ Ad w w' bn bx ba sv L3 L3 (1, af, at_, pl, tx)) := fun W h =>
                  h.d (Z := fun e => e = .returned (.tuple #[.string sx, .int .i64 ev])) fun gr U Q h => by have h1 := d_take W bx gr sv U L h af at_ pl; rwa [hsx, hev, hL3] at h1
                clear hsx hev hL3
                go_wp2_with fail
                refine HP.out.mono ?_
                rintro e w3 ⟨rfl, hA3⟩
                have HA3 := Lib.hid hA3
                obtain ⟨a0, a1, a2, a3, a4⟩ := hA3.cells
                dsimp only at a0 a1 a2 a3 a4
                clear hA3
                go_wp2_with fail
                refine (HQ.out _ HA3.out).mono ?_
                rintro e w4 ⟨rfl, hA4⟩
                have HA4 := Lib.hid hA4
                clear hA4
                go_wp2_with fail
                go_meet
                exact ⟨_, HA4.out⟩
              · have hk1b : (kd == 1) = false := by rw [beq_eq_false_iff_ne]; exact hk1
                clear hk1
                by_cases hk2 : kd = 2
                · subst hk2
                  obtain ⟨ev, hev⟩ : ∃ ev, (twinN sv L af at_ pl).2 = ev := ⟨_, rfl⟩
                  obtain ⟨L3, hL3⟩ : ∃ L3, (twinN sv L af at_ pl).1 = L3 := ⟨_, rfl⟩
                  have HP : Hid (∀ W, Ad w W bn bx ba sv L L (2, af, at_, pl, tx) → Calls Try.prog 30 #[.pointer (some ⟨bn, 0, none⟩), .int .i64 af, .int .i64 at_, .int .i64 pl] W fun e w' => e = .returned (.int .i64 ev) ∧ Ad w w' bn bx ba sv L3 L (2, af, at_, pl, tx)) := fun W h =>
                    h.n (Z := fun e => e = .returned (.int .i64 ev)) fun P h => by have h1 := n_twin W bn sv L h af at_ pl; rwa [hev, hL3] at h1
                  have HQ : Hid (∀ W, Ad w W bn bx ba sv L3 L (2, af, at_, pl, tx) → Calls Try.prog 31 #[.pointer (some ⟨bx, 0, none⟩), .int .i64 af, .int .i64 at_, .int .i64 pl] W fun e w' => e = .returned (.int .i64 ev) ∧ Ad w w' bn bx ba sv L3 L3 (2, af, at_, pl, tx)) := fun W h =>
                    h.d (Z := fun e => e = .returned (.int .i64 ev)) fun gr U Q h => by have h1 := d_twin W bx gr sv U L h af at_ pl; rwa [hev, hL3] at h1
                  have Sc : Hid (∀ W L L', Ad w W bn bx ba sv L L' (2, af, at_, pl, tx) → W.cell? ⟨ba, 1, none⟩ = some (.int .i64 af) ∧ W.cell? ⟨ba, 2, none⟩ = some (.int .i64 at_) ∧ W.cell? ⟨ba, 3, none⟩ = some (.int .i64 pl)) := fun W _ _ h => ⟨h.cells.2.1, h.cells.2.2.1, h.cells.2.2.2.1⟩
                  have HAd : Hid (Ad w wa.drew bn bx ba sv L L (2, af, at_, pl, tx)) := HO.out.calm (Below.refl _ _).drew
                  have hS := Sc.out _ _ _ HO.out
                  clear hev hL3
                  go_wp2_with fail
                  go_region_held3 (fun W => W.cell? ⟨ba, 1, none⟩ = some (.int .i64 af) ∧ W.cell? ⟨ba, 2, none⟩ = some (.int .i64 at_) ∧ W.cell? ⟨ba, 3, none⟩ = some (.int .i64 pl))
                    (first | (exact Sc.out _ _ _ HA4.out) | (exact Sc.out _ _ _ HA3.out) | go_keep)
                    (first
                      | (go_at_call 30; refine (HP.out _ HAd.out).mono ?_; rintro e w3 ⟨rfl, hA3⟩; have HA3 := Lib.hid hA3; clear hA3)
                      | (go_at_call 31; refine (HQ.out _ HA3.out).mono ?_; rintro e w4 ⟨rfl, hA4⟩; have HA4 := Lib.hid hA4; clear hA4))
                  go_wp2_with fail
                  go_meet
                  exact ⟨_, HA4.out⟩
                · have hk2b : (kd == 2) = false := by rw [beq_eq_false_iff_ne]; exact hk2
                  clear hk2
                  go_wp2_with fail
                  go_meet
                  exact ⟨_, HO.out⟩
          case rest =>
            obtain ⟨Lx, hA5⟩ := hcut
            have HA5 := Lib.hid hA5
            clear hA5 HO a0 a1 a2 a3 a4
            generalize wc = w5 at *
            obtain ⟨a0, a1, a2, a3, a4⟩ := HA5.out.cells
            dsimp only at a0 a1 a2 a3 a4
            have HSm := Lib.hid (HA5.out.same kd af at_ pl tx)
            go_wp2_with fail
            refine HSm.out.mono ?_
            rintro e w6 ⟨rfl, hA6⟩
            have HA6 := Lib.hid hA6
            clear hA6
            go_wp2_with fail
            exact ⟨⟨k + 1, by omega, by go_num, Lx, HA6.out.pd.drop, HA6.out.below⟩, by simp [intOf]; omega⟩
        · have : k = l := by omega
          subst this
          obtain ⟨L, hPd, hB⟩ := hR
          have HB := Lib.hid hB
          clear hPd hB
          go_wp2_with fail
          refine (awake37 _).mono ?_
          rintro e w4 ⟨rfl, hB4⟩
          have HB4 := Lib.hid (HB.out.trans (hB4.mono HB.out.size))
          clear hB4
          go_wp2
          go_ret
          exact ⟨rfl, HB4.out⟩
end Go.Proofs.Ytlhlnaengedfgaa
