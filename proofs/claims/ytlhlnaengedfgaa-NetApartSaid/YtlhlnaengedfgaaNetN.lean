/- The walk of NetApart. Condition: the arguments fit their types. -/
import Derived.Test.YtlhlnaengedfgaaNetM
import Derived.Deep.CutBlock
namespace Go.Proofs.Ytlhlnaengedfgaa
open Go.RowKit Go.Lk

structure Ar (w wx : World) (bn bm ba : Nat) (Ln Lm : Nat → Nat → List ByteArray) (p : Act5) : Prop where
  pr : Pr w.heap.size wx bn bm Ln Lm (fun k => k = ba)
  act : wx.heap[ba]? = some (.cells (arow p).toArray 58 (0, 0))
  below : Below w.heap.size w wx
section
variable {w wx wy : World} {bn bm ba : Nat} {Ln Lm L' : Nat → Nat → List ByteArray} {p : Act5}
theorem Ar.n (h : Ar w wx bn bm ba Ln Lm p) {f : FuncId} {args : Array Value} {Z : Ending → Prop}
    (hx : ∀ P, Nt P wx bn 8 Ln → Calls Try.prog f args wx fun e w' => Z e ∧ Nx P wx w' bn 8 L') : Calls Try.prog f args wx fun e w' => Z e ∧ Ar w w' bn bm ba L' Lm p :=
  (h.pr.act h.below.size (fun k hk => by rw [hk]; exact heap_lt h.act) hx).mono fun _ _ ⟨hz, hp, hb, _, hr⟩ => ⟨hz, hp, (hr ba rfl).trans h.act, h.below.trans hb⟩
theorem Ar.m (h : Ar w wx bn bm ba Ln Lm p) {f : FuncId} {args : Array Value} {Z : Ending → Prop}
    (hx : ∀ P, Nt P wx bm 8 Lm → Calls Try.prog f args wx fun e w' => Z e ∧ Nx P wx w' bm 8 L') : Calls Try.prog f args wx fun e w' => Z e ∧ Ar w w' bn bm ba Ln L' p :=
  (h.pr.swap.act h.below.size (fun k hk => by rw [hk]; exact heap_lt h.act) hx).mono fun _ _ ⟨hz, hp, hb, _, hr⟩ => ⟨hz, hp.swap, (hr ba rfl).trans h.act, h.below.trans hb⟩
theorem Ar.calm (h : Ar w wx bn bm ba Ln Lm p) (hb : Below wx.heap.size wx wy) : Ar w wy bn bm ba Ln Lm p :=
  ⟨h.pr.calm hb, (hb.block _ (heap_lt h.act)).trans h.act, h.below.trans (hb.mono h.below.size)⟩
theorem Ar.cells (h : Ar w wx bn bm ba Ln Lm p) : wx.cell? ⟨ba, 0, none⟩ = some (.int .i64 p.1) ∧ wx.cell? ⟨ba, 1, none⟩ = some (.int .i64 p.2.1) ∧ wx.cell? ⟨ba, 2, none⟩ = some (.int .i64 p.2.2.1) ∧ wx.cell? ⟨ba, 3, none⟩ = some (.int .i64 p.2.2.2.1) ∧ wx.cell? ⟨ba, 4, none⟩ = some (.string p.2.2.2.2) := by
  refine ⟨?_, ?_, ?_, ?_, ?_⟩ <;> (rw [cell_of_row wx ba _ _ _ _ h.act]; rfl)
end
/-- What holds at the head of each round. -/
def HR (w : World) (bn bm : Nat) (fr tt : Int) (wr : World) : Prop := ∃ Ln Lm, Pr w.heap.size wr bn bm Ln Lm (fun _ => False) ∧ Ap fr tt Ln Lm ∧ Below w.heap.size w wr

set_option maxRecDepth 100000 in
set_option maxHeartbeats 8000000 in
theorem apartWalk (fr tt : Int) (A0 : Option Addr) (c0 : Nat) (acts : List Act5) (l : Nat) (hl : acts.length = l) (hl3 : l ≤ 9223372036854775807) (w : World) (ha : Sl w w.heap.size A0 (acts5 acts)) :
    Calls Try.prog 7 #[.slice A0 l c0, .int .i64 fr, .int .i64 tt] w fun e w' => e = .returned (.bool true) ∧ Below w.heap.size w w' := by
  have HN := Lib.hid hl
  have HA := Lib.hid ha
  have HF := Lib.hid (few37 A0 c0 acts l hl hl3 w ha)
  clear ha hl
  go_enter Try.func7, Try.ntmps7
  go_wp2_with fail
  refine HF.out.mono ?_
  rintro e w1 ⟨⟨b, rfl, hb⟩, hw⟩
  subst hw
  cases b with
  | false =>
    clear hb
    go_wp2_with fail
    refine (awake37 _).mono ?_
    rintro e w1 ⟨rfl, hB⟩
    go_wp2
    go_ret
    exact ⟨rfl, hB⟩
  | true =>
    clear hb
    go_wp2_with fail
    refine (n_new w 8 (by omega) (by omega)).mono ?_
    rintro e w1 ⟨bn, rfl, hN1, hbn, hB1⟩
    have HN1 := Lib.hid hN1
    have HB1 := Lib.hid hB1
    clear hN1 hB1
    go_wp2_with fail
    refine (n_new w1 8 (by omega) (by omega)).mono ?_
    rintro e w2 ⟨bm, rfl, hN2, hbm, hB2⟩
    have FIN0 : Hid (HR w bn bm fr tt w2) := by
      refine ⟨_, _, ⟨_, _, HN1.out.bounded.below hB2, hN2.bounded, fun k hk hq => ?_, fun k hk => ?_, fun k hk => ?_⟩, Ap.start fr tt, HB1.out.trans (hB2.mono HB1.out.size)⟩
      · have h1 := hk.2; have h2 : w1.heap.size ≤ k := hq.1; omega
      · exact ⟨hk.1, Nat.lt_of_lt_of_le hk.2 hB2.size, fun h => h⟩
      · have h2 : w1.heap.size ≤ k := hk.1; have h3 := HB1.out.size; exact ⟨by omega, hk.2, fun h => h⟩
    clear hN2 hB2
    go_wp2_with fail
    go_loopw [11] (fun i wr => ∃ k : Nat, k ≤ l ∧ i = .int .i64 k ∧ HR w bn bm fr tt wr) (fun i _ => l - (intOf i).toNat)
    case atStart => exact ⟨0, by omega, rfl, FIN0.out⟩
    case round =>
      obtain ⟨k, hk, rfl, hR⟩ := hrel
      by_cases hlt : k < l
      · have hk' : k < acts.length := by rw [HN.out]; exact hlt
        obtain ⟨p, hp⟩ : ∃ p, acts[k]? = some p := ⟨_, List.getElem?_eq_getElem hk'⟩
        have hc := acts5_at acts k p hp
        obtain ⟨b, o, rfl, hab, hcell⟩ := HA.out.plain (by rw [acts5_length]; omega)
        obtain ⟨Ln, Lm, hPr, hAp, hB⟩ := hR
        have cc : ∀ i, i < 5 → ∀ v, (arow p)[i]? = some v → wr.cell? ⟨b, o + k * 5 + i, none⟩ = some v := by
          intro i hi v hv
          rw [hB.cell (p := ⟨b, o + k * 5 + i, none⟩) hab, Nat.add_assoc]
          exact hcell _ _ ((hc i hi).trans hv)
        have d0 : wr.cell? ⟨b, o + k * 5, none⟩ = some (.int .i64 p.1) := cc 0 (by omega) _ rfl
        have d1 := cc 1 (by omega) _ rfl
        have d2 := cc 2 (by omega) _ rfl
        have d3 := cc 3 (by omega) _ rfl
        have d4 := cc 4 (by omega) _ rfl
        have hO : Ar w (wr.alloc (.cells (arow p).toArray 58)) bn bm wr.heap.size Ln Lm p := ⟨hPr.made _, heap_alloc_new wr _, hB.alloc hB.size _⟩
        have HO := Lib.hid hO
        have HAp := Lib.hid hAp
        clear cc hp hc hcell hPr hAp hB hO
        obtain ⟨kd, af, at_, pl, tx⟩ := p
        unfold arow at HO
        dsimp only at d0 d1 d2 d3 d4 HO
        go_upto_region 9 with fail
        generalize wr.alloc (.cells #[.int .i64 kd, .int .i64 af, .int .i64 at_, .int .i64 pl, .string tx] 58) = wa at *
        generalize wr.heap.size = ba at *
        clear d0 d1 d2 d3 d4
        obtain ⟨a0, a1, a2, a3, a4⟩ := HO.out.cells
        dsimp only at a0 a1 a2 a3 a4
        obtain ⟨mb, hmb⟩ : ∃ mb : Bool, decide (af = fr ∧ at_ = tt) = mb := ⟨_, rfl⟩
        have HMB := Lib.hid hmb
        go_cut [13] from 47 to 56 (fun v wx => v = .bool mb ∧ wa = wx)
        case first =>
          by_cases hf : af = fr
          · have hfb : (af == fr) = true := by rw [beq_iff_eq]; exact hf
            by_cases ht : at_ = tt
            · have htb : (at_ == tt) = true := by rw [beq_iff_eq]; exact ht
              have hm1 : mb = true := by rw [← hmb]; simp [hf, ht]
              clear hf ht hmb
              go_wp2_with fail
              go_meet
              exact ⟨by rw [hm1], rfl⟩
            · have htb : (at_ == tt) = false := by rw [beq_eq_false_iff_ne]; exact ht
              have hm1 : mb = false := by rw [← hmb]; simp [ht]
              clear hf ht hmb
              go_wp2_with fail
              go_meet
              exact ⟨by rw [hm1], rfl⟩
          · have hfb : (af == fr) = false := by rw [beq_eq_false_iff_ne]; exact hf
            have hm1 : mb = false := by rw [← hmb]; simp [hf]
            clear hf hmb
            go_wp2_with fail
            go_meet
            exact ⟨by rw [hm1], rfl⟩
        case rest =>
          obtain ⟨rfl, rfl⟩ := hcut
          clear hmb
          go_upto_block 2 with fail
          go_cut [] from 57 to 139 (fun wx => ∃ Ln Lm, Ar w wx bn bm ba Ln Lm (kd, af, at_, pl, tx) ∧ Ap fr tt Ln Lm)
          case first =>
            by_cases hk0 : kd = 0
            · subst hk0
              have HP := Lib.hid (HO.out.n (Z := fun e => e = .returned (.int .i64 (putN 8 Ln af at_ tx).2)) fun P h => n_put wa bn 8 Ln h af at_ tx)
              go_wp2_with fail
              refine HP.out.mono ?_
              rintro e wx ⟨rfl, hA1⟩
              have HA1 := Lib.hid hA1
              obtain ⟨a0, a1, a2, a3, a4⟩ := hA1.cells
              dsimp only at a0 a1 a2 a3 a4
              clear hA1
              cases mb with
              | false =>
                have hne : ¬ (af = fr ∧ at_ = tt) := of_decide_eq_false HMB.out
                have HNE := Lib.hid hne
                clear hne
                go_wp2_with fail
                go_meet
                exact ⟨_, _, HA1.out, HAp.out.put_other HNE.out tx⟩
              | true =>
                obtain ⟨rfl, rfl⟩ : af = fr ∧ at_ = tt := of_decide_eq_true HMB.out
                obtain ⟨he, hap⟩ := HAp.out.put_mine tx
                have HQ := Lib.hid (HA1.out.m (Z := fun e => e = .returned (.int .i64 (putN 8 Lm af at_ tx).2)) fun P h => n_put wx bm 8 Lm h af at_ tx)
                rw [he] at HQ
                have HAP := Lib.hid hap
                clear he hap
                go_wp2_with fail
                refine HQ.out.mono ?_
                rintro e wy ⟨rfl, hA2⟩
                have HA2 := Lib.hid hA2
                clear hA2
                go_wp2_with fail
                go_meet
                exact ⟨_, _, HA2.out, HAP.out⟩
            · have hk0b : (kd == 0) = false := by rw [beq_eq_false_iff_ne]; exact hk0
              clear hk0
              by_cases hk1 : kd = 1
              · subst hk1
                have HP := Lib.hid (HO.out.n (Z := fun e => e = .returned (.tuple #[.string (takeN 8 Ln af at_ pl).2.1, .int .i64 (takeN 8 Ln af at_ pl).2.2])) fun P h => n_take wa bn 8 Ln h af at_ pl)
                go_wp2_with fail
                refine HP.out.mono ?_
                rintro e wx ⟨rfl, hA1⟩
                have HA1 := Lib.hid hA1
                obtain ⟨a0, a1, a2, a3, a4⟩ := hA1.cells
                dsimp only at a0 a1 a2 a3 a4
                clear hA1
                have HQ := Lib.hid (HA1.out.m (Z := fun e => e = .returned (.tuple #[.string (takeN 8 Lm af at_ pl).2.1, .int .i64 (takeN 8 Lm af at_ pl).2.2])) fun P h => n_take wx bm 8 Lm h af at_ pl)
                cases mb with
                | false =>
                  have hne : ¬ (af = fr ∧ at_ = tt) := of_decide_eq_false HMB.out
                  obtain ⟨he, hap⟩ := HAp.out.take_other hne pl
                  have HAP := Lib.hid hap
                  rw [he] at HQ
                  clear hne he hap
                  go_wp2_with fail
                  refine HQ.out.mono ?_
                  rintro e wy ⟨rfl, hA2⟩
                  have HA2 := Lib.hid hA2
                  clear hA2
                  go_wp2_with fail
                  go_meet
                  exact ⟨_, _, HA2.out, HAP.out⟩
                | true =>
                  obtain ⟨rfl, rfl⟩ : af = fr ∧ at_ = tt := of_decide_eq_true HMB.out
                  obtain ⟨he, hap⟩ := HAp.out.take_mine pl
                  have HAP := Lib.hid hap
                  rw [he] at HQ
                  clear he hap
                  go_wp2_with fail
                  refine HQ.out.mono ?_
                  rintro e wy ⟨rfl, hA2⟩
                  have HA2 := Lib.hid hA2
                  clear hA2
                  go_wp2_with fail
                  go_meet
                  exact ⟨_, _, HA2.out, HAP.out⟩
              · have hk1b : (kd == 1) = false := by rw [beq_eq_false_iff_ne]; exact hk1
                clear hk1
                by_cases hk2 : kd = 2
                · subst hk2
                  have HP := Lib.hid (HO.out.n (Z := fun e => e = .returned (.int .i64 (twinN 8 Ln af at_ pl).2)) fun P h => n_twin wa bn 8 Ln h af at_ pl)
                  go_wp2_with fail
                  refine HP.out.mono ?_
                  rintro e wx ⟨rfl, hA1⟩
                  have HA1 := Lib.hid hA1
                  obtain ⟨a0, a1, a2, a3, a4⟩ := hA1.cells
                  dsimp only at a0 a1 a2 a3 a4
                  clear hA1
                  cases mb with
                  | false =>
                    have HNE := Lib.hid (of_decide_eq_false HMB.out)
                    go_wp2_with fail
                    go_meet
                    exact ⟨_, _, HA1.out, HAp.out.twin_other HNE.out pl⟩
                  | true =>
                    obtain ⟨rfl, rfl⟩ : af = fr ∧ at_ = tt := of_decide_eq_true HMB.out
                    obtain ⟨he, hap⟩ := HAp.out.twin_mine pl
                    have HQ := Lib.hid (HA1.out.m (Z := fun e => e = .returned (.int .i64 (twinN 8 Lm af at_ pl).2)) fun P h => n_twin wx bm 8 Lm h af at_ pl)
                    rw [he] at HQ
                    have HAP := Lib.hid hap
                    clear he hap
                    go_wp2_with fail
                    refine HQ.out.mono ?_
                    rintro e wy ⟨rfl, hA2⟩
                    have HA2 := Lib.hid hA2
                    clear hA2
                    go_wp2_with fail
                    go_meet
                    exact ⟨_, _, HA2.out, HAP.out⟩
                · have hk2b : (kd == 2) = false := by rw [beq_eq_false_iff_ne]; exact hk2
                  clear hk2
                  go_wp2_with fail
                  go_meet
                  exact ⟨_, _, HO.out, HAp.out⟩
          case rest =>
            obtain ⟨Lx, Ly, hA5, hAp5⟩ := hcut
            have HA5 := Lib.hid hA5
            have HAp5 := Lib.hid hAp5
            clear hA5 hAp5 HO HAp a0 a1 a2 a3 a4
            generalize wc = w5 at *
            obtain ⟨m, hm⟩ : ∃ m, lenN 8 Lx fr tt = m := ⟨_, rfl⟩
            obtain ⟨P, hP⟩ := HA5.out.pr.nt
            obtain ⟨Q, hQ⟩ := HA5.out.pr.swap.nt
            have hm2 : lenN 8 Ly fr tt = m := HAp5.out.len.trans hm
            have hs2 : sumL 8 Ly (allL 8) = m := HAp5.out.sum.trans hm2
            have hm64 : m ≤ 64 := by rw [← hm]; exact hP.lenN fr tt
            have HLn := Lib.hid (n_len w5 bn 8 Lx hP fr tt)
            have HLm := Lib.hid (n_len w5 bm 8 Ly hQ fr tt)
            have HTo := Lib.hid (total_ok w5 bm 8 Ly hQ)
            rw [hm] at HLn
            rw [hm2] at HLm
            rw [hs2] at HTo
            have HM := Lib.hid hm
            have HM2 := Lib.hid hm2
            clear hm hm2 hs2 hP hQ
            go_wp2_with fail
            refine HLn.out.mono ?_
            rintro e w6 ⟨rfl, hw⟩
            subst hw
            go_wp2_with fail
            refine HLm.out.mono ?_
            rintro e w6 ⟨rfl, hw⟩
            subst hw
            go_wp2_with fail
            refine HTo.out.mono ?_
            rintro e w6 ⟨rfl, hB6⟩
            have HA6 := Lib.hid (HA5.out.calm hB6)
            obtain ⟨P, hP⟩ := HA6.out.pr.nt
            obtain ⟨Q, hQ⟩ := HA6.out.pr.swap.nt
            have HLn := Lib.hid (n_len w6 bn 8 Lx hP fr tt)
            have HLm := Lib.hid (n_len w6 bm 8 Ly hQ fr tt)
            rw [HM.out] at HLn
            rw [HM2.out] at HLm
            have HAn := Lib.hid (fun p => n_at w6 bn 8 Lx hP fr tt p)
            have HAm := Lib.hid (fun p => n_at w6 bm 8 Ly hQ fr tt p)
            have FIN : Hid (HR w bn bm fr tt w6) := ⟨Lx, Ly, HA6.out.pr.drop, HAp5.out, HA6.out.below⟩
            clear hB6 hP hQ HTo
            go_wp2_with fail
            refine HLm.out.mono ?_
            rintro e w7 ⟨rfl, hw⟩
            subst hw
            go_wp2_with fail
            go_loopw [20] (fun i wr' => ∃ k2 : Nat, k2 ≤ m ∧ i = .int .i64 k2 ∧ wr' = w6) (fun i _ => m - (intOf i).toNat)
            case atStart => exact ⟨0, by omega, rfl, rfl⟩
            case round =>
              obtain ⟨k2, hk2, rfl, rfl⟩ := hrel
              go_wp2_with fail
              refine HLn.out.mono ?_
              rintro e w7 ⟨rfl, hw⟩
              subst hw
              by_cases hlt2 : k2 < m
              · have HA1 := Lib.hid (HAn.out (k2 : Int))
                have HA2 := Lib.hid (HAm.out (k2 : Int))
                rw [HAp5.out.at_ (k2 : Int)] at HA2
                generalize atN 8 Lx fr tt (k2 : Int) = at9 at *
                obtain ⟨s9, c9⟩ := at9
                go_wp2_with fail
                refine HA1.out.mono ?_
                rintro e w7 ⟨rfl, hw⟩
                subst hw
                go_wp2_with fail
                refine HA2.out.mono ?_
                rintro e w7 ⟨rfl, hw⟩
                subst hw
                go_wp2_with fail
                exact ⟨⟨k2 + 1, by omega, by go_num, trivial⟩, by simp [intOf]; omega⟩
              · have : k2 = m := by omega
                subst this
                go_wp2_with fail
                exact ⟨⟨k + 1, by omega, by go_num, FIN.out⟩, by simp [intOf]; omega⟩
      · have : k = l := by omega
        subst this
        obtain ⟨Ln, Lm, hPr, hAp, hB⟩ := hR
        have HB := Lib.hid hB
        clear hPr hAp hB
        go_wp2_with fail
        refine (awake37 _).mono ?_
        rintro e w4 ⟨rfl, hB4⟩
        have HB4 := Lib.hid (HB.out.trans (hB4.mono HB.out.size))
        clear hB4
        go_wp2
        go_ret
        exact ⟨rfl, HB4.out⟩
end Go.Proofs.Ytlhlnaengedfgaa
