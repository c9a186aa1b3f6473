/- The walk of BagKeeps. Condition: the arguments fit their types. -/
import Derived.Test.YtlhlnaengedfgaaBagD
import Derived.Deep.CutBlock
namespace Go.Proofs.Ytlhlnaengedfgaa
open Go.RowKit Go.Lk

/-- A bag and a row of texts beside it. -/
structure Kp (w wx : World) (bs mo : Nat) (v : Value) (lb : List ByteArray) (u : Value) (lx : List ByteArray) : Prop where
  bag : BagIs wx bs mo v lb
  row : Tx wx 9 u lx.length (strs lx)
  apart : ∀ k, u.ownBlock = some k → k ≠ bs ∧ v.ownBlock ≠ some k
  old : ∀ k, v.ownBlock = some k → w.heap.size ≤ k
  lo : w.heap.size ≤ bs
  below : Below w.heap.size w wx
section
variable {w wx wy : World} {bs mo : Nat} {v : Value} {lb : List ByteArray} {u : Value} {lx : List ByteArray}
theorem Kp.calm (h : Kp w wx bs mo v lb u lx) (hb : Below wx.heap.size wx wy) : Kp w wy bs mo v lb u lx :=
  ⟨h.bag.below hb, (Tx.below h.row hb), h.apart, h.old, h.lo, h.below.trans (hb.mono h.below.size)⟩
theorem Kp.drewN (h : Kp w wx bs mo v lb u lx) (n : Nat) : Kp w (wx.drewN n) bs mo v lb u lx := h.calm (below_drewN (Below.refl _ _) n)
theorem Kp.bagStep (h : Kp w wx bs mo v lb u lx) {v' : Value} {lb' : List ByteArray} {S : List Nat} (hS : BagIs wy bs mo v' lb') (ho : OnlyIn S wx wy) (hs : ∀ k ∈ S, k = bs ∨ v.ownBlock = some k)
    (hn : ∀ k, v'.ownBlock = some k → v.ownBlock = some k ∨ wx.heap.size ≤ k) : Kp w wy bs mo v' lb' u lx := by
  have hsz := h.below.size
  refine ⟨hS, h.row.only ho (fun k hk hm => ?_), fun k hk => ⟨(h.apart k hk).1, fun e => ?_⟩, fun k hk => ?_, h.lo, h.below.trans (ho.to_below (B := w.heap.size) hsz fun k hk => ?_)⟩
  · rcases hs k hm with e | e
    · exact (h.apart k hk).1 e
    · exact (h.apart k hk).2 e
  · rcases hn k e with e | e
    · exact (h.apart k hk).2 e
    · have := h.row.lt k hk; omega
  · rcases hn k hk with e | e
    · exact h.old k e
    · omega
  · rcases hs k hk with e | e
    · have := h.lo; omega
    · exact h.old k e
end
/-- What is neither taken nor doubled stays. -/
def Kept (l lb : List ByteArray) (m sh : Nat) : Prop := ∀ k, k < m → k < lb.length → (k < sh → lb[k]? = l[k]?) ∧ (sh ≤ k → k + 1 < m → lb[k]? = l[k + 1]?)
theorem kept_same (l : List ByteArray) (m : Nat) : Kept l l m m := fun k h1 _ => ⟨fun _ => rfl, fun h => by omega⟩
theorem kept_app (l : List ByteArray) (t : ByteArray) (m : Nat) (hm : l.length = m) : Kept l (l ++ [t]) m m := fun k h1 _ => ⟨fun _ => by rw [List.getElem?_append_left (by omega)], fun h => by omega⟩
theorem kept_erase (l : List ByteArray) (m q : Nat) : Kept l (l.eraseIdx q) m q := fun k _ _ =>
  ⟨fun h => by rw [List.getElem?_eraseIdx, if_pos h], fun h _ => by rw [List.getElem?_eraseIdx, if_neg (by omega)]⟩
/-- What holds at the head of each round. -/
def BR (w : World) (bs mo : Nat) (wr : World) : Prop :=
  ∃ (l : List ByteArray) (v : Value), BagIs wr bs mo v l ∧ (∀ k, v.ownBlock = some k → w.heap.size ≤ k) ∧ w.heap.size ≤ bs ∧ Below w.heap.size w wr
/-- What an act made of the texts. -/
def Made (l lb : List ByteArray) (m gn sh : Nat) : Prop := Kept l lb m sh ∧ ((sh = m ∧ gn ≤ 1 ∧ lb.length = m + gn) ∨ (sh < m ∧ gn = 0 ∧ lb.length + 1 = m))

set_option maxRecDepth 100000 in
set_option maxHeartbeats 8000000 in
theorem bagKeepsWalk (most : Nat) (hmo : most ≤ 255) (A0 : Option Addr) (c0 : Nat) (acts : List (Int × Int × ByteArray)) (n : Nat) (hn : acts.length = n) (hn3 : n ≤ 9223372036854775807) (w : World) (ha : Sl w w.heap.size A0 (acts3 acts)) :
    Calls Try.prog 4 #[.int .u8 (most : Int), .slice A0 n c0] w fun e w' => e = .returned (.bool true) ∧ Below w.heap.size w w' := by
  have HN := Lib.hid hn
  have HA := Lib.hid ha
  have HF := Lib.hid (fewWalk A0 c0 acts n hn hn3 w ha)
  clear ha hn
  go_enter Try.func4, Try.ntmps4
  go_wp2_with fail
  refine HF.out.mono ?_
  rintro e w1 ⟨⟨b, rfl, hb⟩, hw⟩
  subst hw
  cases b with
  | false =>
    clear hb
    go_wp2_with fail
    refine (awake36 _).mono ?_
    rintro e w1 ⟨rfl, hB⟩
    go_wp2
    go_ret
    exact ⟨rfl, hB⟩
  | true =>
    have hn2 := hb rfl
    clear hb

    obtain ⟨mo, hmod⟩ : ∃ mo : Nat, (most : Int) % 65 = (mo : Int) := ⟨most % 65, by omega⟩
    have hmo64 : mo ≤ 64 := by omega

    go_wp2_with fail
    clear hmo
    refine (new_ok w mo hmo64).mono ?_
    rintro e w1 ⟨bs, rfl, hS1, hbs, hB1⟩
    have HS1 := Lib.hid hS1
    have HB1 := Lib.hid hB1
    clear hS1 hB1
    go_wp2_with fail
    go_loopw [8] (fun i wr => ∃ k : Nat, k ≤ n ∧ i = .int .i64 k ∧ BR w bs mo wr) (fun i _ => n - (intOf i).toNat)
    case atStart => exact ⟨0, by omega, rfl, [], _, HS1.out, by simp [Value.ownBlock], hbs, HB1.out⟩
    case round =>
      obtain ⟨k, hk, rfl, hR⟩ := hrel
      by_cases hlt : k < n
      · have hk' : k < acts.length := by rw [HN.out]; exact hlt
        obtain ⟨⟨kd, p, s⟩, hp⟩ : ∃ p, acts[k]? = some p := ⟨_, List.getElem?_eq_getElem hk'⟩
        have hc := acts3_at acts k _ hp
        obtain ⟨b, o, rfl, hab, hcell⟩ := HA.out.plain (by rw [acts3_length]; omega)
        have d0 := hcell _ _ hc.1
        have d1 := hcell _ _ hc.2.1
        have d2 := hcell _ _ hc.2.2
        rw [← Nat.add_assoc] at d0 d1 d2
        simp only [Nat.add_zero] at d0 d1 d2
        have H0 := Lib.hid d0
        have H1 := Lib.hid d1
        have H2 := Lib.hid d2
        clear hp hc hcell d0 d1 d2
        obtain ⟨l, v, hS, hV, hb, hB⟩ := hR
        obtain ⟨m, hm⟩ : ∃ m, l.length = m := ⟨_, rfl⟩
        have hle := hS.le
        rw [hm] at hle
        have HM := Lib.hid hm
        have HAll := Lib.hid (all_ok bs mo v l wr hS)
        have HS := Lib.hid hS
        have HV := Lib.hid hV
        have HB := Lib.hid hB
        clear hS hV hB hm
        go_wp2_with fail
        refine HAll.out.mono ?_
        rintro e wa ⟨u, rfl, hu, hun, hBa⟩
        have hBt := HB.out.trans (hBa.mono HB.out.size)
        have hab2 : b < w.heap.size := hab
        have HSa : Hid (Kp w wa bs mo v l u l) := ⟨HS.out.below hBa, hu, fun j hj => ⟨by have := hun j hj; have := heap_lt HS.out.s; omega, fun e => by have := hun j hj; have := HS.out.t.lt j e; omega⟩, HV.out, hb, hBt⟩
        obtain ⟨Aw, cw, rfl, _, _, _⟩ := hu.form
        rw [HM.out] at HSa ⊢
        have a0 : wa.cell? ⟨b, o + k * 3, none⟩ = some (.int .i64 kd) := (hBt.cell (p := ⟨b, o + k * 3, none⟩) hab).trans H0.out
        have a1 : wa.cell? ⟨b, o + k * 3 + 1, none⟩ = some (.int .i64 p) := (hBt.cell (p := ⟨b, o + k * 3 + 1, none⟩) hab).trans H1.out
        have a2 : wa.cell? ⟨b, o + k * 3 + 2, none⟩ = some (.string s) := (hBt.cell (p := ⟨b, o + k * 3 + 2, none⟩) hab).trans H2.out
        clear hu hun hBa hBt
        go_upto_block 2 with fail
        go_cut [10, 11] from 29 to 155 (fun g sv wx => ∃ lx vx gn sh, g = .int .i64 (gn : Nat) ∧ sv = .int .i64 (sh : Nat) ∧ Kp w wx bs mo vx lx (.slice Aw m cw) l ∧ Made l lx m gn sh)
        case first =>
          by_cases hk0 : kd = 0
          · subst hk0
            by_cases hf : m < mo
            · have HP := Lib.hid (put_room bs mo v l wa HSa.out.bag (by rw [HM.out]; exact hf) s)
              go_wp2_with fail
              refine HP.out.mono ?_
              rintro e wx ⟨rfl, vx, hS2, hO2, hn2'⟩
              have HX := Lib.hid (HSa.out.bagStep hS2 hO2 (fun k hk => by simpa using hk) hn2')
              clear hS2 hO2 hn2'
              go_wp2_with fail
              go_meet
              exact ⟨_, _, 1, m, rfl, rfl, HX.out, kept_app l s m HM.out, .inl ⟨rfl, by omega, by rw [List.length_append, HM.out]; rfl⟩⟩
            · have HP := Lib.hid (put_full bs mo v l wa HSa.out.bag (by rw [HM.out]; omega) s)
              clear hf
              go_wp2_with fail
              refine HP.out.mono ?_
              rintro e w1 ⟨rfl, mm, rfl⟩
              have HX := Lib.hid (HSa.out.drewN mm)
              go_wp2_with fail
              go_meet
              exact ⟨_, _, 0, m, rfl, rfl, HX.out, kept_same l m, .inl ⟨rfl, by omega, HM.out⟩⟩
          · have hk0b : (kd == 0) = false := by rw [beq_eq_false_iff_ne]; exact hk0
            clear hk0
            by_cases hk1 : kd = 1
            · subst hk1
              by_cases hin0 : 0 ≤ p ∧ p < (m : Int)
              · obtain ⟨q0, rfl⟩ : ∃ q0 : Nat, p = (q0 : Int) := ⟨p.toNat, by omega⟩
                have hqm : q0 < m := by omega
                obtain ⟨sq, hsq⟩ : ∃ sq, l[q0]? = some sq := ⟨_, List.getElem?_eq_getElem (by rw [HM.out]; exact hqm)⟩
                have HP := Lib.hid (take_ok bs mo v l wa HSa.out.bag q0 sq hsq)
                clear hin0 hsq
                go_wp2_with fail
                refine HP.out.mono ?_
                rintro e w1 ⟨rfl, vx, hS1, hO1, hn1⟩
                have HX := Lib.hid (HSa.out.bagStep hS1 hO1 (fun k hk => .inl (by simpa using hk)) hn1)
                have a1 : w1.cell? ⟨b, o + k * 3 + 1, none⟩ = some (.int .i64 (q0 : Int)) := (HX.out.below.cell (p := ⟨b, o + k * 3 + 1, none⟩) hab).trans H1.out
                clear hS1 hO1 hn1
                go_wp2_with fail
                go_meet
                exact ⟨_, _, 0, q0, rfl, rfl, HX.out, kept_erase l m q0, .inr ⟨hqm, rfl, by rw [List.length_eraseIdx, if_pos (by rw [HM.out]; exact hqm), HM.out]; omega⟩⟩
              · have HP := Lib.hid (take_bad bs mo v l wa HSa.out.bag p (by rw [HM.out]; omega))
                clear hin0
                go_wp2_with fail
                refine HP.out.mono ?_
                rintro e w1 ⟨rfl, hw⟩
                subst hw
                go_wp2_with fail
                go_meet
                exact ⟨_, _, 0, m, rfl, rfl, HSa.out, kept_same l m, .inl ⟨rfl, by omega, HM.out⟩⟩
            · have hk1b : (kd == 1) = false := by rw [beq_eq_false_iff_ne]; exact hk1
              clear hk1
              by_cases hk2 : kd = 2
              · subst hk2
                by_cases hin0 : 0 ≤ p ∧ p < (m : Int)
                · obtain ⟨q0, rfl⟩ : ∃ q0 : Nat, p = (q0 : Int) := ⟨p.toNat, by omega⟩
                  have hqm : q0 < m := by omega
                  obtain ⟨sq, hsq⟩ : ∃ sq, l[q0]? = some sq := ⟨_, List.getElem?_eq_getElem (by rw [HM.out]; exact hqm)⟩
                  clear hin0
                  by_cases hf : m < mo
                  · have HP := Lib.hid (twin_room bs mo v l wa HSa.out.bag (by rw [HM.out]; exact hf) q0 sq hsq)
                    clear hsq
                    go_wp2_with fail
                    refine HP.out.mono ?_
                    rintro e wx ⟨rfl, vx, hS2, hO2, hn2'⟩
                    have HX := Lib.hid (HSa.out.bagStep hS2 hO2 (fun k hk => by simpa using hk) hn2')
                    clear hS2 hO2 hn2'
                    go_wp2_with fail
                    go_meet
                    exact ⟨_, _, 1, m, rfl, rfl, HX.out, kept_app l sq m HM.out, .inl ⟨rfl, by omega, by rw [List.length_append, HM.out]; rfl⟩⟩
                  · have HP := Lib.hid (twin_full bs mo v l wa HSa.out.bag (by rw [HM.out]; omega) q0 sq hsq)
                    clear hf hsq
                    go_wp2_with fail
                    refine HP.out.mono ?_
                    rintro e w1 ⟨rfl, mm, rfl⟩
                    have HX := Lib.hid (HSa.out.drewN mm)
                    go_wp2_with fail
                    go_meet
                    exact ⟨_, _, 0, m, rfl, rfl, HX.out, kept_same l m, .inl ⟨rfl, by omega, HM.out⟩⟩
                · have HP := Lib.hid (twin_bad bs mo v l wa HSa.out.bag p (by rw [HM.out]; omega))
                  clear hin0
                  go_wp2_with fail
                  refine HP.out.mono ?_
                  rintro e w1 ⟨rfl, hw⟩
                  subst hw
                  go_wp2_with fail
                  go_meet
                  exact ⟨_, _, 0, m, rfl, rfl, HSa.out, kept_same l m, .inl ⟨rfl, by omega, HM.out⟩⟩
              · have hk2b : (kd == 2) = false := by rw [beq_eq_false_iff_ne]; exact hk2
                clear hk2
                go_wp2_with fail
                go_meet
                exact ⟨_, _, 0, m, rfl, rfl, HSa.out, kept_same l m, .inl ⟨rfl, by omega, HM.out⟩⟩
        case rest =>
          obtain ⟨lx, vx, gn, sh, rfl, rfl, hX, hK, hG⟩ := hcut
          obtain ⟨mx, hmx⟩ : ∃ mx, lx.length = mx := ⟨_, rfl⟩
          have hlex := hX.bag.le
          rw [hmx] at hG hlex
          have HMx := Lib.hid hmx
          have HX := Lib.hid hX
          have HK := Lib.hid hK
          clear hX hmx hK a0 a1 a2 HS HSa
          have HAll2 := Lib.hid (all_ok bs mo vx lx wc HX.out.bag)
          generalize wc = w2 at *
          rcases hG with ⟨hsm, hg1, hgl⟩ | ⟨hsm, hg1, hgl⟩
          · have hsum : (m : Int) + (gn : Int) = (mx : Int) := by omega
            have hds : decide ((sh : Int) < (m : Int)) = false := by simp; omega
            have hds2 : ¬ (sh : Int) < 0 := by omega
            have hdm : decide ((mo : Int) < (mx : Int)) = false := by simp; omega
            have hdm2 : ¬ (mo : Int) < (mx : Int) := by omega
            have hsm2 : ¬ (sh : Int) < (m : Int) := by omega
            clear hsm hgl
            go_wp2_with fail
            refine HAll2.out.mono ?_
            rintro e wx ⟨ux, rfl, hux, huxn, hBx⟩
            obtain ⟨Ax, cx, rfl, hlx, _, _⟩ := hux.form
            obtain ⟨Aw2, cw2, ha2, hlw, _, _⟩ := (HX.out.calm hBx).row.form
            injection ha2 with ha2 hnn hc2
            subst ha2 hc2
            clear hnn
            have HLx := Lib.hid hlx
            have HLw := Lib.hid hlw
            have HX := Lib.hid (HX.out.calm hBx)
            rw [HMx.out]
            clear hux huxn hBx hlx hlw
            go_wp2_with fail
            go_loopw [16] (fun i wr' => ∃ (k2 : Nat) (m2 : Nat), k2 ≤ m ∧ k2 ≤ mx ∧ i = .int .i64 k2 ∧ wr' = wx.drewN m2) (fun i _ => m - (intOf i).toNat)
            case atStart => exact ⟨0, 0, by omega, by omega, rfl, rfl⟩
            case round =>
              obtain ⟨k2, m2, hk2, hk2x, rfl, rfl⟩ := hrel
              by_cases hlt2 : k2 < m ∧ k2 < mx
              · obtain ⟨hlt2, hlt2x⟩ := hlt2
                obtain ⟨t1, ht1⟩ : ∃ t1, lx[k2]? = some t1 := ⟨_, List.getElem?_eq_getElem (by rw [HMx.out]; omega)⟩
                obtain ⟨t0, ht0⟩ : ∃ t0, l[k2]? = some t0 := ⟨_, List.getElem?_eq_getElem (by rw [HM.out]; omega)⟩
                obtain ⟨ax, rfl, _, hcx⟩ := HLx.out k2 _ (strs_at ht1)
                obtain ⟨bw, ow, rfl, _, hcellw⟩ := HLw.out.plain (by rw [strs_length, HM.out]; omega)
                have hcw := hcellw k2 _ (strs_at ht0)
                have HCW := Lib.hid hcellw
                clear hcellw
                have hkp := HK.out k2 hlt2 (by rw [HMx.out]; exact hlt2x)
                by_cases hsh : k2 < sh
                · have he : t1 = t0 := by have := hkp.1 hsh; rw [ht1, ht0] at this; injection this
                  subst he
                  have hd1 : decide ((k2 : Int) < (sh : Int)) = true := by simp; omega
                  have hd2 : decide ((sh : Int) ≤ (k2 : Int)) = false := by simp; omega
                  have hn1 : decide (k2 < sh) = true := by simp; omega
                  have hn2 : decide (sh ≤ k2) = false := by simp; omega
                  clear hkp ht1 ht0
                  go_wp2_with fail
                  go_quiet (fail)
                  go_wp2_with fail
                  exact ⟨⟨k2 + 1, _, by omega, by omega, by go_num, rfl⟩, by simp [intOf]; omega⟩
                · have hd1 : decide ((k2 : Int) < (sh : Int)) = false := by simp; omega
                  have hd2 : decide ((sh : Int) ≤ (k2 : Int)) = true := by simp; omega
                  have hn1 : decide (k2 < sh) = false := by simp; omega
                  have hn2 : decide (sh ≤ k2) = true := by simp; omega
                  have hwr : IntKind.i64.wrap ((k2 : Int) + 1) = (k2 : Int) + 1 := by rw [IntKind.wrap_i64]; omega
                  have q3 : (0 : Int) ≤ (k2 : Int) + 1 := by omega
                  by_cases hnx : k2 + 1 < m
                  · obtain ⟨t2, ht2⟩ : ∃ t2, l[k2 + 1]? = some t2 := ⟨_, List.getElem?_eq_getElem (by rw [HM.out]; omega)⟩
                    have hcw2 := HCW.out (k2 + 1) _ (strs_at ht2)
                    have hcw3 : wx.cell? ⟨bw, ow + k2 + 1, none⟩ = some (.string t2) := by rw [Nat.add_assoc]; exact hcw2
                    have he : t1 = t2 := by have := hkp.2 (by omega) hnx; rw [ht1, ht2] at this; injection this
                    subst he
                    have hd3 : decide ((k2 : Int) + 1 < (m : Int)) = true := by simp; omega
                    have hn3 : decide (k2 + 1 < m) = true := by simp; omega
                    have q5 : (k2 : Int) + 1 < (m : Int) := by omega
                    clear hkp hcw ht1 ht0 ht2
                    go_wp2_with fail
                    go_quiet (fail)
                    go_wp2_with fail
                    exact ⟨⟨k2 + 1, _, by omega, by omega, by go_num, rfl⟩, by simp [intOf]; omega⟩
                  · have hd3 : decide ((k2 : Int) + 1 < (m : Int)) = false := by simp; omega
                    have hn3 : decide (k2 + 1 < m) = false := by simp; omega
                    clear hkp ht1 ht0
                    go_wp2_with fail
                    go_quiet (fail)
                    go_wp2_with fail
                    exact ⟨⟨k2 + 1, _, by omega, by omega, by go_num, rfl⟩, by simp [intOf]; omega⟩
              · have hX2 := HX.out.drewN m2
                have HE : Hid (BR w bs mo (wx.drewN m2)) := ⟨_, _, hX2.bag, hX2.old, hX2.lo, hX2.below⟩
                clear hX2
                by_cases hlt3 : k2 < m
                · have hlt4 : ¬ k2 < mx := by omega
                  clear hlt2
                  go_wp2_with fail
                  exact ⟨⟨k + 1, by omega, by go_num, HE.out⟩, by simp [intOf]; omega⟩
                · clear hlt2
                  go_wp2_with fail
                  exact ⟨⟨k + 1, by omega, by go_num, HE.out⟩, by simp [intOf]; omega⟩
          · have hwr1 : IntKind.i64.wrap ((m : Int) - 1) = (mx : Int) := by rw [IntKind.wrap_i64]; omega
            have hsum : (m : Int) - 1 = (mx : Int) := by omega
            have hds : decide ((sh : Int) < (m : Int)) = true := by simp; omega
            have hds2 : ¬ (sh : Int) < 0 := by omega
            have hdm : decide ((mo : Int) < (mx : Int)) = false := by simp; omega
            have hdm2 : ¬ (mo : Int) < (mx : Int) := by omega
            have hsm2 : (sh : Int) < (m : Int) := by omega
            subst hg1
            clear hgl
            go_wp2_with fail
            refine HAll2.out.mono ?_
            rintro e wx ⟨ux, rfl, hux, huxn, hBx⟩
            obtain ⟨Ax, cx, rfl, hlx, _, _⟩ := hux.form
            obtain ⟨Aw2, cw2, ha2, hlw, _, _⟩ := (HX.out.calm hBx).row.form
            injection ha2 with ha2 hnn hc2
            subst ha2 hc2
            clear hnn
            have HLx := Lib.hid hlx
            have HLw := Lib.hid hlw
            have HX := Lib.hid (HX.out.calm hBx)
            rw [HMx.out]
            clear hux huxn hBx hlx hlw
            go_wp2_with fail
            go_loopw [16] (fun i wr' => ∃ (k2 : Nat) (m2 : Nat), k2 ≤ m ∧ k2 ≤ mx ∧ i = .int .i64 k2 ∧ wr' = wx.drewN m2) (fun i _ => m - (intOf i).toNat)
            case atStart => exact ⟨0, 0, by omega, by omega, rfl, rfl⟩
            case round =>
              obtain ⟨k2, m2, hk2, hk2x, rfl, rfl⟩ := hrel
              by_cases hlt2 : k2 < m ∧ k2 < mx
              · obtain ⟨hlt2, hlt2x⟩ := hlt2
                obtain ⟨t1, ht1⟩ : ∃ t1, lx[k2]? = some t1 := ⟨_, List.getElem?_eq_getElem (by rw [HMx.out]; omega)⟩
                obtain ⟨t0, ht0⟩ : ∃ t0, l[k2]? = some t0 := ⟨_, List.getElem?_eq_getElem (by rw [HM.out]; omega)⟩
                obtain ⟨ax, rfl, _, hcx⟩ := HLx.out k2 _ (strs_at ht1)
                obtain ⟨bw, ow, rfl, _, hcellw⟩ := HLw.out.plain (by rw [strs_length, HM.out]; omega)
                have hcw := hcellw k2 _ (strs_at ht0)
                have HCW := Lib.hid hcellw
                clear hcellw
                have hkp := HK.out k2 hlt2 (by rw [HMx.out]; exact hlt2x)
                by_cases hsh : k2 < sh
                · have he : t1 = t0 := by have := hkp.1 hsh; rw [ht1, ht0] at this; injection this
                  subst he
                  have hd1 : decide ((k2 : Int) < (sh : Int)) = true := by simp; omega
                  have hd2 : decide ((sh : Int) ≤ (k2 : Int)) = false := by simp; omega
                  have hn1 : decide (k2 < sh) = true := by simp; omega
                  have hn2 : decide (sh ≤ k2) = false := by simp; omega
                  clear hkp ht1 ht0
                  go_wp2_with fail
                  go_quiet (fail)
                  go_wp2_with fail
                  exact ⟨⟨k2 + 1, _, by omega, by omega, by go_num, rfl⟩, by simp [intOf]; omega⟩
                · have hd1 : decide ((k2 : Int) < (sh : Int)) = false := by simp; omega
                  have hd2 : decide ((sh : Int) ≤ (k2 : Int)) = true := by simp; omega
                  have hn1 : decide (k2 < sh) = false := by simp; omega
                  have hn2 : decide (sh ≤ k2) = true := by simp; omega
                  have hwr : IntKind.i64.wrap ((k2 : Int) + 1) = (k2 : Int) + 1 := by rw [IntKind.wrap_i64]; omega
                  have q3 : (0 : Int) ≤ (k2 : Int) + 1 := by omega
                  by_cases hnx : k2 + 1 < m
                  · obtain ⟨t2, ht2⟩ : ∃ t2, l[k2 + 1]? = some t2 := ⟨_, List.getElem?_eq_getElem (by rw [HM.out]; omega)⟩
                    have hcw2 := HCW.out (k2 + 1) _ (strs_at ht2)
                    have hcw3 : wx.cell? ⟨bw, ow + k2 + 1, none⟩ = some (.string t2) := by rw [Nat.add_assoc]; exact hcw2
                    have he : t1 = t2 := by have := hkp.2 (by omega) hnx; rw [ht1, ht2] at this; injection this
                    subst he
                    have hd3 : decide ((k2 : Int) + 1 < (m : Int)) = true := by simp; omega
                    have hn3 : decide (k2 + 1 < m) = true := by simp; omega
                    have q5 : (k2 : Int) + 1 < (m : Int) := by omega
                    clear hkp hcw ht1 ht0 ht2
                    go_wp2_with fail
                    go_quiet (fail)
                    go_wp2_with fail
                    exact ⟨⟨k2 + 1, _, by omega, by omega, by go_num, rfl⟩, by simp [intOf]; omega⟩
                  · have hd3 : decide ((k2 : Int) + 1 < (m : Int)) = false := by simp; omega
                    have hn3 : decide (k2 + 1 < m) = false := by simp; omega
                    clear hkp ht1 ht0
                    go_wp2_with fail
                    go_quiet (fail)
                    go_wp2_with fail
                    exact ⟨⟨k2 + 1, _, by omega, by omega, by go_num, rfl⟩, by simp [intOf]; omega⟩
              · have hX2 := HX.out.drewN m2
                have HE : Hid (BR w bs mo (wx.drewN m2)) := ⟨_, _, hX2.bag, hX2.old, hX2.lo, hX2.below⟩
                clear hX2
                by_cases hlt3 : k2 < m
                · have hlt4 : ¬ k2 < mx := by omega
                  clear hlt2
                  go_wp2_with fail
                  exact ⟨⟨k + 1, by omega, by go_num, HE.out⟩, by simp [intOf]; omega⟩
                · clear hlt2
                  go_wp2_with fail
                  exact ⟨⟨k + 1, by omega, by go_num, HE.out⟩, by simp [intOf]; omega⟩
      · have : k = n := by omega
        subst this
        obtain ⟨l, v, hS, hV, hb, hB⟩ := hR
        have HB := Lib.hid hB
        clear hS hV hb hB
        go_wp2_with fail
        refine (awake36 _).mono ?_
        rintro e w4 ⟨rfl, hB4⟩
        have HB4 := Lib.hid (HB.out.trans (hB4.mono HB.out.size))
        clear hB4
        go_wp2
        go_ret
        exact ⟨rfl, HB4.out⟩
end Go.Proofs.Ytlhlnaengedfgaa
