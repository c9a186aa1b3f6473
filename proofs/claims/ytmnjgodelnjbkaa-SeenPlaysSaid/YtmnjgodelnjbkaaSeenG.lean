/- The walk of SeenPlays. Condition: the arguments fit their types. -/
import Derived.Test.YtmnjgodelnjbkaaSeenF
namespace Go.Proofs.Ytmnjgodelnjbkaa
open Go.RowKit Go.Lk Go.Proofs.SeenLaw

def actCells : List (Int × Int) → List Value
  | [] => []
  | p :: r => .int .i64 p.1 :: .int .i64 p.2 :: actCells r
theorem actCells_length : ∀ l : List (Int × Int), (actCells l).length = 2 * l.length
  | [] => rfl
  | p :: r => by simp [actCells, actCells_length r]; omega
theorem actCells_at : ∀ (l : List (Int × Int)) (k : Nat) (p : Int × Int), l[k]? = some p → (actCells l)[k * 2]? = some (.int .i64 p.1) ∧ (actCells l)[k * 2 + 1]? = some (.int .i64 p.2)
  | [], k, p, h => by simp at h
  | q :: r, 0, p, h => by simp at h; subst h; simp [actCells]
  | q :: r, k + 1, p, h => by
    simp at h
    have := actCells_at r k p h
    rw [show (k + 1) * 2 = k * 2 + 1 + 1 from by omega]
    simpa [actCells] using this

/-- What holds at the head of each round. -/
def PlaysRel (w : World) (bs br bm most : Nat) (v7 : Value) (wr : World) : Prop :=
  ∃ (l : List Int) (A : Option Addr) (c : Nat), v7 = .slice A l.length c ∧ SeenAt wr bs br bm most l ∧ Sl wr wr.heap.size A (ints l) ∧ (A = none → l.length = 0) ∧ (∀ a, A = some a → a.block ≠ bs ∧ a.block ≠ br ∧ a.block ≠ bm) ∧ l.length ≤ most ∧ Below w.heap.size w wr

set_option maxRecDepth 100000 in
set_option maxHeartbeats 2000000 in
theorem playsWalk (most : Int) (A0 : Option Addr) (c0 : Nat) (acts : List (Int × Int)) (n : Nat) (hn : acts.length = n) (hn3 : n ≤ 9223372036854775807) (w : World) (ha : Sl w w.heap.size A0 (actCells acts)) :
    Calls Try.prog 4 #[.int .i64 most, .slice A0 n c0] w fun e w' => e = .returned (.bool true) ∧ Below w.heap.size w w' := by
  have HN := Lib.hid hn
  have HA := Lib.hid ha
  clear ha hn
  by_cases hn2 : n ≤ 100
  · by_cases hm : most < 0 ∨ 256 < most
    · have HM := Lib.hid (fun W => new_bad most hm W)
      have hq : ∀ W : World, True := fun _ => trivial
      rcases hm with hm | hm
      · go_enter Try.func4, Try.ntmps4
        go_wp2_with fail
        refine (HM.out _).mono ?_
        rintro e w1 ⟨rfl, rfl⟩
        go_wp2_with fail
        refine (awake _).mono ?_
        rintro e w1 ⟨rfl, hB⟩
        go_wp2
        go_ret
        exact ⟨rfl, hB⟩
      · have hm' : ¬ most < 0 := by omega
        go_enter Try.func4, Try.ntmps4
        go_wp2_with fail
        refine (HM.out _).mono ?_
        rintro e w1 ⟨rfl, rfl⟩
        go_wp2_with fail
        refine (awake _).mono ?_
        rintro e w1 ⟨rfl, hB⟩
        go_wp2
        go_ret
        exact ⟨rfl, hB⟩
    · obtain ⟨mo, rfl⟩ : ∃ mo : Nat, most = (mo : Int) := ⟨most.toNat, by omega⟩
      have hmo : mo ≤ 256 := by omega
      clear hm
      go_enter Try.func4, Try.ntmps4
      go_wp2_with fail
      refine (new_ok mo hmo _).mono ?_
      rintro e w1 ⟨bs, br, bm, rfl, hS1, hbs, hbr, hbm, hB1⟩
      have HS1 := Lib.hid hS1
      have HB1 := Lib.hid hB1
      clear hS1 hB1
      go_wp2_with fail
      go_loopw [7, 8] (fun v i wr => ∃ k : Nat, k ≤ n ∧ i = .int .i64 k ∧ PlaysRel w bs br bm mo v wr) (fun _ i _ => n - (intOf i).toNat)
      case atStart => exact ⟨0, by omega, rfl, [], none, 0, rfl, HS1.out, Sl.nil _ _ _, by simp, by simp, by simp, HB1.out⟩
      case round =>
        obtain ⟨k, hk, rfl, hR⟩ := hrel
        obtain ⟨l, A, c, rfl, hS, hSl, hAn, hAb, hle, hB⟩ := hR
        obtain ⟨m, hm⟩ : ∃ m, l.length = m := ⟨_, rfl⟩
        rw [hm]
        rw [hm] at hAn hle
        have HMl := Lib.hid hm
        have HS := Lib.hid hS
        have HSl := Lib.hid hSl
        have HAn := Lib.hid hAn
        have HAb := Lib.hid hAb
        have HB := Lib.hid hB
        clear hS hSl hAn hAb hB hm
        by_cases hlt : k < n
        · have hk' : k < acts.length := by rw [HN.out]; exact hlt
          obtain ⟨⟨kd, id⟩, hp⟩ : ∃ p, acts[k]? = some p := ⟨_, List.getElem?_eq_getElem hk'⟩
          have hc := actCells_at acts k _ hp
          obtain ⟨b, o, rfl, hab, hcell⟩ := HA.out.plain (by rw [actCells_length]; omega)
          have hca := hcell _ _ hc.1
          have hcb := hcell _ _ hc.2
          have ca : wr.cell? ⟨b, o + k * 2, none⟩ = some (.int .i64 kd) := by rw [HB.out.cell (p := ⟨b, o + k * 2, none⟩) hab]; exact hca
          have cb : wr.cell? ⟨b, o + k * 2 + 1, none⟩ = some (.int .i64 id) := by rw [HB.out.cell (p := ⟨b, o + k * 2 + 1, none⟩) hab]; exact hcb
          clear hp hc hca hcb hcell
          by_cases hk0 : kd = 0
          · subst hk0
            have HC9 := Lib.hid (refNote A c mo l id m HMl.out hmo hle wr HSl.out HAn.out)
            go_wp2_with fail
            refine HC9.out.mono ?_
            rintro e w2 ⟨A2, c2, rfl, hS2, hA2, hB2, hn2'⟩
            have HN2 := Lib.hid hS2
            have HA2 := Lib.hid hA2
            have HB2 := Lib.hid hB2
            have HF2 := Lib.hid hn2'
            have HS2 := Lib.hid (HS.out.touch (OnlyIn.of_below (S := []) hB2) (by simp) (by simp) (by simp))
            have hlt3 := HS.out.lts
            have cb2 : w2.cell? ⟨b, o + k * 2 + 1, none⟩ = some (.int .i64 id) := by rw [hB2.cell (p := ⟨b, o + k * 2 + 1, none⟩) (by have := HB.out.size; show b < wr.heap.size; omega)]; exact cb
            have HC8 := Lib.hid (seen_note bs br bm mo l id _ _ w2 HS2.out rfl rfl)
            have hln := note_le mo l id (by rw [HMl.out]; exact hle)
            obtain ⟨mx, hmx⟩ : ∃ mx, (note mo l id).length = mx := ⟨_, rfl⟩
            rw [hmx] at hln ⊢
            obtain ⟨bb, hbb⟩ : ∃ bb, (!decide (id ∈ l)) = bb := ⟨_, rfl⟩
            rw [hbb]
            have HBB := Lib.hid hbb
            rw [hbb] at HC8
            have HMx := Lib.hid hmx
            have hB2' := hB2
            clear hS2 hA2 hn2' hmx hbb hB2
            go_wp2_with fail
            refine HC8.out.mono ?_
            rintro e wx ⟨rfl, hSx, hO3⟩
            have HSx := Lib.hid hSx
            have hA3 : ∀ a, A2 = some a → a.block ≠ bs ∧ a.block ≠ br ∧ a.block ≠ bm := by
              intro a ha
              rcases HF2.out a ha with h | h
              · exact HAb.out a h.symm
              · exact ⟨by omega, by omega, by omega⟩
            have HLx := Lib.hid ((HN2.out.only hO3 (Nat.le_refl _) (fun a ha => by have := hA3 a ha; simp; omega)).mono hO3.size)
            have HBx := Lib.hid ((HB.out.trans (hB2'.mono HB.out.size)).trans (hO3.to_below (B := w.heap.size) (by have := hB2'.size; have := HB.out.size; omega) (by simp; omega)))
            have cbx : wx.cell? ⟨b, o + k * 2 + 1, none⟩ = some (.int .i64 id) := (hO3.cell (p := ⟨b, o + k * 2 + 1, none⟩) (by have := hB2'.size; have := HB.out.size; show b < w2.heap.size; omega) (by simp; omega)).trans cb2
            have HAx := Lib.hid hA3
            clear hSx hO3 hA3 cb2 hB2' cb ca
            have HNx := HA2
            clear HA2
            generalize note mo l id = lx at HSx HLx HMx HNx

            have hbx : b < wx.heap.size := by have := HBx.out.size; omega
            have HC := Lib.hid (all_ok bs br bm mo lx wx.drew (HSx.out.drewN 1))
            go_wp2_with fail
            go_region_held3 (fun w' => w'.cell? ⟨b, o + k * 2 + 1, none⟩ = some (.int .i64 id)) (first | (exact (hB1.cell hbx).trans cbx) | go_keep)
              (first
                | (go_at_call 12; refine HC.out.mono ?_; rintro e w1 ⟨v1, rfl, hown1, hB1⟩; obtain ⟨A1, c1, rfl, hSl1, _⟩ := own_form hown1; rw [HMx.out]; have HS1 := Lib.hid ((HSx.out.drewN 1).touch (OnlyIn.of_below (S := []) hB1) (by simp) (by simp) (by simp)); have HL1 := Lib.hid hSl1; have HL2 := Lib.hid ((HLx.out.drewN 1).below hB1); have HB1 := Lib.hid (HBx.out.drew.trans (hB1.mono HBx.out.size)); clear hown1 hSl1)
                | (go_at_call 11; refine (sameInts A1 A2 c1 c2 _ lx mx HMx.out (by omega) _ HL1.out (HL2.out.mono hB1.size)).mono ?_; rintro e w2 ⟨rfl, n2, rfl⟩)
                | (go_at_call 13; refine (len_ok bs br bm mo lx _ (HS1.out.drewN _)).mono ?_; rintro e w2 ⟨rfl, rfl⟩; rw [HMx.out])
                | (go_at_call 14; refine (has_ok bs br bm mo lx id _ (HS1.out.drewN _)).mono ?_; rintro e w2 ⟨rfl, rfl⟩)
                | (go_at_call 15; refine (refHas A2 c2 wx.heap.size lx id mx HMx.out (by omega) _ (HL2.out.drewN _)).mono ?_; rintro e w2 ⟨rfl, rfl⟩))
            go_wp2_with fail
            have hsz1 : wx.heap.size ≤ w1.heap.size := hB1.size
            exact ⟨⟨k + 1, by omega, by go_num, lx, A2, c2, by rw [HMx.out], HS1.out.drewN _, (HL2.out.drewN _).mono hsz1, HNx.out, HAx.out, by rw [HMx.out]; omega, below_drewN HB1.out _⟩, by simp [intOf]; omega⟩
          · have hk0b : (kd == 0) = false := by rw [beq_eq_false_iff_ne]; exact hk0
            have HK0 := Lib.hid hk0
            clear hk0
            by_cases hk1 : kd = 1
            · subst hk1
              have HC10 := Lib.hid (clear_ok bs br bm mo l wr HS.out)
              go_wp2_with fail
              refine HC10.out.mono ?_
              rintro e wx ⟨rfl, hSx, hO3⟩
              have hlt3 := HS.out.lts
              have HSx := Lib.hid hSx
              have HLx := Lib.hid (Sl.nil wx wx.heap.size none)
              have HBx := Lib.hid (HB.out.trans (hO3.to_below (B := w.heap.size) HB.out.size (by simp; omega)))
              have cbx : wx.cell? ⟨b, o + k * 2 + 1, none⟩ = some (.int .i64 id) := (hO3.cell (p := ⟨b, o + k * 2 + 1, none⟩) (by have := HB.out.size; show b < wr.heap.size; omega) (by simp; omega)).trans cb
              have HMx : Hid (([] : List Int).length = 0) := rfl
              have HAx : Hid (∀ a, (none : Option Addr) = some a → a.block ≠ bs ∧ a.block ≠ br ∧ a.block ≠ bm) := by intro a h; cases h
              clear hSx hO3 cb ca

              have hbx : b < wx.heap.size := by have := HBx.out.size; omega
              have HC := Lib.hid (all_ok bs br bm mo [] wx.drew (HSx.out.drewN 1))
              go_wp2_with fail
              go_region_held3 (fun w' => w'.cell? ⟨b, o + k * 2 + 1, none⟩ = some (.int .i64 id)) (first | (exact (hB1.cell hbx).trans cbx) | go_keep)
                (first
                  | (go_at_call 12; refine HC.out.mono ?_; rintro e w1 ⟨v1, rfl, hown1, hB1⟩; obtain ⟨A1, c1, rfl, hSl1, _⟩ := own_form hown1; rw [HMx.out]; have HS1 := Lib.hid ((HSx.out.drewN 1).touch (OnlyIn.of_below (S := []) hB1) (by simp) (by simp) (by simp)); have HL1 := Lib.hid hSl1; have HL2 := Lib.hid ((HLx.out.drewN 1).below hB1); have HB1 := Lib.hid (HBx.out.drew.trans (hB1.mono HBx.out.size)); clear hown1 hSl1)
                  | (go_at_call 11; refine (sameInts A1 none c1 0 _ [] 0 HMx.out (by omega) _ HL1.out (HL2.out.mono hB1.size)).mono ?_; rintro e w2 ⟨rfl, n2, rfl⟩)
                  | (go_at_call 13; refine (len_ok bs br bm mo [] _ (HS1.out.drewN _)).mono ?_; rintro e w2 ⟨rfl, rfl⟩; rw [HMx.out])
                  | (go_at_call 14; refine (has_ok bs br bm mo [] id _ (HS1.out.drewN _)).mono ?_; rintro e w2 ⟨rfl, rfl⟩)
                  | (go_at_call 15; refine (refHas none 0 wx.heap.size [] id 0 HMx.out (by omega) _ (HL2.out.drewN _)).mono ?_; rintro e w2 ⟨rfl, rfl⟩))
              go_wp2_with fail
              have hsz1 : wx.heap.size ≤ w1.heap.size := hB1.size
              exact ⟨⟨k + 1, by omega, by go_num, [], none, 0, by rw [HMx.out], HS1.out.drewN _, (HL2.out.drewN _).mono hsz1, fun _ => rfl, HAx.out, by rw [HMx.out]; omega, below_drewN HB1.out _⟩, by simp [intOf]; omega⟩
            · have hk1b : (kd == 1) = false := by rw [beq_eq_false_iff_ne]; exact hk1
              have HK1 := Lib.hid hk1
              clear hk1
              obtain ⟨wx, rfl⟩ : ∃ wx : World, wx = wr := ⟨_, rfl⟩
              have hlt3 := HS.out.lts
              have HSx := HS
              have HLx := HSl
              have HBx := HB
              have cbx := cb
              have HMx := HMl
              have HNx := Lib.hid (show A = none → l.length = 0 from fun e => by rw [HMl.out]; exact HAn.out e)
              have HAx := HAb
              clear cb

              have hbx : b < wx.heap.size := by have := HBx.out.size; omega
              have HC := Lib.hid (all_ok bs br bm mo l wx.drew (HSx.out.drewN 1))
              go_wp2_with fail
              go_region_held3 (fun w' => w'.cell? ⟨b, o + k * 2 + 1, none⟩ = some (.int .i64 id)) (first | (exact (hB1.cell hbx).trans cbx) | go_keep)
                (first
                  | (go_at_call 12; refine HC.out.mono ?_; rintro e w1 ⟨v1, rfl, hown1, hB1⟩; obtain ⟨A1, c1, rfl, hSl1, _⟩ := own_form hown1; rw [HMx.out]; have HS1 := Lib.hid ((HSx.out.drewN 1).touch (OnlyIn.of_below (S := []) hB1) (by simp) (by simp) (by simp)); have HL1 := Lib.hid hSl1; have HL2 := Lib.hid ((HLx.out.drewN 1).below hB1); have HB1 := Lib.hid (HBx.out.drew.trans (hB1.mono HBx.out.size)); clear hown1 hSl1)
                  | (go_at_call 11; refine (sameInts A1 A c1 c _ l m HMx.out (by omega) _ HL1.out (HL2.out.mono hB1.size)).mono ?_; rintro e w2 ⟨rfl, n2, rfl⟩)
                  | (go_at_call 13; refine (len_ok bs br bm mo l _ (HS1.out.drewN _)).mono ?_; rintro e w2 ⟨rfl, rfl⟩; rw [HMx.out])
                  | (go_at_call 14; refine (has_ok bs br bm mo l id _ (HS1.out.drewN _)).mono ?_; rintro e w2 ⟨rfl, rfl⟩)
                  | (go_at_call 15; refine (refHas A c wx.heap.size l id m HMx.out (by omega) _ (HL2.out.drewN _)).mono ?_; rintro e w2 ⟨rfl, rfl⟩))
              go_wp2_with fail
              have hsz1 : wx.heap.size ≤ w1.heap.size := hB1.size
              exact ⟨⟨k + 1, by omega, by go_num, l, A, c, by rw [HMx.out], HS1.out.drewN _, (HL2.out.drewN _).mono hsz1, HNx.out, HAx.out, by rw [HMx.out]; omega, below_drewN HB1.out _⟩, by simp [intOf]; omega⟩

        · have : k = n := by omega
          subst this
          go_wp2_with fail
          refine (awake _).mono ?_
          rintro e w4 ⟨rfl, hB4⟩
          have HB4 := Lib.hid (HB.out.trans (hB4.mono HB.out.size))
          clear hB4
          go_wp2
          go_ret
          exact ⟨rfl, HB4.out⟩
  · have hgt : 100 < n := by omega
    go_enter Try.func4, Try.ntmps4
    go_wp2_with fail
    refine (awake _).mono ?_
    rintro e w1 ⟨rfl, hB⟩
    go_wp2
    go_ret
    exact ⟨rfl, hB⟩
end Go.Proofs.Ytmnjgodelnjbkaa
