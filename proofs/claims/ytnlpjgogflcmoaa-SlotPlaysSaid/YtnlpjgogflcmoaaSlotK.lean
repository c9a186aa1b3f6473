/- The walk of SlotOnce. Condition: the arguments fit their types. -/
import Derived.Test.YtnlpjgogflcmoaaSlotJ
import Derived.Deep.CutBlock
namespace Go.Proofs.Ytnlpjgogflcmoaa
open Go.RowKit Go.Lk

theorem place_of {qs : List (Option It)} (h : DistQ qs) {q : Nat} {y : It} (hq : qs[q]? = some (some y)) : placeR qs y.id = some q := by
  cases hp : placeR qs y.id with
  | none => exact absurd rfl (place_no hp q y hq)
  | some q' =>
    obtain ⟨⟨x, hx, hid⟩, _⟩ := place_some hp
    rw [h q' q x y hx hq hid]
theorem itq_mem {qs : List (Option It)} {y : It} (h : y ∈ itq qs) : ∃ q : Nat, qs[q]? = some (some y) := by
  unfold itq at h
  rw [List.mem_filterMap] at h
  obtain ⟨o, ho, hy⟩ := h
  simp only [id] at hy
  subst hy
  exact List.mem_iff_getElem?.1 ho
theorem itq_apart {qs : List (Option It)} (h : DistQ qs) {j k : Nat} {x y : It} (hj : (itq qs)[j]? = some x) (hk : (itq qs)[k]? = some y) (hjk : j < k) : x.id ≠ y.id := by
  have hp : (itq qs).Pairwise (fun a b => a.id ≠ b.id) := by
    unfold itq
    rw [List.pairwise_filterMap, List.pairwise_iff_getElem]
    intro i i' hi hi' hii b hb b' hb' he
    simp only [id] at hb hb'
    have := h i i' b b' (by rw [List.getElem?_eq_getElem hi, hb]) (by rw [List.getElem?_eq_getElem hi', hb']) he
    omega
  rw [List.pairwise_iff_getElem] at hp
  obtain ⟨h1, h2⟩ := List.getElem?_eq_some_iff.1 hj
  obtain ⟨h3, h4⟩ := List.getElem?_eq_some_iff.1 hk
  have := hp j k h1 h3 hjk
  rwa [h2, h4] at this
theorem itq_le (qs : List (Option It)) : (itq qs).length ≤ qs.length := List.length_filterMap_le _ _

def acells (kd now : Int) (x : It) : List Value := [.int .i64 kd, .int .i64 now, .int .i64 x.id, .int .i64 x.lv, .int .i64 x.fr, .int .i64 x.dl, .int .i64 x.bu, .int .i64 x.si, .int .i64 x.sq]
def acts9 (acts : List (Int × Int × It)) : List Value := (acts.map fun a => acells a.1 a.2.1 a.2.2).flatten
theorem acts9_length (acts : List (Int × Int × It)) : (acts9 acts).length = acts.length * 9 := by
  unfold acts9
  rw [flat_length (K := 9) _ (by intro r hr; rw [List.mem_map] at hr; obtain ⟨y, _, rfl⟩ := hr; rfl), List.length_map]
theorem acts9_at (acts : List (Int × Int × It)) (k : Nat) (kd now : Int) (x : It) (h : acts[k]? = some (kd, now, x)) (i : Nat) (hi : i < 9) : (acts9 acts)[k * 9 + i]? = (acells kd now x)[i]? := by
  unfold acts9
  rw [flat_get (K := 9) _ (by intro r hr; rw [List.mem_map] at hr; obtain ⟨y, _, rfl⟩ := hr; rfl) k i hi, List.getElem?_map, h]
  rfl

/-- The places, and the act that is being done. -/
structure On (w wx : World) (bs n : Nat) (qs : List (Option It)) (ba : Nat) (kd now : Int) (x : It) : Prop where
  sq : Sq wx bs n qs
  lo : w.heap.size ≤ bs
  below : Below w.heap.size w wx
  act : wx.heap[ba]? = some (.cells (acells kd now x).toArray 31 (0, 0))
  ne : ba ≠ bs
section
variable {w wx wy : World} {bs n : Nat} {qs qs' : List (Option It)} {ba : Nat} {kd now : Int} {x : It}
theorem On.calm (h : On w wx bs n qs ba kd now x) (hb : Below wx.heap.size wx wy) : On w wy bs n qs ba kd now x :=
  ⟨h.sq.below hb, h.lo, h.below.trans (hb.mono h.below.size), (hb.block _ (heap_lt h.act)).trans h.act, h.ne⟩
theorem On.step (h : On w wx bs n qs ba kd now x) (hs : Sq wy bs n qs') (ho : OnlyIn [bs] wx wy) : On w wy bs n qs' ba kd now x :=
  ⟨hs, h.lo, h.below.trans (ho.to_below h.below.size (by simp; exact h.lo)), (ho.block _ (heap_lt h.act) (by simp; exact h.ne)).trans h.act, h.ne⟩
theorem On.cells (h : On w wx bs n qs ba kd now x) : wx.cell? ⟨ba, 0, none⟩ = some (.int .i64 kd) ∧ wx.cell? ⟨ba, 1, none⟩ = some (.int .i64 now) ∧ wx.cell? ⟨ba, 2, none⟩ = some (.int .i64 x.id) ∧ wx.cell? ⟨ba, 3, none⟩ = some (.int .i64 x.lv) ∧ wx.cell? ⟨ba, 4, none⟩ = some (.int .i64 x.fr) ∧ wx.cell? ⟨ba, 5, none⟩ = some (.int .i64 x.dl) ∧
    wx.cell? ⟨ba, 6, none⟩ = some (.int .i64 x.bu) ∧ wx.cell? ⟨ba, 7, none⟩ = some (.int .i64 x.si) ∧ wx.cell? ⟨ba, 8, none⟩ = some (.int .i64 x.sq) := by
  refine ⟨?_, ?_, ?_, ?_, ?_, ?_, ?_, ?_, ?_⟩ <;> (rw [cell_of_row wx ba _ _ _ _ h.act]; rfl)
end
/-- What holds at the head of each round. -/
def SR (w : World) (bs n : Nat) (wr : World) : Prop := ∃ qs, Sq wr bs n qs ∧ w.heap.size ≤ bs ∧ Below w.heap.size w wr

set_option maxRecDepth 100000 in
set_option maxHeartbeats 8000000 in
theorem onceWalk (wk : Nat) (hwk : wk ≤ 255) (A0 : Option Addr) (c0 : Nat) (acts : List (Int × Int × It)) (l : Nat) (hl : acts.length = l) (hl3 : l ≤ 9223372036854775807) (w : World) (ha : Sl w w.heap.size A0 (acts9 acts)) :
    Calls Try.prog 3 #[.int .u8 (wk : Int), .slice A0 l c0] w fun e w' => e = .returned (.bool true) ∧ Below w.heap.size w w' := by
  have HN := Lib.hid hl
  have HA := Lib.hid ha
  clear ha hl
  go_enter Try.func3, Try.ntmps3
  by_cases hm : l ≤ 100
  · have hm' : ¬ 100 < l := by omega
    obtain ⟨n, hnn⟩ : ∃ n : Nat, 1 + (wk : Int) % 16 = (n : Int) := ⟨1 + wk % 16, by omega⟩
    have hn1 : 1 ≤ n := by omega
    have hn16 : n ≤ 16 := by omega
    go_upto_region 4 with fail
    clear hnn hwk
    go_wp2_with fail
    refine (q_new w n hn1 hn16).mono ?_
    rintro e w1 ⟨bs, rfl, hS1, hbs, hB1⟩
    have HS1 := Lib.hid hS1
    have HB1 := Lib.hid hB1
    clear hS1 hB1
    go_wp2_with fail
    go_loopw [8] (fun i wr => ∃ k : Nat, k ≤ l ∧ i = .int .i64 k ∧ SR w bs n wr) (fun i _ => l - (intOf i).toNat)
    case atStart => exact ⟨0, by omega, rfl, _, HS1.out, hbs, HB1.out⟩
    case round =>
      obtain ⟨k, hk, rfl, hR⟩ := hrel
      by_cases hlt : k < l
      · have hk' : k < acts.length := by rw [HN.out]; exact hlt
        obtain ⟨⟨kd, now, x⟩, hp⟩ : ∃ p, acts[k]? = some p := ⟨_, List.getElem?_eq_getElem hk'⟩
        have hc := acts9_at acts k kd now x hp
        obtain ⟨b, o, rfl, hab, hcell⟩ := HA.out.plain (by rw [acts9_length]; omega)
        obtain ⟨qs, hS, hlo, hB⟩ := hR
        have cc : ∀ i, i < 9 → ∀ v, (acells kd now x)[i]? = some v → wr.cell? ⟨b, o + k * 9 + i, none⟩ = some v := by
          intro i hi v hv
          rw [hB.cell (p := ⟨b, o + k * 9 + i, none⟩) hab, Nat.add_assoc]
          exact hcell _ _ ((hc i hi).trans hv)
        have d0 : wr.cell? ⟨b, o + k * 9, none⟩ = some (.int .i64 kd) := cc 0 (by omega) _ rfl
        have d1 := cc 1 (by omega) _ rfl
        have d2 := cc 2 (by omega) _ rfl
        have d3 := cc 3 (by omega) _ rfl
        have d4 := cc 4 (by omega) _ rfl
        have d5 := cc 5 (by omega) _ rfl
        have d6 := cc 6 (by omega) _ rfl
        have d7 := cc 7 (by omega) _ rfl
        have d8 := cc 8 (by omega) _ rfl
        have hO : On w (wr.alloc (.cells (acells kd now x).toArray 31)) bs n qs wr.heap.size kd now x :=
          ⟨hS.below ((Below.refl _ _).alloc (Nat.le_refl _) _), hlo, hB.alloc hB.size _, heap_alloc_new wr _, by have := hS.lt; omega⟩
        have HO := Lib.hid hO
        clear cc hp hc hcell hS hB hO
        unfold acells at HO
        go_upto_block 2 with fail
        generalize wr.alloc (.cells #[.int .i64 kd, .int .i64 now, .int .i64 x.id, .int .i64 x.lv, .int .i64 x.fr, .int .i64 x.dl, .int .i64 x.bu, .int .i64 x.si, .int .i64 x.sq] 31) = wa at *
        generalize wr.heap.size = ba at *
        clear d0 d1 d2 d3 d4 d5 d6 d7 d8
        obtain ⟨a0, a1, a2, a3, a4, a5, a6, a7, a8⟩ := HO.out.cells
        go_cut [] from 30 to 139 (fun wx => ∃ qs', On w wx bs n qs' ba kd now x ∧ (kd = 2 → ∀ y ∈ itq qs', now < y.dl))
        case first =>
          by_cases hk0 : kd = 0
          · subst hk0
            have HP := Lib.hid (q_put bs n qs wa HO.out.sq x)
            unfold It.arr at HP
            go_wp2_with fail
            refine HP.out.mono ?_
            rintro e wx ⟨rfl, hS2, hO2⟩
            have HX := Lib.hid (HO.out.step hS2 hO2)
            clear hS2 hO2
            go_wp2_with fail
            go_meet
            exact ⟨_, HX.out, by omega⟩
          · have hk0b : (kd == 0) = false := by rw [beq_eq_false_iff_ne]; exact hk0
            clear hk0
            by_cases hk1 : kd = 1
            · subst hk1
              have HP := Lib.hid (q_take bs n qs wa HO.out.sq x.id)
              unfold It.arr at HP
              go_wp2_with fail
              refine HP.out.mono ?_
              rintro e wx ⟨rfl, hS2, hO2⟩
              have HX := Lib.hid (HO.out.step hS2 hO2)
              clear hS2 hO2
              go_wp2_with fail
              go_meet
              exact ⟨_, HX.out, by omega⟩
            · have hk1b : (kd == 1) = false := by rw [beq_eq_false_iff_ne]; exact hk1
              clear hk1
              by_cases hk2 : kd = 2
              · subst hk2
                have HP := Lib.hid (q_late bs n qs wa HO.out.sq now)
                go_wp2_with fail
                refine HP.out.mono ?_
                rintro e wx ⟨u, rfl, _, hS2, hO2⟩
                have HX := Lib.hid (HO.out.step hS2 hO2)
                clear hS2 hO2
                go_wp2_with fail
                go_meet
                exact ⟨_, HX.out, fun _ y hy => by obtain ⟨q, hq⟩ := itq_mem hy; exact (stay_some hq).2⟩
              · have hk2b : (kd == 2) = false := by rw [beq_eq_false_iff_ne]; exact hk2
                have HK2 := Lib.hid hk2
                clear hk2
                go_wp2_with fail
                go_meet
                exact ⟨_, HO.out, fun h => absurd h HK2.out⟩
        case rest =>
          obtain ⟨qx, hX, hD⟩ := hcut
          have HX := Lib.hid hX
          have HD := Lib.hid hD
          clear hX hD HO a0 a1 a2 a3 a4 a5 a6 a7 a8
          generalize wc = w2 at *
          have hlen : (itq qx).length ≤ n := by have h1 := itq_le qx; have h2 := HX.out.sq.len; omega
          obtain ⟨m, hm0⟩ : ∃ m, (itq qx).length = m := ⟨_, rfl⟩
          rw [hm0] at hlen
          have HM := Lib.hid hm0
          clear hm0
          have HAll := Lib.hid (q_all bs n qx w2 HX.out.sq)
          rw [HM.out] at HAll
          have hdm : decide ((n : Int) < (m : Int)) = false := by simp; omega
          have hdm2 : ¬ (n : Int) < (m : Int) := by omega
          have hdn : decide (n < m) = false := by simp; omega
          have hwr : IntKind.i64.wrap ((n : Int) - (m : Int)) = (n : Int) - (m : Int) := by rw [IntKind.wrap_i64]; omega
          go_wp2_with fail
          refine HAll.out.mono ?_
          rintro e w3 ⟨u, rfl, hown, hB3⟩
          have HX3 := Lib.hid (HX.out.calm hB3)
          obtain ⟨A, c, rfl⟩ := own_slice hown
          have HW3 := Lib.hid hown
          have HF := Lib.hid (q_free bs n qx w3 HX3.out.sq)
          rw [HM.out] at HF
          clear hown hB3 HAll HX
          go_wp2_with fail
          refine HF.out.mono ?_
          rintro e w4 ⟨rfl, hB4⟩
          have HX4 := Lib.hid (HX3.out.calm hB4)
          have HW4 := Lib.hid ((OnlyIn.of_below (S := []) hB4).own HW3.out (by simp))
          clear hB4 HX3 HW3 HF
          go_wp2_with fail
          clear hdm hdm2 hdn hwr
          go_loopw [11] (fun i wr' => ∃ k2 : Nat, k2 ≤ m ∧ i = .int .i64 k2 ∧ Below w4.heap.size w4 wr') (fun i _ => m - (intOf i).toNat)
          case atStart => exact ⟨0, by omega, rfl, Below.refl _ _⟩
          case round =>
            obtain ⟨k2, hk2, rfl, hBr⟩ := hrel
            have HBr := Lib.hid hBr
            clear hBr
            by_cases hlt2 : k2 < m
            · obtain ⟨y, hy⟩ : ∃ y, (itq qx)[k2]? = some y := ⟨_, List.getElem?_eq_getElem (by rw [HM.out]; exact hlt2)⟩
              have HY := Lib.hid hy
              obtain ⟨q, hq⟩ := itq_mem (List.mem_of_getElem? hy)
              have hpl := place_of HX4.out.sq.dist hq
              have hat : atR qx (q : Int) = some y := by simp [atR, hq]
              have hXr := HX4.out.calm HBr.out
              have HPl := Lib.hid (q_place bs n qx _ hXr.sq y.id)
              have HAt := Lib.hid (q_at bs n qx _ hXr.sq (q : Int))
              rw [hpl] at HPl
              rw [hat] at HAt
              simp only [Option.getD_some, Option.isSome_some] at HPl HAt
              have HXr := Lib.hid hXr
              obtain ⟨g, cap, hv, hg1, hg2, hnc, hcell, _⟩ := own_posN HW4.out (by omega)
              injection hv with hA hn hc
              subst hA hc
              clear hn
              have HCe : Hid (∀ wv : World, Below w4.heap.size w4 wv → ∀ (j : Nat) (z : It), (itq qx)[j]? = some z → ∀ i, i < 7 → ∀ v, z.arr.toList[i]? = some v → wv.cell? ⟨g, j * 7 + i, none⟩ = some v) := by
                intro wv hb j z hz i hi v hv
                rw [hb.cell (p := ⟨g, j * 7 + i, none⟩) hg2]
                exact hcell _ _ ((itc_get _ j z hz i hi).trans hv)
              have c0 : wr.cell? ⟨g, k2 * 7, none⟩ = some (.int .i64 y.id) := HCe.out _ HBr.out k2 y hy 0 (by omega) _ rfl
              clear hy hq hpl hat hXr hcell
              unfold It.arr at HAt
              go_wp2_with fail
              refine HPl.out.mono ?_
              rintro e w5 ⟨rfl, hw⟩
              subst hw
              go_wp2_with fail
              refine HAt.out.mono ?_
              rintro e w6 ⟨rfl, hB6⟩
              have hBt := HBr.out.trans (hB6.mono HBr.out.size)
              have hBt7 := hBt.alloc hBt.size (.cells y.arr 29)
              have HX7 := Lib.hid (HX4.out.calm hBt7)
              obtain ⟨y0, y1, y2, y3, y4, y5, y6⟩ := It.cell y (heap_alloc_new w6 (.cells y.arr 29))
              obtain ⟨a0, a1, _⟩ := HX7.out.cells
              have HB7 := Lib.hid hBt7
              have c0 : (w6.alloc (.cells y.arr 29)).cell? ⟨g, k2 * 7, none⟩ = some (.int .i64 y.id) := HCe.out _ HB7.out k2 y HY.out 0 (by omega) _ rfl
              have c1 := HCe.out _ HB7.out k2 y HY.out 1 (by omega) _ rfl
              have c2 := HCe.out _ HB7.out k2 y HY.out 2 (by omega) _ rfl
              have c3 := HCe.out _ HB7.out k2 y HY.out 3 (by omega) _ rfl
              have c4 := HCe.out _ HB7.out k2 y HY.out 4 (by omega) _ rfl
              have c5 := HCe.out _ HB7.out k2 y HY.out 5 (by omega) _ rfl
              have c6 := HCe.out _ HB7.out k2 y HY.out 6 (by omega) _ rfl
              clear hB6 hBt hBt7
              unfold It.arr at *
              go_wp2_with fail
              generalize w6.alloc (.cells #[.int .i64 y.id, .int .i64 y.lv, .int .i64 y.fr, .int .i64 y.dl, .int .i64 y.bu, .int .i64 y.si, .int .i64 y.sq] 29) = w7 at *
              generalize w6.heap.size = bx at *
              by_cases hkd : kd = 2
              · subst hkd
                have hdl := HD.out rfl y (List.mem_of_getElem? HY.out)
                have hdd : decide (y.dl ≤ now) = false := decide_eq_false (by omega)
                have hdd2 : ¬ y.dl ≤ now := by omega
                clear hdl
                go_quiet (fail)
                go_wp2_with fail
                go_loopw [16] (fun i wr' => ∃ j m2 : Nat, j ≤ k2 ∧ i = .int .i64 j ∧ wr' = w7.drewN m2) (fun i _ => k2 - (intOf i).toNat)
                case atStart => exact ⟨0, _, by omega, rfl, rfl⟩
                case round =>
                  obtain ⟨j, m2, hj, rfl, rfl⟩ := hrel
                  by_cases hlt3 : j < k2
                  · obtain ⟨z, hz⟩ : ∃ z, (itq qx)[j]? = some z := ⟨_, List.getElem?_eq_getElem (by rw [HM.out]; omega)⟩
                    have hne : (z.id == y.id) = false := by rw [beq_eq_false_iff_ne]; exact itq_apart HX7.out.sq.dist hz HY.out hlt3
                    have cz : w7.cell? ⟨g, j * 7, none⟩ = some (.int .i64 z.id) := HCe.out _ HB7.out j z hz 0 (by omega) _ rfl
                    have hjm : j < m := by omega
                    clear hz
                    go_wp2_with fail
                    go_quiet (fail)
                    go_wp2_with fail
                    exact ⟨⟨j + 1, _, by omega, by go_num, rfl⟩, by simp [intOf]; omega⟩
                  · have : j = k2 := by omega
                    subst this
                    go_wp2_with fail
                    exact ⟨⟨j + 1, by omega, by go_num, below_drewN HB7.out _⟩, by simp [intOf]; omega⟩
              · have hkb : (kd == 2) = false := by rw [beq_eq_false_iff_ne]; exact hkd
                clear hkd
                go_quiet (fail)
                go_wp2_with fail
                go_loopw [16] (fun i wr' => ∃ j m2 : Nat, j ≤ k2 ∧ i = .int .i64 j ∧ wr' = w7.drewN m2) (fun i _ => k2 - (intOf i).toNat)
                case atStart => exact ⟨0, _, by omega, rfl, rfl⟩
                case round =>
                  obtain ⟨j, m2, hj, rfl, rfl⟩ := hrel
                  by_cases hlt3 : j < k2
                  · obtain ⟨z, hz⟩ : ∃ z, (itq qx)[j]? = some z := ⟨_, List.getElem?_eq_getElem (by rw [HM.out]; omega)⟩
                    have hne : (z.id == y.id) = false := by rw [beq_eq_false_iff_ne]; exact itq_apart HX7.out.sq.dist hz HY.out hlt3
                    have cz : w7.cell? ⟨g, j * 7, none⟩ = some (.int .i64 z.id) := HCe.out _ HB7.out j z hz 0 (by omega) _ rfl
                    have hjm : j < m := by omega
                    clear hz
                    go_wp2_with fail
                    go_quiet (fail)
                    go_wp2_with fail
                    exact ⟨⟨j + 1, _, by omega, by go_num, rfl⟩, by simp [intOf]; omega⟩
                  · have : j = k2 := by omega
                    subst this
                    go_wp2_with fail
                    exact ⟨⟨j + 1, by omega, by go_num, below_drewN HB7.out _⟩, by simp [intOf]; omega⟩
            · have : k2 = m := by omega
              subst this
              have HE : Hid (SR w bs n wr) := ⟨qx, (HX4.out.calm HBr.out).sq, HX4.out.lo, (HX4.out.calm HBr.out).below⟩
              go_wp2_with fail
              exact ⟨⟨k + 1, by omega, by go_num, HE.out⟩, by simp [intOf]; omega⟩
      · have : k = l := by omega
        subst this
        obtain ⟨qs, hS, hb, hB⟩ := hR
        have HB := Lib.hid hB
        clear hS hb hB
        go_wp2_with fail
        refine (awake31 _).mono ?_
        rintro e w4 ⟨rfl, hB4⟩
        have HB4 := Lib.hid (HB.out.trans (hB4.mono HB.out.size))
        clear hB4
        go_wp2
        go_ret
        exact ⟨rfl, HB4.out⟩
  · go_wp2_with fail
    refine (awake31 _).mono ?_
    rintro e w1 ⟨rfl, hB⟩
    go_wp2
    go_ret
    exact ⟨rfl, hB⟩
end Go.Proofs.Ytnlpjgogflcmoaa
