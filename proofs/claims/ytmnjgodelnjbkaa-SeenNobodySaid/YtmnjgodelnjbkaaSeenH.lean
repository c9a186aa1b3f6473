/- The walk of SeenOnce. Condition: the arguments fit their types. -/
import Derived.Test.YtmnjgodelnjbkaaSeenF
namespace Go.Proofs.Ytmnjgodelnjbkaa
open Go.RowKit Go.Lk Go.Proofs.SeenLaw

/-- Is x among those so far asked? -/
def Among (F : List Int) (f j : Nat) (x : Int) (bb : Bool) : Prop := bb = true ↔ ∃ i, 1 ≤ i ∧ i < j ∧ F[f - i]? = some x
theorem Among.out {F : List Int} {f j : Nat} {x : Int} {bb : Bool} (h : Among F f j x bb) : bb = true ↔ ∃ i, 1 ≤ i ∧ i < j ∧ F[f - i]? = some x := h

/-- What holds at the head of each round: F: the new ones so far. -/
def OnceRel (w : World) (bs br bm most base k : Nat) (v7 : Value) (wr : World) : Prop :=
  ∃ F : List Int, SeenAt wr bs br bm most (win most F) ∧ wr.ownsRow base 3 1 v7 F.length (ints F) ∧ F.length ≤ k ∧ base ≤ wr.heap.size ∧ Below w.heap.size w wr

set_option maxRecDepth 100000 in
set_option maxHeartbeats 2000000 in
theorem onceWalk (most : Nat) (hmo : most ≤ 255) (A0 : Option Addr) (c0 : Nat) (xs : List Int) (n : Nat) (hn : xs.length = n) (hn3 : n ≤ 9223372036854775807) (w : World) (ha : Sl w w.heap.size A0 (ints xs)) :
    Calls Try.prog 3 #[.int .u8 (most : Int), .slice A0 n c0] w fun e w' => e = .returned (.bool true) ∧ Below w.heap.size w w' := by
  have HN := Lib.hid hn
  have HA := Lib.hid ha
  obtain ⟨i0, hi0, hz0, hz1, hz2⟩ := info_parts Try.info3
  clear ha hn
  by_cases hn2 : n ≤ 100
  · go_enter Try.func3, Try.ntmps3
    go_wp2_with fail
    refine (new_ok most (by omega) _).mono ?_
    rintro e w1 ⟨bs, br, bm, rfl, hS1, hbs, hbr, hbm, hB1⟩
    have hlt := hS1.lts
    have HS1 := Lib.hid hS1
    have HB1 := Lib.hid hB1
    obtain ⟨base, hbase⟩ : ∃ base, base = w1.heap.size := ⟨_, rfl⟩
    rw [← hbase] at hlt
    have HBa := Lib.hid hbase
    clear hS1 hB1 hbase
    go_wp2_with fail
    go_loopw [7, 8] (fun v i wr => ∃ k : Nat, k ≤ n ∧ i = .int .i64 k ∧ OnceRel w bs br bm most base k v wr) (fun _ i _ => n - (intOf i).toNat)
    case atStart => exact ⟨0, by omega, rfl, [], (by simpa [win] using HS1.out), World.ownsRow_nil _ _ _ _, by simp, by rw [HBa.out]; exact Nat.le_refl _, HB1.out⟩
    case round =>
      obtain ⟨k, hk, rfl, F, hS, hown, hF, hbw, hB⟩ := hrel
      obtain ⟨f, hf⟩ : ∃ f, F.length = f := ⟨_, rfl⟩
      rw [hf] at hown hF
      by_cases hlt2 : k < n
      · have hk' : k < xs.length := by rw [HN.out]; exact hlt2
        obtain ⟨x, hx⟩ : ∃ x, xs[k]? = some x := ⟨_, List.getElem?_eq_getElem hk'⟩
        obtain ⟨b, o, rfl, hab, hcell⟩ := HA.out.plain (by unfold ints; rw [List.length_map]; omega)
        have hca := hcell k (.int .i64 x) (by unfold ints; rw [List.getElem?_map, hx]; rfl)
        have ca : wr.cell? ⟨b, o + k, none⟩ = some (.int .i64 x) := by rw [hB.cell (p := ⟨b, o + k, none⟩) hab]; exact hca
        obtain ⟨A, c, rfl, hSl, _⟩ := own_form hown
        have HF := Lib.hid hf
        have HS := Lib.hid hS
        have HO := Lib.hid hown
        have HB := Lib.hid hB
        have HSl := Lib.hid hSl
        have hbo : ∀ j, (Value.slice A f c).ownBlock = some j → j ∉ [bs, br, bm] := fun j hj => by have := (hown.lt j hj).1; simp; omega
        have HBO := Lib.hid hbo
        clear hx hca hcell hS hown hB hSl hf hbo
        go_wp2_with fail
        obtain ⟨wo, rfl⟩ : ∃ wo : World, wo = wr := ⟨_, rfl⟩
        go_loopw [9, 10] (fun v9 v10 wi => ∃ (j m : Nat) (bb : Bool), 1 ≤ j ∧ j ≤ f + 1 ∧ j ≤ most + 1 ∧ v10 = .int .i64 (j : Int) ∧ v9 = .bool bb ∧ wi = wo.drewN m ∧ Among F f j x bb) (fun _ v10 _ => f + 1 - (intOf v10).toNat)
        case atStart => exact ⟨1, 0, false, by omega, by omega, by omega, rfl, rfl, rfl, by constructor; (intro h; cases h); (rintro ⟨i, h1, h2, _⟩; omega)⟩
        case round =>
          obtain ⟨j, m, bb, hj1, hjf, hjm, rfl, rfl, rfl, HJ⟩ := hrel
          by_cases hin : j ≤ most ∧ j ≤ f
          · obtain ⟨hja, hjb⟩ := hin
            have hfj : f - j < F.length := by rw [HF.out]; omega
            obtain ⟨y, hy⟩ : ∃ y, F[f - j]? = some y := ⟨_, List.getElem?_eq_getElem hfj⟩
            obtain ⟨ad, rfl, _, hcy⟩ := HSl.out (f - j) (.int .i64 y) (by unfold ints; rw [List.getElem?_map, hy]; rfl)
            have HY := Lib.hid hy
            clear hy
            cases bb with
            | true =>
              go_wp2_with fail
              go_quiet (fail)
              go_wp2_with fail
              refine ⟨⟨j + 1, _, true, by omega, by omega, by omega, by go_num, rfl, rfl, ?_⟩, by simp [intOf]; omega⟩
              obtain ⟨i, h1, h2, h3⟩ := HJ.out.1 rfl
              exact ⟨fun _ => ⟨i, h1, by omega, h3⟩, fun _ => rfl⟩
            | false =>
              go_wp2_with fail
              go_quiet (fail)
              go_wp2_with fail
              refine ⟨⟨j + 1, _, y == x, by omega, by omega, by omega, by go_num, rfl, rfl, ?_⟩, by simp [intOf]; omega⟩
              constructor
              · intro h
                exact ⟨j, hj1, by omega, by rw [HY.out, beq_iff_eq.1 h]⟩
              · rintro ⟨i, h1, h2, h3⟩
                rcases Nat.lt_or_ge i j with h | h
                · have := HJ.out.2 ⟨i, h1, h, h3⟩
                  cases this
                · have : i = j := by omega
                  subst this
                  rw [HY.out] at h3
                  injection h3 with h3
                  rw [beq_iff_eq]; exact h3
          · have hbb : bb = decide (x ∈ win most F) := by
              cases bb with
              | true =>
                obtain ⟨i, h1, h2, h3⟩ := HJ.out.1 rfl
                exact (decide_eq_true ((mem_win most F x).2 ⟨i, h1, by omega, by rw [HF.out]; omega, by rw [HF.out]; exact h3⟩)).symm
              | false =>
                refine (decide_eq_false fun hm => ?_).symm
                obtain ⟨i, h1, h2, h3, h4⟩ := (mem_win most F x).1 hm
                rw [HF.out] at h3 h4
                have := HJ.out.2 ⟨i, h1, by omega, h4⟩
                cases this
            have hlts := HS.out.lts
            have hlo : b < wo.heap.size := by have := HB.out.size; omega
            have HNX := Lib.hid hbb
            clear hbb HJ
            have hca : (wo.drewN m).cell? ⟨b, o + k, none⟩ = some (.int .i64 x) := ca
            cases bb with
            | true =>
              have HC8 := Lib.hid (seen_note bs br bm most (win most F) x false (win most F) (wo.drewN m) (HS.out.drewN m) (by rw [← HNX.out]; rfl) (note_old _ _ _ (of_decide_eq_true HNX.out.symm)))
              by_cases hjm2 : j ≤ most
              · have hjf2 : f < j := by omega
                have hd1 : decide ((j : Int) ≤ (most : Int)) = true := by simp; omega
                have hd2 : decide ((j : Int) ≤ (f : Int)) = false := by simp; omega
                clear hin
                go_wp2_with fail
                refine HC8.out.mono ?_
                rintro e w2 ⟨rfl, hS2, hO2⟩
                have HS2 := Lib.hid hS2
                have HB2 := Lib.hid ((below_drewN HB.out m).trans (hO2.to_below (B := w.heap.size) HB.out.size (by simp; omega)))
                have HO2 := Lib.hid (hO2.own (own_drewN HO.out m) HBO.out)
                have hsz2 : wo.heap.size ≤ w2.heap.size := hO2.size
                clear hS2 hO2
                go_wp2_with fail
                exact ⟨⟨k + 1, by omega, by go_num, F, HS2.out, (by rw [HF.out]; exact HO2.out), by rw [HF.out]; omega, by omega, HB2.out⟩, by simp [intOf]; omega⟩
              · have hd1 : decide ((j : Int) ≤ (most : Int)) = false := by simp; omega
                clear hin
                go_wp2_with fail
                refine HC8.out.mono ?_
                rintro e w2 ⟨rfl, hS2, hO2⟩
                have HS2 := Lib.hid hS2
                have HB2 := Lib.hid ((below_drewN HB.out m).trans (hO2.to_below (B := w.heap.size) HB.out.size (by simp; omega)))
                have HO2 := Lib.hid (hO2.own (own_drewN HO.out m) HBO.out)
                have hsz2 : wo.heap.size ≤ w2.heap.size := hO2.size
                clear hS2 hO2
                go_wp2_with fail
                exact ⟨⟨k + 1, by omega, by go_num, F, HS2.out, (by rw [HF.out]; exact HO2.out), by rw [HF.out]; omega, by omega, HB2.out⟩, by simp [intOf]; omega⟩
            | false =>
              have hno : x ∉ win most F := of_decide_eq_false HNX.out.symm
              have HC8 := Lib.hid (seen_note bs br bm most (win most F) x true (win most (F ++ [x])) (wo.drewN m) (HS.out.drewN m) (by rw [← HNX.out]; rfl) (win_note most F x hno))
              clear hno
              by_cases hjm2 : j ≤ most
              · have hjf2 : f < j := by omega
                have hd1 : decide ((j : Int) ≤ (most : Int)) = true := by simp; omega
                have hd2 : decide ((j : Int) ≤ (f : Int)) = false := by simp; omega
                clear hin
                go_wp2_with fail
                refine HC8.out.mono ?_
                rintro e w2 ⟨rfl, hS2, hO2⟩
                have HS2 := Lib.hid hS2
                have HB2 := Lib.hid ((below_drewN HB.out m).trans (hO2.to_below (B := w.heap.size) HB.out.size (by simp; omega)))
                have HO2 := Lib.hid (hO2.own (own_drewN HO.out m) HBO.out)
                have hsz2 : wo.heap.size ≤ w2.heap.size := hO2.size
                have cb : w2.cell? ⟨b, o + k, none⟩ = some (.int .i64 x) := (hO2.cell (p := ⟨b, o + k, none⟩) hlo (by simp; omega)).trans hca
                clear hS2 hO2 hca ca
                go_wp2_with (at_builtin; refine append1 _ rfl _ _ 22 rfl base 3 i0 (.int .i64 0) 8 Try.underlying22 hi0 hz0 hz1 hz2 rfl _ f _ rfl (HO2.out.alloc _) _ 1 (.int .i64 x) rfl ?c1 rfl (by omega) (by omega) ?c2 ?_)
                case c1 => simp
                case c2 => simp; omega
                intro v' w3 hown3 hg3 hat3
                have HB3 := Lib.hid ((HB2.out.alloc HB2.out.size (.cells #[Value.int .i64 x] 3)).grown hg3 (by simp; have := HB2.out.size; omega) (fun j hj => by have := (HO2.out.lt j hj).1; omega))
                have hnot : ∀ q, q < base → q ∉ (Value.slice A f c).ownBlock.toList := fun q hq hm => by have := (HO2.out.lt q (by simpa using hm)).1; omega
                have HS3 := Lib.hid (HS2.out.touch (((OnlyIn.refl (Value.slice A f c).ownBlock.toList w2).alloc (.cells #[Value.int .i64 x] 3)).grown hg3 (fun j hj => Or.inl (by rw [hj]; simp))) (hnot _ hlt.1) (hnot _ hlt.2.1) (hnot _ hlt.2.2))
                clear hnot
                have e3 : ints F ++ [Value.int .i64 x] = ints (F ++ [x]) := by simp [ints]
                rw [e3] at hown3
                have HO3 := Lib.hid hown3
                have hsz3 : w2.heap.size + 1 ≤ w3.heap.size := by have := hg3.size; simpa using this
                clear hown3 hg3 hat3 cb
                go_wp2_with fail
                exact ⟨⟨k + 1, by omega, by go_num, F ++ [x], HS3.out, (by rw [List.length_append, HF.out]; exact HO3.out), by rw [List.length_append, HF.out]; simp; omega, by omega, HB3.out⟩, by simp [intOf]; omega⟩
              · have hd1 : decide ((j : Int) ≤ (most : Int)) = false := by simp; omega
                clear hin
                go_wp2_with fail
                refine HC8.out.mono ?_
                rintro e w2 ⟨rfl, hS2, hO2⟩
                have HS2 := Lib.hid hS2
                have HB2 := Lib.hid ((below_drewN HB.out m).trans (hO2.to_below (B := w.heap.size) HB.out.size (by simp; omega)))
                have HO2 := Lib.hid (hO2.own (own_drewN HO.out m) HBO.out)
                have hsz2 : wo.heap.size ≤ w2.heap.size := hO2.size
                have cb : w2.cell? ⟨b, o + k, none⟩ = some (.int .i64 x) := (hO2.cell (p := ⟨b, o + k, none⟩) hlo (by simp; omega)).trans hca
                clear hS2 hO2 hca ca
                go_wp2_with (at_builtin; refine append1 _ rfl _ _ 22 rfl base 3 i0 (.int .i64 0) 8 Try.underlying22 hi0 hz0 hz1 hz2 rfl _ f _ rfl (HO2.out.alloc _) _ 1 (.int .i64 x) rfl ?c1 rfl (by omega) (by omega) ?c2 ?_)
                case c1 => simp
                case c2 => simp; omega
                intro v' w3 hown3 hg3 hat3
                have HB3 := Lib.hid ((HB2.out.alloc HB2.out.size (.cells #[Value.int .i64 x] 3)).grown hg3 (by simp; have := HB2.out.size; omega) (fun j hj => by have := (HO2.out.lt j hj).1; omega))
                have hnot : ∀ q, q < base → q ∉ (Value.slice A f c).ownBlock.toList := fun q hq hm => by have := (HO2.out.lt q (by simpa using hm)).1; omega
                have HS3 := Lib.hid (HS2.out.touch (((OnlyIn.refl (Value.slice A f c).ownBlock.toList w2).alloc (.cells #[Value.int .i64 x] 3)).grown hg3 (fun j hj => Or.inl (by rw [hj]; simp))) (hnot _ hlt.1) (hnot _ hlt.2.1) (hnot _ hlt.2.2))
                clear hnot
                have e3 : ints F ++ [Value.int .i64 x] = ints (F ++ [x]) := by simp [ints]
                rw [e3] at hown3
                have HO3 := Lib.hid hown3
                have hsz3 : w2.heap.size + 1 ≤ w3.heap.size := by have := hg3.size; simpa using this
                clear hown3 hg3 hat3 cb
                go_wp2_with fail
                exact ⟨⟨k + 1, by omega, by go_num, F ++ [x], HS3.out, (by rw [List.length_append, HF.out]; exact HO3.out), by rw [List.length_append, HF.out]; simp; omega, by omega, HB3.out⟩, by simp [intOf]; omega⟩
      · have : k = n := by omega
        subst this
        go_wp2_with fail
        refine (awake _).mono ?_
        rintro e w4 ⟨rfl, hB4⟩
        have HB4 := Lib.hid (hB.trans (hB4.mono hB.size))
        clear hB4
        go_wp2
        go_ret
        exact ⟨rfl, HB4.out⟩
  · have hgt : 100 < n := by omega
    go_enter Try.func3, Try.ntmps3
    go_wp2_with fail
    refine (awake _).mono ?_
    rintro e w1 ⟨rfl, hB⟩
    go_wp2
    go_ret
    exact ⟨rfl, hB⟩
end Go.Proofs.Ytmnjgodelnjbkaa
