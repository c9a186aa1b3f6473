/- Contract of Note of the window. Condition: the window is well made (SeenAt). -/
import Derived.Test.YtmnjgodelnjbkaaSeenB
namespace Go.Proofs.Ytmnjgodelnjbkaa
open Go.RowKit Go.Lk Go.Proofs.SeenLaw

theorem SeenIs.apart {w : World} {bs br bm most first : Nat} {ring ks l : List Int} (h : SeenIs w bs br bm most first ring ks l) : bm ≠ bs ∧ br ≠ bs ∧ br ≠ bm := by
  refine ⟨?_, ?_, ?_⟩
  · intro e
    obtain ⟨es, clock, hb, _⟩ := h.m
    rw [e, h.s] at hb
    cases hb
  · intro e
    have h1 := h.r
    rw [e, h.s] at h1
    injection h1 with h1
    injection h1 with _ h1
    cases h1
  · intro e
    obtain ⟨es, clock, hb, _⟩ := h.m
    rw [← e, h.r] at hb
    cases hb

set_option maxHeartbeats 400000 in
theorem note_old_ok (bs br bm most : Nat) (l : List Int) (id : Int) (w : World) (h : SeenAt w bs br bm most l) (hid : id ∈ l) :
    Calls Try.prog 8 #[.pointer (some ⟨bs, 0, none⟩), .int .i64 id] w fun e w' => e = .returned (.bool false) ∧ w = w' := by
  have hh := has_ok bs br bm most l id w h
  rw [decide_eq_true hid] at hh
  have HH := Lib.hid hh
  clear hh h
  go_enter Try.func8, Try.ntmps8
  go_wp2_with fail
  refine HH.out.mono ?_
  rintro e w' ⟨rfl, rfl⟩
  go_wp2
  go_ret
  exact ⟨rfl, rfl⟩

set_option maxHeartbeats 400000 in
theorem note_zero_ok (bs br bm : Nat) (l : List Int) (id : Int) (w : World) (h : SeenAt w bs br bm 0 l) :
    Calls Try.prog 8 #[.pointer (some ⟨bs, 0, none⟩), .int .i64 id] w fun e w' => e = .returned (.bool true) ∧ w = w' := by
  have hh := has_ok bs br bm 0 l id w h
  obtain ⟨first, ring, ks, h⟩ := h
  have hl : l = [] := List.eq_nil_of_length_eq_zero (by have := h.ring.le; omega)
  have hid : ¬ id ∈ l := by rw [hl]; simp
  rw [decide_eq_false hid] at hh
  have HH := Lib.hid hh
  have c0 : w.cell? ⟨bs, 0, none⟩ = some (.slice (some ⟨br, 0, none⟩) 0 0) := by rw [cell_of_row w bs 0 _ _ _ h.s]; rfl
  clear hh h hl hid
  go_enter Try.func8, Try.ntmps8
  go_wp2_with fail
  refine HH.out.mono ?_
  rintro e w' ⟨rfl, rfl⟩
  go_wp2
  go_ret
  exact ⟨rfl, rfl⟩

/-- Behind the test for room: there is room, and the number isn't there. -/
def Mid (w : World) (bs br bm most : Nat) (id : Int) (ring l : List Int) (wr : World) : Prop :=
  ∃ first' ks', SeenIs wr bs br bm most first' ring ks' (if l.length = most then l.drop 1 else l) ∧ OnlyIn [bs, bm] w wr ∧ id ∉ (if l.length = most then l.drop 1 else l)

set_option maxRecDepth 100000 in
set_option maxHeartbeats 1000000 in
theorem note_new_ok (bs br bm most : Nat) (l : List Int) (id : Int) (w : World) (h : SeenAt w bs br bm most l) (hid : id ∉ l) (hm : 0 < most) :
    Calls Try.prog 8 #[.pointer (some ⟨bs, 0, none⟩), .int .i64 id] w fun e w' => e = .returned (.bool true) ∧ SeenAt w' bs br bm most (note most l id) ∧ OnlyIn [bs, br, bm] w w' := by
  have hh := has_ok bs br bm most l id w h
  rw [decide_eq_false hid] at hh
  have HH := Lib.hid hh
  obtain ⟨first, ring, ks, h⟩ := h
  have hsm := h.small
  have hf : first < most := h.ring.lt hm
  obtain ⟨n, hn⟩ : ∃ n, l.length = n := ⟨_, rfl⟩
  have hle : n ≤ most := by rw [← hn]; exact h.ring.le
  have c0 : w.cell? ⟨bs, 0, none⟩ = some (.slice (some ⟨br, 0, none⟩) most most) := by rw [cell_of_row w bs 0 _ _ _ h.s]; rfl
  have c1 : w.cell? ⟨bs, 1, none⟩ = some (.int .i64 (first : Int)) := by rw [cell_of_row w bs 1 _ _ _ h.s]; rfl
  have c2 : w.cell? ⟨bs, 2, none⟩ = some (.int .i64 (n : Int)) := by rw [cell_of_row w bs 2 _ _ _ h.s, ← hn]; rfl
  have c3 : w.cell? ⟨bs, 3, none⟩ = some (.map (some bm)) := by rw [cell_of_row w bs 3 _ _ _ h.s]; rfl
  have H := Lib.hid h
  have HN := Lib.hid hn
  have HID := Lib.hid hid
  have hb1 : ((most : Int) == 0) = false := by rw [beq_eq_false_iff_ne]; omega
  clear hh h hid hn
  go_enter Try.func8, Try.ntmps8
  go_wp2_with fail
  refine HH.out.mono ?_
  rintro e w' ⟨rfl, rfl⟩
  go_wp2_with fail
  go_quiet (fail)
  go_upto_if 28 with fail
  go_cut [] from 28 to 54 (Mid w bs br bm most id ring l)
  case first =>
    by_cases hfull : n = most
    · have hb2 : ((n : Int) == (most : Int)) = true := by rw [beq_iff_eq]; omega
      have hn0 : 0 < n := by omega
      have HF := Lib.hid hfull
      clear hfull
      obtain ⟨x0, hx0⟩ : ∃ x0, l[0]? = some x0 := ⟨_, List.getElem?_eq_getElem (by rw [HN.out]; exact hn0)⟩
      have HX0 := Lib.hid hx0
      have cf : w.cell? ⟨br, first, none⟩ = some (.int .i64 x0) := by
        have := H.out.ring.at_ 0 x0 hx0
        rw [Nat.add_zero, Nat.mod_eq_of_lt hf] at this
        rw [cell_of_row w br _ _ _ _ H.out.r]
        simp [ints, this]
      clear hx0
      have hfi : (first : Int) < (most : Int) := by omega
      obtain ⟨es0, clock0, es, clock, hb0, hD, ks', hI, hks'⟩ := H.out.m.delete ul40 ul3 0 x0
      have hD' : ∀ m, (Builtin.delete_ #[40, 3] 0 #[.map (some bm), .int .i64 x0]).run Try.prog (w.drewN m) = .ok (.tuple #[]) (ChangeMaps.setBlock (w.drewN m) bm (.map es clock)) := fun m => hD (w.drewN m) hb0
      have HI := Lib.hid hI
      have HK := Lib.hid hks'
      have HB0 := Lib.hid hb0
      clear hI hks' hb0 hD
      go_wp2_with fail
      go_region
      have hap := H.out.apart
      generalize hw7 : ChangeMaps.setBlock (w.drewN (nq + 1)) bm (.map es clock) = w7
      have hsc : ∀ k i, k ≠ bm → w7.cell? ⟨k, i, none⟩ = w.cell? ⟨k, i, none⟩ := fun k i hk => by rw [← hw7]; exact World.cell?_of_block (setBlock_other (w.drewN (nq + 1)) _ hk)
      have hsf : ∀ k i, k ≠ bm → w7.frozen? ⟨k, i, none⟩ = w.frozen? ⟨k, i, none⟩ := fun k i hk => by rw [← hw7]; exact World.frozen?_of_block (setBlock_other (w.drewN (nq + 1)) _ hk)
      have e0 := (hsc bs 0 (Ne.symm hap.1)).trans c0
      have e1 := (hsc bs 1 (Ne.symm hap.1)).trans c1
      have e2 := (hsc bs 2 (Ne.symm hap.1)).trans c2
      have f1 : w7.frozen? ⟨bs, 1, none⟩ = false := (hsf bs 1 (Ne.symm hap.1)).trans (by simp [World.frozen?, H.out.s])
      have f2 : w7.frozen? ⟨bs, 2, none⟩ = false := (hsf bs 2 (Ne.symm hap.1)).trans (by simp [World.frozen?, H.out.s])
      have HP := Lib.hid (place_ok bs br most first 1 w7 e0 e1 hm hsm hf (by omega))
      have H7 := Lib.hid hw7
      have HAP := Lib.hid hap
      clear hw7 hsc hsf hap hD'
      go_wp2_with fail
      refine HP.out.mono ?_
      rintro e w' ⟨rfl, n3, rfl⟩
      obtain ⟨f', hf'⟩ : ∃ f', (first + 1) % most = f' := ⟨_, rfl⟩
      rw [hf']
      have HF' := Lib.hid hf'
      clear hf'
      go_wp2_with fail
      go_meet
      have hap := HAP.out
      have hl : l.length = most := HN.out.trans HF.out
      have b7 : ∀ k, k ≠ bm → w7.heap[k]? = w.heap[k]? := fun k hk => by rw [← H7.out]; exact setBlock_other (w.drewN (nq + 1)) _ hk
      have hd : ∀ x, x ∈ l.drop 1 ↔ x ∈ l ∧ x ≠ x0 := by
        intro x
        obtain ⟨t, ht⟩ : ∃ t, l = x0 :: t := by
          cases hl' : l with
          | nil => have := HX0.out; rw [hl'] at this; simp at this
          | cons a t => have := HX0.out; rw [hl'] at this; simp at this; exact ⟨t, by rw [this]⟩
        have hnd := H.out.nd
        rw [ht] at hnd ⊢
        simp only [List.drop_succ_cons, List.drop_zero, List.mem_cons]
        constructor
        · intro hx; exact ⟨Or.inr hx, fun e => (List.nodup_cons.1 hnd).1 (e ▸ hx)⟩
        · rintro ⟨h1 | h1, h2⟩
          · exact absurd h1 h2
          · exact h1
      refine ⟨f', ks', ?_, ?_, ?_⟩
      · rw [if_pos hl]
        refine ⟨?_, ?_, ?_, ?_, ?_, ?_, hsm⟩
        · have h7 : (w7.drewN n3).heap[bs]? = some (.cells #[.slice (some ⟨br, 0, none⟩) most most, .int .i64 (first : Int), .int .i64 (n : Int), .map (some bm)] 42 (0, 0)) := by
            have := H.out.s
            rw [HN.out] at this
            exact (b7 bs (Ne.symm hap.1)).trans this
          rw [heap_set1 (heap_set1 h7 1 _) 2 _]
          have e3 : (((l.drop 1).length : Nat) : Int) = (n : Int) - 1 := by rw [List.length_drop, HN.out]; omega
          rw [e3]
          rfl
        · rw [Below.heap_setCell _ _ _ _ hap.2.1, Below.heap_setCell _ _ _ _ hap.2.1]
          exact (b7 br hap.2.2).trans H.out.r
        · have h8 := HI.out (w.drewN (nq + 1)) HB0.out
          rw [H7.out] at h8
          exact h8.of_block ((Below.heap_setCell _ _ _ _ hap.1).trans (Below.heap_setCell _ _ _ _ hap.1))
        · intro x
          rw [HK.out, hd, H.out.ks]
        · rw [← HF'.out]; exact H.out.ring.tail hm
        · exact H.out.nd.sublist (List.drop_sublist _ _)
      · rw [← H7.out]
        exact (((((OnlyIn.refl _ w).drewN _).setBlock (by simp) _).drewN _).setCell (by simp) _).setCell (by simp) _
      · rw [if_pos hl, hd]; exact fun e => HID.out e.1
    · have hb2 : ((n : Int) == (most : Int)) = false := by rw [beq_eq_false_iff_ne]; omega
      go_wp2_with fail
      go_meet
      refine ⟨first, ks, ?_, ?_, ?_⟩
      · rw [if_neg (by rw [HN.out]; exact hfull)]
        exact H.out.of_blocks rfl rfl rfl
      · exact (OnlyIn.refl _ w).drewN _
      · rw [if_neg (by rw [HN.out]; exact hfull)]; exact HID.out
  case rest =>
    obtain ⟨wo, rfl⟩ : ∃ wo : World, wo = wc := ⟨_, rfl⟩
    have HM0 := Lib.hid hcut
    clear hcut c0 c1 c2 c3 H
    obtain ⟨g, ks2, hI, hO, hni⟩ := HM0.out
    have hnote : note most l id = (if l.length = most then l.drop 1 else l) ++ [id] := by
      split
      · rename_i hl; exact note_full most l id HID.out hl hm
      · rename_i hl; exact note_room most l id HID.out (by rw [HN.out] at hl ⊢; omega)
    have hlt2 : (if l.length = most then l.drop 1 else l).length < most := by
      split
      · simp; omega
      · rename_i hl; rw [HN.out] at hl ⊢; omega
    generalize (if l.length = most then l.drop 1 else l) = l2 at hI hni hnote hlt2
    obtain ⟨n2, hn2⟩ : ∃ n2, l2.length = n2 := ⟨_, rfl⟩
    rw [hn2] at hlt2
    have hg : g < most := hI.ring.lt hm
    have c0 : wo.cell? ⟨bs, 0, none⟩ = some (.slice (some ⟨br, 0, none⟩) most most) := by rw [cell_of_row wo bs 0 _ _ _ hI.s]; rfl
    have c1 : wo.cell? ⟨bs, 1, none⟩ = some (.int .i64 (g : Int)) := by rw [cell_of_row wo bs 1 _ _ _ hI.s]; rfl
    have c2 : wo.cell? ⟨bs, 2, none⟩ = some (.int .i64 (n2 : Int)) := by rw [cell_of_row wo bs 2 _ _ _ hI.s, ← hn2]; rfl
    have c3 : wo.cell? ⟨bs, 3, none⟩ = some (.map (some bm)) := by rw [cell_of_row wo bs 3 _ _ _ hI.s]; rfl
    have HM := Lib.hid (hI.m.entry ul40 ul3 zero3 id (fun e => hni ((hI.ks id).1 e)))
    have H := Lib.hid hI
    have HO2 := Lib.hid hO
    have HN2 := Lib.hid hn2
    have HNI := Lib.hid hni
    have HNT := Lib.hid hnote
    have HP := Lib.hid (place_ok bs br most g n2 wo c0 c1 hm hsm hg (by omega))
    clear hI hO hni hnote hn2 HM0
    go_wp2_with fail
    refine HP.out.mono ?_
    rintro e w' ⟨rfl, n3, rfl⟩
    obtain ⟨j, hj⟩ : ∃ j, (g + n2) % most = j := ⟨_, rfl⟩
    rw [hj]
    have HJ := Lib.hid hj
    have hjl : j < most := by rw [← hj]; exact Nat.mod_lt _ hm
    clear hj
    go_wp2_with fail
    generalize hw5 : wo.drewN n3 = w5
    obtain ⟨es, clock, es1, clock1, hb5, hE, hS⟩ := HM.out
    obtain ⟨es2, clock2, hS⟩ := hS (j : Int)
    have HB5 := Lib.hid hb5
    have HE := Lib.hid hE
    have HS := Lib.hid hS
    have H5 := Lib.hid hw5
    obtain ⟨old, hold⟩ : ∃ old, (ints ring)[j]? = some old := ⟨_, List.getElem?_eq_getElem (by unfold ints; rw [List.length_map, H.out.ring.len]; exact hjl)⟩
    have HO := Lib.hid hold
    clear hb5 hE hS hw5 hold HM
    go_cut [] (fun wr => wr.heap[bs]? = w5.heap[bs]? ∧ wr.heap[br]? = some (.cells ((ints ring).toArray.setIfInBounds j (.int .i64 id)) 3 (0, 0)) ∧ IMap wr bm (ks2 ++ [id]) ∧ OnlyIn [br, bm] w5 wr)
    case first =>
      have c05 : w5.cell? ⟨bs, 0, none⟩ = some (.slice (some ⟨br, 0, none⟩) most most) := by rw [← H5.out]; exact c0
      have c35 : w5.cell? ⟨bs, 3, none⟩ = some (.map (some bm)) := by rw [← H5.out]; exact c3
      have cr5 : w5.cell? ⟨br, j, none⟩ = some old := by rw [← H5.out]; rw [World.cell?_drewN, cell_of_row wo br _ _ _ _ H.out.r]; simpa using HO.out
      have fr5 : w5.frozen? ⟨br, j, none⟩ = false := by rw [← H5.out]; simp [World.frozen?, H.out.r]
      have hb5' : w5.heap[bm]? = some (.map es clock) := by rw [← H5.out]; exact HB5.out
      have hr5 : w5.heap[br]? = some (.cells (ints ring).toArray 3 (0, 0)) := by rw [← H5.out]; exact H.out.r
      have hap := H.out.apart
      have nbm : bm ≠ br := Ne.symm hap.2.2
      have hW1 : (w5.setCell ⟨br, j, none⟩ (.int .i64 id)).heap[bm]? = some (.map es clock) := (Below.heap_setCell _ _ _ _ nbm).trans hb5'
      have sb : ∀ (W : World) o, W.heap[bm]? = some (.map es clock) → (ChangeMaps.setBlock W bm o).heap[bm]? = some o := fun W o h => (MapKept.heap_set h).1
      have sc : ∀ (W : World) o k i, k ≠ bm → (ChangeMaps.setBlock W bm o).cell? ⟨k, i, none⟩ = W.cell? ⟨k, i, none⟩ := fun W o k i hk => World.cell?_of_block (setBlock_other W o hk)
      have sf : ∀ (W : World) o k i, k ≠ bm → (ChangeMaps.setBlock W bm o).frozen? ⟨k, i, none⟩ = W.frozen? ⟨k, i, none⟩ := fun W o k i hk => World.frozen?_of_block (setBlock_other W o hk)
      have x1 : ((w5.setCell ⟨br, j, none⟩ (.int .i64 id)).drew).cell? ⟨bs, 0, none⟩ = some (.slice (some ⟨br, 0, none⟩) most most) := (World.cell?_of_block (Below.heap_setCell w5 ⟨br, j, none⟩ _ bs (Ne.symm hap.2.1))).trans c05
      have x2 : ((w5.setCell ⟨br, j, none⟩ (.int .i64 id)).drew).cell? ⟨bs, 3, none⟩ = some (.map (some bm)) := (World.cell?_of_block (Below.heap_setCell w5 ⟨br, j, none⟩ _ bs (Ne.symm hap.2.1))).trans c35
      have x3 := HE.out w5.drew hb5'
      have x4 := HE.out (w5.setCell ⟨br, j, none⟩ (.int .i64 id)).drew hW1
      have x5 := sc w5.drew (.map es1 clock1) br j hap.2.2
      have x6 := sf w5.drew (.map es1 clock1) br j hap.2.2
      have x7 := (HS.out (ChangeMaps.setBlock w5.drew bm (.map es1 clock1)) (sb _ _ hb5')).1
      have x8 := (HS.out (ChangeMaps.setBlock (w5.setCell ⟨br, j, none⟩ (.int .i64 id)).drew bm (.map es1 clock1)) (sb _ _ hW1)).1
      have x9 := (HS.out ((ChangeMaps.setBlock w5.drew bm (.map es1 clock1)).setCell ⟨br, j, none⟩ (.int .i64 id)) ((Below.heap_setCell _ _ _ _ nbm).trans (sb _ _ hb5'))).1
      have HW1 := Lib.hid hW1
      have SB := Lib.hid sb
      have HR5 := Lib.hid hr5
      clear sb sc sf hb5' hW1 hr5
      go_region
      all_goals (clear x1 x2 x3 x4 x5 x6 x7 x8 x9; go_wp2_with fail; go_meet)
      all_goals
        refine ⟨?_, ?_, (HS.out _ (SB.out _ _ HW1.out)).2, ((((OnlyIn.refl _ w5).setCell (by simp) _).drew).setBlock (by simp) _).setBlock (by simp) _⟩
        · rw [setBlock_other _ _ (Ne.symm hap.1), setBlock_other _ _ (Ne.symm hap.1)]
          exact Below.heap_setCell _ _ _ _ (Ne.symm hap.2.1)
        · rw [setBlock_other _ _ hap.2.2, setBlock_other _ _ hap.2.2]
          exact heap_set1 HR5.out j _
    case rest =>
      obtain ⟨q1, q2, q3, q4⟩ := hcut
      have d2 : wc.cell? ⟨bs, 2, none⟩ = some (.int .i64 (n2 : Int)) := (World.cell?_of_block (a := ⟨bs, 2, none⟩) q1).trans (by rw [← H5.out]; exact c2)
      have f2 : wc.frozen? ⟨bs, 2, none⟩ = false := (World.frozen?_of_block (a := ⟨bs, 2, none⟩) q1).trans (by rw [← H5.out]; simp [World.frozen?, H.out.s])
      have Q1 := Lib.hid q1
      have Q2 := Lib.hid q2
      have Q3 := Lib.hid q3
      have Q4 := Lib.hid q4
      clear q1 q2 q3 q4
      go_wp2
      go_ret
      have hap := H.out.apart
      rw [HNT.out]
      refine ⟨rfl, ⟨g, ring.set j id, ks2 ++ [id], ?_, ?_, Q3.out.of_block (Below.heap_setCell _ _ _ _ hap.1), ?_, ?_, ?_, hsm⟩, ?_⟩
      · have hs0 : wc.heap[bs]? = some (.cells #[.slice (some ⟨br, 0, none⟩) most most, .int .i64 (g : Int), .int .i64 (n2 : Int), .map (some bm)] 42 (0, 0)) := by
          rw [Q1.out, ← H5.out]
          have := H.out.s
          rw [HN2.out] at this
          exact this
        rw [heap_set1 hs0 2 _]
        simp [HN2.out]
      · rw [Below.heap_setCell _ _ _ _ hap.2.1, Q2.out]
        simp [ints, List.map_set]
      · intro x
        have := H.out.ks x
        simp [this]
      · rw [← HJ.out, ← HN2.out]
        exact H.out.ring.push (by rw [HN2.out]; exact hlt2) id
      · exact List.nodup_append.2 ⟨H.out.nd, by simp, fun a ha b hb => by simp at hb; subst hb; exact fun e => HNI.out (e ▸ ha)⟩
      · have h0 : OnlyIn [bs, br, bm] w w5 := by rw [← H5.out]; exact (HO2.out.mono (by simp)).drewN _
        exact (h0.trans (Q4.out.mono (by simp))).setCell (by simp) _
end Go.Proofs.Ytmnjgodelnjbkaa
