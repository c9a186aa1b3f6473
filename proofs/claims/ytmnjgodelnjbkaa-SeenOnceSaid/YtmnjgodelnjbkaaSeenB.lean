/- Contracts of All, Clear and Note of the window. Condition: the window is well made (SeenAt), or nil, or zero. -/
import Derived.Test.YtmnjgodelnjbkaaSeenA
namespace Go.Proofs.Ytmnjgodelnjbkaa
open Go.RowKit Go.Lk Go.Proofs.SeenLaw

set_option maxHeartbeats 1000000 in
theorem all_ok (bs br bm most : Nat) (l : List Int) (w : World) (h : SeenAt w bs br bm most l) :
    Calls Try.prog 12 #[.pointer (some ⟨bs, 0, none⟩)] w fun e w' => ∃ v, e = .returned v ∧ w'.ownsRow w.heap.size 3 1 v l.length (ints l) ∧ Below w.heap.size w w' := by
  obtain ⟨i0, hi0, hz0, hz1, hz2⟩ := info_parts Try.info3
  have hl := len_ok bs br bm most l w h
  obtain ⟨first, ring, ks, h⟩ := h
  have HR := Lib.hid h.ring
  have hsm := h.small
  have hle : l.length ≤ most := h.ring.le
  have c0 : w.cell? ⟨bs, 0, none⟩ = some (.slice (some ⟨br, 0, none⟩) most most) := by rw [cell_of_row w bs 0 _ _ _ h.s]; rfl
  have c1 : w.cell? ⟨bs, 1, none⟩ = some (.int .i64 (first : Int)) := by rw [cell_of_row w bs 1 _ _ _ h.s]; rfl
  have hbs : bs < w.heap.size := heap_lt h.s
  have hbr : br < w.heap.size := heap_lt h.r
  have hrc : ∀ k x, l[k]? = some x → w.cell? ⟨br, (first + k) % most, none⟩ = some (.int .i64 x) := by
    intro k x hk
    have := h.ring.at_ k x hk
    rw [cell_of_row w br _ _ _ _ h.r]
    simp [ints, this]
  have HRC := Lib.hid hrc
  have C0 := Lib.hid c0
  have C1 := Lib.hid c1
  clear h hrc c0 c1
  obtain ⟨n, hn⟩ : ∃ n, l.length = n := ⟨_, rfl⟩
  rw [hn] at hl hle ⊢
  have HN := Lib.hid hn
  have HL := Lib.hid hl
  clear hn hl
  go_enter Try.func12, Try.ntmps12
  go_wp2_with fail
  refine HL.out.mono ?_
  rintro e w' ⟨rfl, rfl⟩
  go_wp2_with fail
  go_loopw [3, 7] (fun v i wr => ∃ k : Nat, k ≤ n ∧ i = .int .i64 k ∧ wr.ownsRow w.heap.size 3 1 v k (ints (l.take k)) ∧ Below w.heap.size w wr) (fun _ i _ => n - (intOf i).toNat)
  case atStart => exact ⟨0, by omega, rfl, World.ownsRow_nil _ _ _ _, Below.refl _ _⟩
  case round =>
    obtain ⟨k, hk, rfl, hown, hB⟩ := hrel
    by_cases hlt : k < n
    · have hk' : k < l.length := by rw [HN.out]; exact hlt
      obtain ⟨x, hx⟩ : ∃ x, l[k] = x := ⟨_, rfl⟩
      have hm : 0 < most := by omega
      have hf : first < most := HR.out.lt hm
      have c0 : wr.cell? ⟨bs, 0, none⟩ = some (.slice (some ⟨br, 0, none⟩) most most) := (hB.cell (p := ⟨bs, 0, none⟩) hbs).trans C0.out
      have c1 : wr.cell? ⟨bs, 1, none⟩ = some (.int .i64 (first : Int)) := (hB.cell (p := ⟨bs, 1, none⟩) hbs).trans C1.out
      obtain ⟨j, hj⟩ : ∃ j, (first + k) % most = j := ⟨_, rfl⟩
      have hjl : j < most := by rw [← hj]; exact Nat.mod_lt _ hm
      have hp := place_ok bs br most first k wr.drew c0 c1 hm hsm hf (by omega)
      have cr : wr.cell? ⟨br, j, none⟩ = some (.int .i64 x) := by
        rw [hB.cell (p := ⟨br, j, none⟩) hbr, ← hj]; exact HRC.out k x (by rw [List.getElem?_eq_getElem hk', hx])
      rw [hj] at hp
      have HP := Lib.hid hp
      have HX := Lib.hid hx
      have HO := Lib.hid hown
      have HB := Lib.hid hB
      have hsz := hB.size
      have HNE := Lib.hid (show ∀ b, b < w.heap.size → some b ≠ u3.ownBlock from fun b hb e => by have := (hown.lt b e.symm).1; omega)
      clear hp hx hown hB hj
      go_wp2_with fail
      go_region_held3 (fun w' => w'.cell? ⟨bs, 0, none⟩ = some (.slice (some ⟨br, 0, none⟩) most most) ∧ w'.cell? ⟨br, j, none⟩ = some (.int .i64 x)) (first | (exact ⟨hg2.cell (cell_al c0 _) (HNE.out _ hbs), hg2.cell (cell_al cr _) (HNE.out _ hbr)⟩) | go_keep)
        (first
          | (go_at_call 16; refine HP.out.mono ?_; rintro e w' ⟨rfl, nn, rfl⟩)
          | (refine step_append1 _ rfl _ _ 22 rfl w.heap.size 3 i0 (.int .i64 0) 8 Try.underlying22 hi0 hz0 hz1 hz2 rfl _ k _ (by simp [Act.eval]) ((own_drewN HO.out _).alloc _) _ 1 (.int .i64 x) (by simp [Act.eval]) (cell_dn _ _ _ _) rfl (by omega) (by omega) (by simp; omega) ?_; intro v' w2 hown2 hg2 hat2))
      go_wp2_with fail
      have e2 : ints (l.take k) ++ [Value.int .i64 x] = ints (l.take (k + 1)) := by
        rw [List.take_succ_eq_append_getElem hk', HX.out]; simp [ints]
      rw [e2] at hown2
      exact ⟨⟨k + 1, by omega, by go_num, hown2, ((below_drewN HB.out (1 + nn)).alloc hsz _).grown hg2 (by simp; omega) (fun j hj => (HO.out.lt j hj).1)⟩, by simp [intOf]; omega⟩
    · have : k = n := by omega
      subst this
      go_wp2
      go_ret
      refine ⟨_, rfl, ?_, hB⟩
      rw [List.take_of_length_le (by rw [HN.out]; omega)] at hown
      exact hown

set_option maxHeartbeats 400000 in
theorem clear_ok (bs br bm most : Nat) (l : List Int) (w : World) (h : SeenAt w bs br bm most l) :
    Calls Try.prog 10 #[.pointer (some ⟨bs, 0, none⟩)] w fun e w' => e = .returned (.tuple #[]) ∧ SeenAt w' bs br bm most [] ∧ OnlyIn [bs, bm] w w' := by
  obtain ⟨first, ring, ks, h⟩ := h
  have c3 : w.cell? ⟨bs, 3, none⟩ = some (.map (some bm)) := by rw [cell_of_row w bs 3 _ _ _ h.s]; rfl
  have c1 : w.cell? ⟨bs, 1, none⟩ = some (.int .i64 (first : Int)) := by rw [cell_of_row w bs 1 _ _ _ h.s]; rfl
  have c2 : w.cell? ⟨bs, 2, none⟩ = some (.int .i64 (l.length : Int)) := by rw [cell_of_row w bs 2 _ _ _ h.s]; rfl
  have f1 : ∀ i, w.frozen? ⟨bs, i, none⟩ = false := fun i => by simp [World.frozen?, h.s]
  have f1' := f1 1
  have f2' := f1 2
  clear f1
  have hne : bm ≠ bs := by
    intro e
    obtain ⟨es, clock, hb, _⟩ := h.m
    rw [e, h.s] at hb
    cases hb
  have hmi : IMap ((w.setCell ⟨bs, 1, none⟩ (.int .i64 0)).setCell ⟨bs, 2, none⟩ (.int .i64 0)) bm ks :=
    h.m.of_block ((Below.heap_setCell _ _ _ _ hne).trans (Below.heap_setCell _ _ _ _ hne))
  obtain ⟨es, clock, hrun, hmc⟩ := hmi.clear ul40 0
  have H := Lib.hid h
  have HM := Lib.hid hmc
  clear h hmi hmc
  go_enter Try.func10, Try.ntmps10
  go_wp2_with fail
  go_end0
  have hs2 := heap_set1 (heap_set1 H.out.s 1 (.int .i64 0)) 2 (.int .i64 0)
  have hne2 : br ≠ bs := by
    intro e
    have h1 := H.out.r
    rw [e, H.out.s] at h1
    injection h1 with h1
    injection h1 with _ h1
    cases h1
  have hne3 : br ≠ bm := by
    intro e
    obtain ⟨es, clock, hb, _⟩ := H.out.m
    rw [← e, H.out.r] at hb
    cases hb
  refine ⟨rfl, ⟨0, ring, [], ?_, ?_, HM.out, by simp, H.out.ring.cleared, by simp, H.out.small⟩, ?_⟩
  · rw [setBlock_other _ _ (Ne.symm hne), hs2]
    rfl
  · rw [setBlock_other _ _ hne3, Below.heap_setCell _ _ _ _ hne2, Below.heap_setCell _ _ _ _ hne2]
    exact H.out.r
  · exact (((OnlyIn.refl _ w).setCell (by simp) _).setCell (by simp) _).setBlock (by simp) _
end Go.Proofs.Ytmnjgodelnjbkaa
