/- Contracts of the document's Put and of Same on equal rows. Condition: a row of at most 16 places, that lies at the head of a block. -/
import Derived.Test.YtnlpjgogflcmoaaSlotN
namespace Go.Proofs.Ytnlpjgogflcmoaa
open Go.RowKit Go.Lk

section
variable (w : World) (g n c : Nat) (qs : List (Option It))
set_option maxHeartbeats 4000000 in
theorem r_put (h : Rw w g n qs) (x : It) :
    Calls Try.prog 15 #[.slice (some ⟨g, 0, none⟩) n c, .agg x.arr] w fun e w' => ∃ g' c', e = .returned (.tuple #[.slice (some ⟨g', 0, none⟩) n c', .int .i64 ((putR qs x).2.1 : Int), .int .i64 (putR qs x).2.2]) ∧ Rw w' g' n (putR qs x).1 ∧ (g' = g ∨ w.heap.size ≤ g') ∧ Below w.heap.size w w' := by
  have hR1 := h.al (.cells x.arr 29)
  have HP := Lib.hid (r_place _ g n c qs hR1 x.id)
  have HB := Lib.hid ((Below.refl w.heap.size w).alloc (Nat.le_refl _) (.cells x.arr 29))
  have HW := Lib.hid (fun q (hq : q < n) => r_with _ g n c qs hR1 q hq (some x))
  obtain ⟨x0, x1, x2, x3, x4, x5, x6⟩ := It.cell x (heap_alloc_new w (.cells x.arr 29))
  have HR := Lib.hid hR1
  have hsm := h.small
  clear hR1 h
  unfold It.arr at *
  cases hp : placeR qs x.id with
  | some q =>
    have e1 : putR qs x = (qs, 0, 8) := by unfold putR; rw [hp]; rfl
    rw [e1]
    rw [hp] at HP
    unfold plc at HP
    clear hp e1
    go_enter Try.func15, Try.ntmps15
    go_wp2_with fail
    refine HP.out.mono ?_
    rintro e w1 ⟨rfl, hw⟩
    subst hw
    go_wp2_with fail
    exact bodyPost_ret (v := .tuple #[.slice (some ⟨g, 0, none⟩) n c, .int .i64 0, .int .i64 8]) (by simp [results, Try.results15, go_sem]) rfl ⟨g, c, rfl, HR.out, .inl rfl, HB.out⟩
  | none =>
    rw [hp] at HP
    unfold plc at HP
    cases hf : freeR qs with
    | none =>
      have e1 : putR qs x = (qs, 0, 6) := by unfold putR; rw [hp, hf]; rfl
      rw [e1]
      have HF := Lib.hid (free_no hf)
      clear hp hf e1
      go_enter Try.func15, Try.ntmps15
      go_wp2_with fail
      refine HP.out.mono ?_
      rintro e w1 ⟨rfl, hw⟩
      subst hw
      go_wp2_with fail
      generalize w.alloc (.cells #[.int .i64 x.id, .int .i64 x.lv, .int .i64 x.fr, .int .i64 x.dl, .int .i64 x.bu, .int .i64 x.si, .int .i64 x.sq] 29) = wa at *
      go_loopw [7] (fun i wr => ∃ k : Nat, k ≤ n ∧ i = .int .i64 k ∧ wr = wa) (fun i _ => n - (intOf i).toNat)
      case atStart => exact ⟨0, by omega, rfl, rfl⟩
      case round =>
        obtain ⟨k, hk, rfl, rfl⟩ := hrel
        by_cases hlt : k < n
        · obtain ⟨y, ho⟩ := HF.out k (by rw [HR.out.len]; exact hlt)
          obtain ⟨c0, _⟩ := HR.out.some_ ho
          clear ho
          go_wp2_with fail
          exact ⟨⟨k + 1, by omega, by go_num, trivial⟩, by simp [intOf]; omega⟩
        · have : k = n := by omega
          subst this
          go_wp2_with fail
          exact bodyPost_ret (v := .tuple #[.slice (some ⟨g, 0, none⟩) k c, .int .i64 0, .int .i64 6]) (by simp [results, Try.results15, go_sem]) rfl ⟨g, c, rfl, HR.out, .inl rfl, HB.out⟩
    | some q =>
      have e1 : putR qs x = (qs.set q (some x), q, 0) := by unfold putR; rw [hp, hf]; rfl
      rw [e1]
      obtain ⟨hq, hn⟩ := free_some hf
      have hqn : q < n := by have := (List.getElem?_eq_some_iff.1 hq).1; have := HR.out.len; omega
      have HF := Lib.hid hn
      have HQ := Lib.hid hq
      have HW' := Lib.hid (HW.out q hqn)
      unfold scell It.arr at HW'
      clear hp hf e1 hq hn HW
      go_enter Try.func15, Try.ntmps15
      go_wp2_with fail
      refine HP.out.mono ?_
      rintro e w1 ⟨rfl, hw⟩
      subst hw
      go_wp2_with fail
      generalize w.alloc (.cells #[.int .i64 x.id, .int .i64 x.lv, .int .i64 x.fr, .int .i64 x.dl, .int .i64 x.bu, .int .i64 x.si, .int .i64 x.sq] 29) = wa at *
      go_loopw [7] (fun i wr => ∃ k : Nat, k ≤ q ∧ i = .int .i64 k ∧ wr = wa) (fun i _ => n - (intOf i).toNat)
      case atStart => exact ⟨0, by omega, rfl, rfl⟩
      case round =>
        obtain ⟨k, hk, rfl, rfl⟩ := hrel
        have hlt : k < n := by omega
        by_cases hkq : k < q
        · obtain ⟨y, ho⟩ := HF.out k hkq
          obtain ⟨c0, _⟩ := HR.out.some_ ho
          clear ho
          go_wp2_with fail
          exact ⟨⟨k + 1, by omega, by go_num, trivial⟩, by simp [intOf]; omega⟩
        · have : k = q := by omega
          subst this
          obtain ⟨c0, _⟩ := HR.out.none_ HQ.out
          go_wp2_with fail
          refine HW'.out.mono ?_
          rintro e w2 ⟨g', c', rfl, hR2, hg2, hB2⟩
          have HR2 := Lib.hid hR2
          have HB2 := Lib.hid (HB.out.trans (hB2.mono HB.out.size))
          have hsz := HB.out.size
          clear hR2 hB2
          go_wp2_with fail
          exact bodyPost_ret (v := .tuple #[.slice (some ⟨g', 0, none⟩) n c', .int .i64 (k : Int), .int .i64 0]) (by simp [results, Try.results15, go_sem]) rfl ⟨g', c', rfl, HR2.out, .inr (by omega), HB2.out⟩
end

set_option maxHeartbeats 1000000 in
theorem same_ok (w : World) (b1 b2 : Nat) (u v : Value) (l : List It) (hl : l.length ≤ 16) (h1 : w.ownsRow b1 29 7 u l.length (itc l)) (h2 : w.ownsRow b2 29 7 v l.length (itc l)) :
    Calls Try.prog 18 #[u, v] w fun e w' => e = .returned (.bool true) ∧ ∃ m, w' = w.drewN m := by
  obtain ⟨m, hm⟩ : ∃ m, l.length = m := ⟨_, rfl⟩
  rw [hm] at h1 h2 hl
  rcases Nat.eq_zero_or_pos m with h0 | h0
  · subst h0
    obtain ⟨A, c, rfl⟩ := own_slice h1
    obtain ⟨A', c', rfl⟩ := own_slice h2
    clear h1 h2
    go_enter Try.func18, Try.ntmps18
    go_wp2_with fail
    go_loopw [5] (fun i wr => i = .int .i64 0 ∧ wr = w) (fun _ _ => 0)
    case atStart => exact ⟨rfl, rfl⟩
    case round =>
      obtain ⟨rfl, rfl⟩ := hrel
      go_wp2_with fail
      go_ret
      exact ⟨rfl, 0, rfl⟩
  · obtain ⟨g, c, rfl, _, _, _, hc1, _⟩ := own_posN h1 h0
    obtain ⟨g', c', rfl, _, _, _, hc2, _⟩ := own_posN h2 h0
    have HC1 := Lib.hid hc1
    have HC2 := Lib.hid hc2
    have HM := Lib.hid hm
    clear h1 h2 hc1 hc2 hm
    go_enter Try.func18, Try.ntmps18
    go_wp2_with fail
    go_loopw [5] (fun i wr => ∃ k m2 : Nat, k ≤ m ∧ i = .int .i64 k ∧ wr = w.drewN m2) (fun i _ => m - (intOf i).toNat)
    case atStart => exact ⟨0, 0, by omega, rfl, rfl⟩
    case round =>
      obtain ⟨k, m2, hk, rfl, rfl⟩ := hrel
      by_cases hlt : k < m
      · obtain ⟨x, hx⟩ : ∃ x, l[k]? = some x := ⟨_, List.getElem?_eq_getElem (by rw [HM.out]; exact hlt)⟩
        have a0 : w.cell? ⟨g, k * 7, none⟩ = some (.int .i64 x.id) := HC1.out _ _ (itc_get l k x hx 0 (by omega))
        have a1 : w.cell? ⟨g, k * 7 + 1, none⟩ = some (.int .i64 x.lv) := HC1.out _ _ (itc_get l k x hx 1 (by omega))
        have a2 : w.cell? ⟨g, k * 7 + 2, none⟩ = some (.int .i64 x.fr) := HC1.out _ _ (itc_get l k x hx 2 (by omega))
        have a3 : w.cell? ⟨g, k * 7 + 3, none⟩ = some (.int .i64 x.dl) := HC1.out _ _ (itc_get l k x hx 3 (by omega))
        have a4 : w.cell? ⟨g, k * 7 + 4, none⟩ = some (.int .i64 x.bu) := HC1.out _ _ (itc_get l k x hx 4 (by omega))
        have a5 : w.cell? ⟨g, k * 7 + 5, none⟩ = some (.int .i64 x.si) := HC1.out _ _ (itc_get l k x hx 5 (by omega))
        have a6 : w.cell? ⟨g, k * 7 + 6, none⟩ = some (.int .i64 x.sq) := HC1.out _ _ (itc_get l k x hx 6 (by omega))
        have b0 : w.cell? ⟨g', k * 7, none⟩ = some (.int .i64 x.id) := HC2.out _ _ (itc_get l k x hx 0 (by omega))
        have b1 : w.cell? ⟨g', k * 7 + 1, none⟩ = some (.int .i64 x.lv) := HC2.out _ _ (itc_get l k x hx 1 (by omega))
        have b2 : w.cell? ⟨g', k * 7 + 2, none⟩ = some (.int .i64 x.fr) := HC2.out _ _ (itc_get l k x hx 2 (by omega))
        have b3 : w.cell? ⟨g', k * 7 + 3, none⟩ = some (.int .i64 x.dl) := HC2.out _ _ (itc_get l k x hx 3 (by omega))
        have b4 : w.cell? ⟨g', k * 7 + 4, none⟩ = some (.int .i64 x.bu) := HC2.out _ _ (itc_get l k x hx 4 (by omega))
        have b5 : w.cell? ⟨g', k * 7 + 5, none⟩ = some (.int .i64 x.si) := HC2.out _ _ (itc_get l k x hx 5 (by omega))
        have b6 : w.cell? ⟨g', k * 7 + 6, none⟩ = some (.int .i64 x.sq) := HC2.out _ _ (itc_get l k x hx 6 (by omega))
        clear hx
        go_wp2_with fail
        go_quiet (fail)
        go_wp2_with fail
        exact ⟨⟨k + 1, _, by omega, by go_num, rfl⟩, by simp [intOf]; omega⟩
      · have : k = m := by omega
        subst this
        go_wp2_with fail
        go_ret
        exact ⟨rfl, _, rfl⟩
end Go.Proofs.Ytnlpjgogflcmoaa
