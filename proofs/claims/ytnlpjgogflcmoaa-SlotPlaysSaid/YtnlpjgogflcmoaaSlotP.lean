/- Contracts of the document's Take and Late. Condition: a row of at most 16 places, that lies at the head of a block. -/
import Derived.Test.YtnlpjgogflcmoaaSlotO
import Derived.Deep.RegionHeld3
namespace Go.Proofs.Ytnlpjgogflcmoaa
open Go.RowKit Go.Lk

def curQ (now : Int) (qs : List (Option It)) (k : Nat) : List (Option It) := (qs.take k).map (stayQ now) ++ qs.drop k
theorem curQ_get (now : Int) (qs : List (Option It)) (k q : Nat) : (curQ now qs k)[q]? = if q < k then (qs[q]?).map (stayQ now) else qs[q]? := by
  unfold curQ
  by_cases hk : k ≤ qs.length
  · have hl : ((qs.take k).map (stayQ now)).length = k := by simp; omega
    by_cases hq : q < k
    · rw [if_pos hq, List.getElem?_append_left (by omega), List.getElem?_map, List.getElem?_take, if_pos hq]
    · rw [if_neg hq, List.getElem?_append_right (by omega), List.getElem?_drop, hl]
      congr 1; omega
  · have hl : ((qs.take k).map (stayQ now)).length = qs.length := by simp; omega
    have hd : qs.drop k = [] := List.drop_eq_nil_of_le (by omega)
    rw [hd, List.append_nil, List.getElem?_map, List.take_of_length_le (by omega)]
    by_cases hq : q < k
    · rw [if_pos hq]
    · rw [if_neg hq, List.getElem?_eq_none (by omega)]; rfl
theorem curQ_same (now : Int) (qs : List (Option It)) (k : Nat) (h : (qs[k]?).map (stayQ now) = qs[k]?) : curQ now qs (k + 1) = curQ now qs k := by
  apply List.ext_getElem?
  intro q
  rw [curQ_get, curQ_get]
  by_cases h1 : q < k
  · rw [if_pos h1, if_pos (by omega)]
  · rw [if_neg h1]
    by_cases h2 : q = k
    · subst h2; rw [if_pos (by omega), h]
    · rw [if_neg (by omega)]
theorem curQ_len (now : Int) (qs : List (Option It)) (k : Nat) : (curQ now qs k).length = qs.length := by
  unfold curQ; simp; omega
theorem curQ_set (now : Int) (qs : List (Option It)) (k : Nat) (x : It) (hk : qs[k]? = some (some x)) (h : x.dl ≤ now) : curQ now qs (k + 1) = (curQ now qs k).set k none := by
  have hlt := (List.getElem?_eq_some_iff.1 hk).1
  have hl := curQ_len now qs k
  apply List.ext_getElem?
  intro q
  rw [List.getElem?_set, curQ_get, curQ_get]
  by_cases h2 : k = q
  · subst h2
    rw [if_pos (by omega), if_pos rfl, if_pos (by omega), hk]
    have hd : decide (now < x.dl) = false := decide_eq_false (by omega)
    simp [stayQ, Option.filter, hd]
  · rw [if_neg h2]
    by_cases h1 : q < k
    · rw [if_pos (by omega), if_pos h1]
    · rw [if_neg (by omega), if_neg h1]
theorem curQ_end (now : Int) (qs : List (Option It)) (k : Nat) (h : qs.length ≤ k) : curQ now qs k = qs.map (stayQ now) := by
  unfold curQ
  rw [List.take_of_length_le h, List.drop_eq_nil_of_le h, List.append_nil]

theorem Rw.grown {w w' : World} {g n : Nat} {qs : List (Option It)} (h : Rw w g n qs) {row : Option Nat} (hg : w.grownBy w' row) (hne : row ≠ some g) : Rw w' g n qs :=
  ⟨Nat.lt_of_lt_of_le h.lt hg.size, h.len, h.small, fun j u hu => (World.cell?_of_block (hg.block g h.lt (fun e => hne e.symm))).trans (h.cell j u hu)⟩

section
variable (w : World) (g n c : Nat) (qs : List (Option It))
set_option maxHeartbeats 4000000 in
theorem r_late (h : Rw w g n qs) (now : Int) :
    Calls Try.prog 17 #[.slice (some ⟨g, 0, none⟩) n c, .int .i64 now] w fun e w' => ∃ g' c' u, e = .returned (.tuple #[.slice (some ⟨g', 0, none⟩) n c', u]) ∧ Rw w' g' n (qs.map (stayQ now)) ∧ (g' = g ∨ w.heap.size ≤ g') ∧ w'.ownsRow w.heap.size 29 7 u (due now (itq qs)).length (itc (due now (itq qs))) ∧ Below w.heap.size w w' := by
  obtain ⟨i0, hi0, hz0, hz1, hz2⟩ := info_parts Try.info29
  have HR := Lib.hid h
  have hsm := h.small
  have hl := h.len
  clear h
  go_enter Try.func17, Try.ntmps17
  go_wp2_with fail
  go_loopw [0, 6, 7] (fun s v i wr => ∃ k g' c', k ≤ n ∧ s = .slice (some ⟨g', 0, none⟩) n c' ∧ i = .int .i64 (k : Nat) ∧ Rw wr g' n (curQ now qs k) ∧ (g' = g ∨ w.heap.size ≤ g') ∧ wr.ownsRow w.heap.size 29 7 v (due now (itq (qs.take k))).length (itc (due now (itq (qs.take k)))) ∧ (∀ b, v.ownBlock = some b → b ≠ g') ∧ Below w.heap.size w wr) (fun _ _ i _ => n - (intOf i).toNat)
  case atStart => exact ⟨0, g, c, by omega, rfl, rfl, HR.out, .inl rfl, World.ownsRow_nil _ _ _ _, by simp [Value.ownBlock], Below.refl _ _⟩
  case round =>
    obtain ⟨k, g', c', hk, rfl, rfl, hRr, hgg, hown, hap, hB⟩ := hrel
    have HAp := Lib.hid hap
    clear hap
    have HB := Lib.hid hB
    have HO := Lib.hid hown
    have HRr := Lib.hid hRr
    clear hB hown hRr
    by_cases hlt : k < n
    · obtain ⟨o, ho⟩ : ∃ o, qs[k]? = some o := ⟨_, List.getElem?_eq_getElem (by omega)⟩
      have hck : (curQ now qs k)[k]? = some o := by rw [curQ_get, if_neg (Nat.lt_irrefl _)]; exact ho
      have hsu := itq_take_succ ho
      have hle : (due now (itq (qs.take k))).length ≤ k := Nat.le_trans (due_le now _) (itq_take_le qs k)
      cases o with
      | none =>
        obtain ⟨c0, _⟩ := HRr.out.none_ hck
        have FIN : Hid (Rw wr g' n (curQ now qs (k + 1)) ∧ (g' = g ∨ w.heap.size ≤ g') ∧ wr.ownsRow w.heap.size 29 7 u6 (due now (itq (qs.take (k + 1)))).length (itc (due now (itq (qs.take (k + 1))))) ∧ (∀ b, u6.ownBlock = some b → b ≠ g') ∧ Below w.heap.size w wr) := by
          rw [curQ_same now qs k (by rw [ho]; rfl), hsu, Option.toList_none, List.append_nil]
          exact ⟨HRr.out, hgg, HO.out, HAp.out, HB.out⟩
        clear ho hck hsu
        go_wp2_with fail
        exact ⟨⟨k + 1, g', c', by omega, rfl, by go_num, FIN.out⟩, by simp [intOf]; omega⟩
      | some x =>
        obtain ⟨c0, c1, c2, c3, c4, c5, c6, c7⟩ := HRr.out.some_ hck
        by_cases hdl : x.dl ≤ now
        · have hdl' : decide (x.dl ≤ now) = true := decide_eq_true hdl
          have hown3 := ((OnlyIn.refl [] wr).alloc (.cells x.arr 29)).own HO.out (by simp)
          have hsl := sl_row (n := 7) (xs := x.arr.toList) (heap_alloc_new wr (.cells x.arr 29)) rfl
          obtain ⟨v', w2, hr, h2, h3, _, h5⟩ := run_append_own_at (P := Try.prog) (wr.alloc (.cells x.arr 29)) w.heap.size 36 36 29 i0 (.agg It.zero.arr) 7 56 Try.underlying36 hi0 hz0 hz1 hz2 rfl (by omega) u6 (due now (itq (qs.take k))).length (itc (due now (itq (qs.take k)))) hown3
            ⟨wr.heap.size, 0, none⟩ 1 1 x.arr.toList rfl (fun j u hj => by obtain ⟨a, ha, _, hc⟩ := hsl j u hj; injection ha with ha; subst ha; exact hc) (by intro u hu; simp [It.arr] at hu; rcases hu with rfl | rfl | rfl | rfl | rfl | rfl | rfl <;> rfl) (by unfold maxLen; omega) (by omega) (by have := HB.out.size; simp; omega)
          have hR2 := (HRr.out.al (.cells x.arr 29)).grown h3 (fun e => HAp.out g' e rfl)
          have hsz2 := h3.size
          have hlt' := HRr.out.lt
          have hB2 := (HB.out.alloc HB.out.size (.cells x.arr 29)).grown h3 (by have := HB.out.size; simp; omega) (fun j hj => (HO.out.lt j hj).1)
          have HWi := Lib.hid (r_with w2 g' n c' _ hR2 k hlt none)
          rw [← curQ_set now qs k x ho hdl] at HWi
          have hvl := h2.lt
          have FINh : Hid (∀ w3 g2, w2.heap.size ≤ g2 → Below w2.heap.size w2 w3 → w3.ownsRow w.heap.size 29 7 v' (due now (itq (qs.take (k + 1)))).length (itc (due now (itq (qs.take (k + 1))))) ∧ (∀ b, v'.ownBlock = some b → b ≠ g2) ∧ Below w.heap.size w w3) := by
            intro w3 g2 hg2 hb3
            refine ⟨?_, fun b hb => by have := (hvl b hb).2; omega, hB2.trans (hb3.mono hB2.size)⟩
            rw [hsu, Option.toList_some, due_snoc_yes now _ x hdl, itc_snoc, List.length_append]
            exact (OnlyIn.of_below (S := []) hb3).own h2 (by simp)
          have hsz0 := hB2.size
          obtain ⟨A0, c0', hv0⟩ := own_slice HO.out
          subst hv0
          unfold It.arr at hr
          unfold scell It.arr It.zero at HWi
          clear hR2 hsz2 hB2 hvl hown3 hsl h2 h3 h5 ho hck hsu hlt'
          go_wp2_with (at_builtin; refine appendBy rfl _ _ 36 rfl _ _ rfl rfl _ _ hr ?_)
          refine HWi.out.mono ?_
          rintro e w3 ⟨g2, c2', rfl, hR3, hg2, hB3⟩
          have FIN := Lib.hid (And.intro hR3 (And.intro (show g2 = g ∨ w.heap.size ≤ g2 by right; omega) (FINh.out w3 g2 hg2 hB3)))
          clear hR3 hg2 hB3 FINh
          go_wp2_with fail
          exact ⟨⟨k + 1, g2, c2', by omega, rfl, by go_num, FIN.out⟩, by simp [intOf]; omega⟩
        · have hdl' : decide (x.dl ≤ now) = false := decide_eq_false hdl
          have FIN : Hid (Rw wr g' n (curQ now qs (k + 1)) ∧ (g' = g ∨ w.heap.size ≤ g') ∧ wr.ownsRow w.heap.size 29 7 u6 (due now (itq (qs.take (k + 1)))).length (itc (due now (itq (qs.take (k + 1))))) ∧ (∀ b, u6.ownBlock = some b → b ≠ g') ∧ Below w.heap.size w wr) := by
            rw [curQ_same now qs k (by rw [ho]; simp [stayQ, Option.filter]; omega), hsu, Option.toList_some, due_snoc_no now _ x hdl]
            exact ⟨HRr.out, hgg, HO.out, HAp.out, HB.out⟩
          clear ho hck hsu
          go_wp2_with fail
          exact ⟨⟨k + 1, g', c', by omega, rfl, by go_num, FIN.out⟩, by simp [intOf]; omega⟩
    · have : k = n := by omega
      subst this
      have FIN : Hid (Rw wr g' k (qs.map (stayQ now)) ∧ (g' = g ∨ w.heap.size ≤ g') ∧ wr.ownsRow w.heap.size 29 7 u6 (due now (itq qs)).length (itc (due now (itq qs))) ∧ Below w.heap.size w wr) := by
        have h1 := HRr.out
        have h2 := HO.out
        rw [curQ_end now qs k (by omega)] at h1
        rw [List.take_of_length_le (by omega)] at h2
        exact ⟨h1, hgg, h2, HB.out⟩
      go_wp2_with fail
      exact bodyPost_ret (v := .tuple #[.slice (some ⟨g', 0, none⟩) k c', u6]) (by simp [results, Try.results17, go_sem]) rfl ⟨g', c', u6, rfl, FIN.out⟩
end
end Go.Proofs.Ytnlpjgogflcmoaa
