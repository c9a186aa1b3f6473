/- Contracts of Take, All and Free. Condition: the places are well made (SlotIs), or nil. -/
import Derived.Test.YtnlpjgogflcmoaaSlotB
namespace Go.Proofs.Ytnlpjgogflcmoaa
open Go.RowKit Go.Lk

section
variable (bs many : Nat) (ps : List (Option (Nat × It))) (w : World)

set_option maxHeartbeats 1000000 in
theorem take_none (h : SlotIs w bs many ps) (id : Int) (hno : ∀ (k b : Nat) (x : It), ps[k]? = some (some (b, x)) → x.id ≠ id) :
    Calls Try.prog 9 #[.pointer (some ⟨bs, 0, none⟩), .int .i64 id] w fun e w' => e = .returned (.tuple #[.agg It.zero.arr, .bool false]) ∧ Below w.heap.size w w' := by
  have h2 : SlotIs (w.alloc (.cells It.zero.arr 29)) bs many ps := h.below ((Below.refl w.heap.size w).alloc (Nat.le_refl _) _)
  have HP := Lib.hid (place_none bs many ps _ h2 id hno)
  unfold It.arr It.zero at *
  clear h h2 hno
  go_enter Try.func9, Try.ntmps9
  go_wp2_with fail
  refine HP.out.mono ?_
  rintro e w1 ⟨rfl, hw⟩
  subst hw
  go_wp2_with fail
  exact bodyPost_ret (v := .tuple #[.agg #[.int .i64 0, .int .i64 0, .int .i64 0, .int .i64 0, .int .i64 0, .int .i64 0, .int .i64 0], .bool false]) (by simp [results, Try.results9, go_sem]) rfl ⟨rfl, (Below.refl _ w).alloc (Nat.le_refl _) _⟩

set_option maxHeartbeats 1000000 in
theorem take_ok (h : SlotIs w bs many ps) (id : Int) (q b : Nat) (x : It) (hq : ps[q]? = some (some (b, x))) (hid : x.id = id) (hno : ∀ (k b : Nat) (x : It), k < q → ps[k]? = some (some (b, x)) → x.id ≠ id) :
    Calls Try.prog 9 #[.pointer (some ⟨bs, 0, none⟩), .int .i64 id] w fun e w' => e = .returned (.tuple #[.agg x.arr, .bool true]) ∧ SlotIs w' bs many (ps.set q none) ∧ OnlyIn [bs] w w' := by
  have h2 : SlotIs (w.alloc (.cells It.zero.arr 29)) bs many ps := h.below ((Below.refl w.heap.size w).alloc (Nat.le_refl _) _)
  have HP := Lib.hid (place_ok bs many ps _ h2 id q b x hq hid hno)
  have h3 : SlotIs ((w.alloc (.cells It.zero.arr 29)).alloc (.cells x.arr 29)) bs many ps := h2.below ((Below.refl _ _).alloc (Nat.le_refl _) _)
  have hqm := h.free q b x hq
  have hsm := h.small
  have q1 : (q : Int) < 16 := by omega
  have ck := h2.ck hq
  have ck3 := h3.ck hq
  have hfz : ((w.alloc (.cells It.zero.arr 29)).alloc (.cells x.arr 29)).frozen? ⟨bs, 1 + q, none⟩ = false := by simp [World.frozen?, h3.s]
  obtain ⟨i0, i1, i2, i3, i4, i5, i6⟩ := It.cell x (h2.it q b x hq)
  unfold pval at ck ck3
  have HLT := Lib.hid (heap_lt h.s)
  have FINh : ∀ w3, w3 = ((w.alloc (.cells It.zero.arr 29)).alloc (.cells x.arr 29)).setCell ⟨bs, 1 + q, none⟩ (.pointer none) → ∀ w4, OnlyIn [w.heap.size] w3 w4 → SlotIs w4 bs many (ps.set q none) ∧ OnlyIn [bs] w w4 := by
    intro w3 e w4 ho
    have hS := h3.set_ q hqm none (by intro b x e; cases e)
    have e' : w3 = ((w.alloc (.cells It.zero.arr 29)).alloc (.cells x.arr 29)).setCell ⟨bs, 1 + q, none⟩ (pval none) := e
    rw [← e'] at hS
    have hO : OnlyIn [bs] w w3 := by rw [e]; exact (((OnlyIn.refl [bs] w).alloc _).alloc _).setCell (by simp) _
    have hlt := heap_lt h.s
    refine ⟨⟨(ho.block _ (heap_lt hS.s) (by simp; omega)).trans hS.s, hS.len, fun k b y hk => ?_, hS.small, hS.free⟩, ⟨ho.os.trans hO.os, ho.tape.trans hO.tape, ho.output.trans hO.output, Nat.le_trans hO.size ho.size, fun k hk hn => (ho.block k (Nat.lt_of_lt_of_le hk hO.size) (by simp; omega)).trans (hO.block k hk hn)⟩⟩
    have hb := hS.it k b y hk
    rw [List.getElem?_set] at hk
    split at hk
    · split at hk <;> simp at hk
    · have := heap_lt (h.it k b y hk)
      exact (ho.block _ (heap_lt hb) (by simp; omega)).trans hb
  unfold It.arr It.zero at *
  clear h h2 h3 hq hid hno
  go_enter Try.func9, Try.ntmps9
  go_wp2_with fail
  refine HP.out.mono ?_
  rintro e w1 ⟨rfl, hw⟩
  subst hw
  go_upto_region 6 with fail
  generalize hw3 : ((w.alloc (.cells #[.int .i64 0, .int .i64 0, .int .i64 0, .int .i64 0, .int .i64 0, .int .i64 0, .int .i64 0] 29)).alloc (.cells #[.int .i64 x.id, .int .i64 x.lv, .int .i64 x.fr, .int .i64 x.dl, .int .i64 x.bu, .int .i64 x.si, .int .i64 x.sq] 29)).setCell ⟨bs, 1 + q, none⟩ (.pointer none) = w3
  have hlt := HLT.out
  have hz3 : w3.heap[w.heap.size]? = some (.cells It.zero.arr 29 (0, 0)) := by
    rw [← hw3, Below.heap_setCell _ _ _ _ (by simp; omega), Below.heap_alloc _ _ _ (by simp)]
    exact heap_alloc_new w _
  have hx3 : w3.heap[w.heap.size + 1]? = some (.cells x.arr 29 (0, 0)) := by
    rw [← hw3, Below.heap_setCell _ _ _ _ (by simp; omega)]
    have := heap_alloc_new (w.alloc (.cells It.zero.arr 29)) (.cells x.arr 29)
    rw [show (w.alloc (.cells It.zero.arr 29)).heap.size = w.heap.size + 1 by simp] at this
    exact this
  obtain ⟨j0, j1, j2, j3, j4, j5, j6⟩ := It.cell x hx3
  obtain ⟨z0, z1, z2, z3, z4, z5, z6⟩ := It.cell It.zero hz3
  have fz : ∀ i, w3.frozen? ⟨w.heap.size, i, none⟩ = false := fun i => by simp [World.frozen?, hz3]
  have FIN := Lib.hid (FINh w3 hw3.symm)
  have HZ3 := Lib.hid hz3
  unfold It.zero at *
  clear hw3 hz3 hx3 HLT hlt FINh
  go_wp2_with fail
  have hz4 : (((((((w3.setCell ⟨w.heap.size, 0, none⟩ (.int .i64 x.id)).setCell ⟨w.heap.size, 1, none⟩ (.int .i64 x.lv)).setCell ⟨w.heap.size, 2, none⟩ (.int .i64 x.fr)).setCell ⟨w.heap.size, 3, none⟩ (.int .i64 x.dl)).setCell ⟨w.heap.size, 4, none⟩ (.int .i64 x.bu)).setCell ⟨w.heap.size, 5, none⟩ (.int .i64 x.si)).setCell ⟨w.heap.size, 6, none⟩ (.int .i64 x.sq)).heap[w.heap.size]? = some (.cells x.arr 29 (0, 0)) := (heap_set1 (heap_set1 (heap_set1 (heap_set1 (heap_set1 (heap_set1 (heap_set1 HZ3.out 0 (.int .i64 x.id)) 1 (.int .i64 x.lv)) 2 (.int .i64 x.fr)) 3 (.int .i64 x.dl)) 4 (.int .i64 x.bu)) 5 (.int .i64 x.si)) 6 (.int .i64 x.sq))
  have hO4 := FIN.out _ ((((((((OnlyIn.refl [w.heap.size] w3).setCell (p := ⟨w.heap.size, 0, none⟩) (by simp) (.int .i64 x.id)).setCell (p := ⟨w.heap.size, 1, none⟩) (by simp) (.int .i64 x.lv)).setCell (p := ⟨w.heap.size, 2, none⟩) (by simp) (.int .i64 x.fr)).setCell (p := ⟨w.heap.size, 3, none⟩) (by simp) (.int .i64 x.dl)).setCell (p := ⟨w.heap.size, 4, none⟩) (by simp) (.int .i64 x.bu)).setCell (p := ⟨w.heap.size, 5, none⟩) (by simp) (.int .i64 x.si)).setCell (p := ⟨w.heap.size, 6, none⟩) (by simp) (.int .i64 x.sq))
  generalize (((((((w3.setCell ⟨w.heap.size, 0, none⟩ (.int .i64 x.id)).setCell ⟨w.heap.size, 1, none⟩ (.int .i64 x.lv)).setCell ⟨w.heap.size, 2, none⟩ (.int .i64 x.fr)).setCell ⟨w.heap.size, 3, none⟩ (.int .i64 x.dl)).setCell ⟨w.heap.size, 4, none⟩ (.int .i64 x.bu)).setCell ⟨w.heap.size, 5, none⟩ (.int .i64 x.si)).setCell ⟨w.heap.size, 6, none⟩ (.int .i64 x.sq)) = w4 at *
  obtain ⟨y0, y1, y2, y3, y4, y5, y6⟩ := It.cell x hz4
  exact bodyPost_ret (v := .tuple #[.agg #[.int .i64 x.id, .int .i64 x.lv, .int .i64 x.fr, .int .i64 x.dl, .int .i64 x.bu, .int .i64 x.si, .int .i64 x.sq], .bool true]) (by simp [results, Try.results9, go_sem, y0, y1, y2, y3, y4, y5, y6]) rfl ⟨rfl, hO4⟩

end
theorem Try.info29 : (Try.prog.info? 29).map (fun i => (i.zero, i.size, i.bytes)) = some (some (.agg It.zero.arr), 7, 56) := by kernel_rfl
/-- Who is worked at, by their places. -/
def its (ps : List (Option (Nat × It))) : List It := ps.filterMap fun o => o.map Prod.snd
def itc (l : List It) : List Value := (l.map fun x => x.arr.toList).flatten
theorem itc_length (l : List It) : (itc l).length = l.length * 7 := by
  unfold itc
  induction l with
  | nil => rfl
  | cons x r ih => simp only [List.map_cons, List.flatten_cons, List.length_append, ih, List.length_cons]; simp [It.arr]; omega
theorem its_take (ps : List (Option (Nat × It))) (m : Nat) (h : ∀ (k b : Nat) (x : It), ps[k]? = some (some (b, x)) → k < m) : its (ps.take m) = its ps := by
  have h0 : its (ps.drop m) = [] := by
    unfold its
    rw [List.filterMap_eq_nil_iff]
    intro o ho
    obtain ⟨k, hk⟩ := List.mem_iff_getElem?.1 ho
    rw [List.getElem?_drop] at hk
    cases o with
    | none => rfl
    | some bx => have := h _ bx.1 bx.2 hk; omega
  have h1 : its ps = its (ps.take m) ++ its (ps.drop m) := by unfold its; rw [← List.filterMap_append, List.take_append_drop]
  rw [h1, h0, List.append_nil]
theorem its_succ (ps : List (Option (Nat × It))) (k : Nat) (o : Option (Nat × It)) (h : ps[k]? = some o) : its (ps.take (k + 1)) = its (ps.take k) ++ (o.map Prod.snd).toList := by
  have hk := (List.getElem?_eq_some_iff.1 h).1
  have hv : ps[k] = o := by have := List.getElem?_eq_getElem hk; rw [this] at h; injection h
  unfold its
  rw [List.take_succ_eq_append_getElem hk, List.filterMap_append, hv]
  cases o <;> rfl
theorem its_le (ps : List (Option (Nat × It))) (k : Nat) : (its (ps.take k)).length ≤ k := by
  unfold its
  exact Nat.le_trans (List.length_filterMap_le _ _) (List.length_take_le _ _)

section
variable (bs many : Nat) (ps : List (Option (Nat × It))) (w : World)
set_option maxHeartbeats 2000000 in
theorem all_ok (h : SlotIs w bs many ps) :
    Calls Try.prog 11 #[.pointer (some ⟨bs, 0, none⟩)] w fun e w' => ∃ u, e = .returned u ∧ w'.ownsRow w.heap.size 29 7 u (its ps).length (itc (its ps)) ∧ Below w.heap.size w w' := by
  obtain ⟨i0, hi0, hz0, hz1, hz2⟩ := info_parts Try.info29
  have HP := Lib.hid (places_ok bs many ps w h)
  have HS := Lib.hid h
  have hsm := h.small
  clear h
  go_enter Try.func11, Try.ntmps11
  go_wp2_with fail
  refine HP.out.mono ?_
  rintro e w1 ⟨rfl, hw⟩
  subst hw
  go_wp2_with fail
  go_loopw [3, 9] (fun v i wr => ∃ k : Nat, k ≤ many ∧ i = .int .i64 k ∧ wr.ownsRow w.heap.size 29 7 v (its (ps.take k)).length (itc (its (ps.take k))) ∧ Below w.heap.size w wr) (fun _ i _ => many - (intOf i).toNat)
  case atStart => exact ⟨0, by omega, rfl, World.ownsRow_nil _ _ _ _, Below.refl _ _⟩
  case round =>
    obtain ⟨k, hk, rfl, hown, hB⟩ := hrel
    by_cases hlt : k < many
    · obtain ⟨o, ho⟩ : ∃ o, ps[k]? = some o := ⟨_, List.getElem?_eq_getElem (by rw [HS.out.len]; omega)⟩
      have hsu := its_succ ps k o ho
      have hle := its_le ps k
      have hS := HS.out.below hB
      have HB := Lib.hid hB
      have HO := Lib.hid hown
      clear hB hown
      cases o with
      | none =>
        have HA := Lib.hid (at_free bs many ps wr hS k hlt ho)
        have HE := Lib.hid hsu
        clear hS ho hsu
        unfold It.arr It.zero at HA
        go_wp2_with fail
        refine HA.out.mono ?_
        rintro e w2 ⟨rfl, hB2⟩
        have HB2 := Lib.hid hB2
        clear hB2
        go_wp2_with fail
        have hBt := HB.out.trans (HB2.out.mono HB.out.size)
        refine ⟨⟨k + 1, by omega, by go_num, ?_, hBt.alloc hBt.size _⟩, by simp [intOf]; omega⟩
        rw [HE.out]
        simp only [Option.map_none, Option.toList_none, List.append_nil]
        exact ((OnlyIn.of_below (S := []) HB2.out).alloc _).own HO.out (by simp)
      | some bx =>
        obtain ⟨b, x⟩ := bx
        have HA := Lib.hid (at_ok bs many ps wr hS k b x ho)
        have HE := Lib.hid hsu
        clear hS ho hsu
        unfold It.arr at HA
        go_wp2_with fail
        refine HA.out.mono ?_
        rintro e w2 ⟨rfl, hB2⟩
        have hBt := HB.out.trans (hB2.mono HB.out.size)
        have hO3 : OnlyIn [] wr ((w2.alloc (.cells x.arr 29)).alloc (.cells x.arr 29)) := ((OnlyIn.of_below (S := []) hB2).alloc _).alloc _
        have hown3 := hO3.own HO.out (by simp)
        have hx3 : ((w2.alloc (.cells x.arr 29)).alloc (.cells x.arr 29)).heap[w2.heap.size + 1]? = some (.cells x.arr 29 (0, 0)) := by
          have := heap_alloc_new (w2.alloc (.cells x.arr 29)) (.cells x.arr 29)
          rw [show (w2.alloc (.cells x.arr 29)).heap.size = w2.heap.size + 1 by simp] at this
          exact this
        have hsl := sl_row (n := 7) (xs := x.arr.toList) hx3 rfl
        have hle2 : (its (ps.take k)).length ≤ 16 := by omega
        obtain ⟨v', w', hr, h2, h3, _, h5⟩ := run_append_own_at (P := Try.prog) ((w2.alloc (.cells x.arr 29)).alloc (.cells x.arr 29)) w.heap.size 36 36 29 i0 (.agg It.zero.arr) 7 56 Try.underlying36 hi0 hz0 hz1 hz2 rfl (by omega) u3 (its (ps.take k)).length (itc (its (ps.take k))) hown3
          ⟨w2.heap.size + 1, 0, none⟩ 1 1 x.arr.toList rfl (fun j u hj => by obtain ⟨a, ha, _, hc⟩ := hsl j u hj; injection ha with ha; subst ha; exact hc) (by intro u hu; simp [It.arr] at hu; rcases hu with rfl | rfl | rfl | rfl | rfl | rfl | rfl <;> rfl) (by unfold maxLen; omega) (by omega) (by have := hBt.size; simp; omega)
        have FIN : Hid (w'.ownsRow w.heap.size 29 7 v' (its (ps.take (k + 1))).length (itc (its (ps.take (k + 1)))) ∧ Below w.heap.size w w') := by
          refine ⟨?_, ((hBt.alloc hBt.size (.cells x.arr 29)).alloc (by have := hBt.size; simp; omega) (.cells x.arr 29)).grown h3 (by have := hBt.size; simp; omega) (fun j hj => (HO.out.lt j hj).1)⟩
          rw [HE.out, List.length_append]
          have e1 : itc (its (ps.take k) ++ (Option.map Prod.snd (some (b, x))).toList) = itc (its (ps.take k)) ++ x.arr.toList := by simp [itc]
          rw [e1]
          exact h2
        obtain ⟨A0, n0, c0, hv⟩ : ∃ A0 n0 c0, u3 = .slice A0 n0 c0 := by
          rcases HO.out.2 with ⟨hv, _⟩ | ⟨g, cap, cur, hv, _⟩ <;> exact ⟨_, _, _, hv⟩
        subst hv
        unfold It.arr at hr
        clear hB2 hBt hO3 hown3 hx3 hsl h2 h3 h5
        go_wp2_with (at_builtin; refine appendBy rfl _ _ 36 rfl _ _ rfl rfl _ _ hr ?_)
        exact ⟨⟨k + 1, by omega, by go_num, FIN.out⟩, by simp [intOf]; omega⟩
    · have : k = many := by omega
      subst this
      rw [its_take ps k HS.out.free] at hown
      go_wp2_with fail
      go_ret
      exact ⟨_, rfl, hown, hB⟩
end
end Go.Proofs.Ytnlpjgogflcmoaa
