/- The contract of Late. Condition: the places are well made (SlotIs), and no id stands at two of them. -/
import Derived.Test.YtnlpjgogflcmoaaSlotD
import Derived.Test.YtnlpjgogflcmoaaOpen
namespace Go.Proofs.Ytnlpjgogflcmoaa
open Go.RowKit Go.Lk

/-- No id stands at two places. -/
def Dist (ps : List (Option (Nat × It))) : Prop := ∀ (k k' b b' : Nat) (x x' : It), ps[k]? = some (some (b, x)) → ps[k']? = some (some (b', x')) → x.id = x'.id → k = k'
def stays (now : Int) (o : Option (Nat × It)) : Option (Nat × It) := o.filter fun bx => decide (now < bx.2.dl)
/-- The places when Late has come to place k. -/
def cur (now : Int) (ps : List (Option (Nat × It))) (k : Nat) : List (Option (Nat × It)) := (ps.take k).map (stays now) ++ ps.drop k
def due (now : Int) (l : List It) : List It := l.filter fun x => decide (x.dl ≤ now)

theorem cur_get (now : Int) (ps : List (Option (Nat × It))) (k q : Nat) : (cur now ps k)[q]? = if q < k then (ps[q]?).map (stays now) else ps[q]? := by
  unfold cur
  by_cases hk : k ≤ ps.length
  · have hl : ((ps.take k).map (stays now)).length = k := by simp; omega
    by_cases hq : q < k
    · rw [if_pos hq, List.getElem?_append_left (by omega), List.getElem?_map, List.getElem?_take, if_pos hq]
    · rw [if_neg hq, List.getElem?_append_right (by omega), List.getElem?_drop, hl]
      congr 1; omega
  · have hl : ((ps.take k).map (stays now)).length = ps.length := by simp; omega
    have hd : ps.drop k = [] := List.drop_eq_nil_of_le (by omega)
    rw [hd, List.append_nil, List.getElem?_map, List.take_of_length_le (by omega)]
    by_cases hq : q < k
    · rw [if_pos hq]
    · rw [if_neg hq, List.getElem?_eq_none (by omega)]; rfl
theorem cur_zero (now : Int) (ps : List (Option (Nat × It))) : cur now ps 0 = ps := rfl
theorem cur_end (now : Int) (ps : List (Option (Nat × It))) (k : Nat) (h : ps.length ≤ k) : cur now ps k = ps.map (stays now) := by
  unfold cur
  rw [List.take_of_length_le h, List.drop_eq_nil_of_le h, List.append_nil]
theorem cur_same (now : Int) (ps : List (Option (Nat × It))) (k : Nat) (h : (ps[k]?).map (stays now) = ps[k]?) : cur now ps (k + 1) = cur now ps k := by
  apply List.ext_getElem?
  intro q
  rw [cur_get, cur_get]
  by_cases h1 : q < k
  · rw [if_pos h1, if_pos (by omega)]
  · rw [if_neg h1]
    by_cases h2 : q = k
    · subst h2; rw [if_pos (by omega), h]
    · rw [if_neg (by omega)]
theorem cur_set (now : Int) (ps : List (Option (Nat × It))) (k : Nat) (b : Nat) (x : It) (hk : ps[k]? = some (some (b, x))) (h : x.dl ≤ now) : cur now ps (k + 1) = (cur now ps k).set k none := by
  have hlt := (List.getElem?_eq_some_iff.1 hk).1
  have hl : (cur now ps k).length = ps.length := by unfold cur; simp; omega
  apply List.ext_getElem?
  intro q
  rw [List.getElem?_set, cur_get, cur_get]
  by_cases h2 : k = q
  · subst h2
    rw [if_pos (by omega), if_pos rfl, if_pos (by omega), hk]
    have hd : decide (now < x.dl) = false := decide_eq_false (by omega)
    simp [stays, Option.filter, hd]
  · rw [if_neg h2]
    by_cases h1 : q < k
    · rw [if_pos (by omega), if_pos h1]
    · rw [if_neg (by omega), if_neg h1]
theorem cur_len (now : Int) (ps : List (Option (Nat × It))) (k : Nat) : (cur now ps k).length = ps.length := by
  unfold cur; simp; omega
theorem cur_some (now : Int) (ps : List (Option (Nat × It))) (k q b : Nat) (x : It) (h : (cur now ps k)[q]? = some (some (b, x))) : ps[q]? = some (some (b, x)) := by
  rw [cur_get] at h
  split at h
  · cases ho : ps[q]? with
    | none => rw [ho] at h; simp at h
    | some o =>
      rw [ho] at h
      simp only [Option.map_some, stays, Option.some.injEq] at h
      cases o with
      | none => simp at h
      | some y =>
        simp only [Option.filter] at h
        split at h
        · rw [h]
        · cases h
  · exact h
theorem Dist.cur {ps : List (Option (Nat × It))} (h : Dist ps) (now : Int) (k : Nat) : Dist (cur now ps k) := fun i i' b b' x x' h1 h2 he =>
  h i i' b b' x x' (cur_some _ _ _ _ _ _ h1) (cur_some _ _ _ _ _ _ h2) he
theorem its_mem {ps : List (Option (Nat × It))} {x : It} (h : x ∈ its ps) : ∃ k b : Nat, ps[k]? = some (some (b, x)) := by
  unfold its at h
  rw [List.mem_filterMap] at h
  obtain ⟨o, ho, hx⟩ := h
  obtain ⟨k, hk⟩ := List.mem_iff_getElem?.1 ho
  cases o with
  | none => cases hx
  | some bx => obtain ⟨b, y⟩ := bx; simp at hx; subst hx; exact ⟨k, b, hk⟩
/-- The next one that is worked at, from place k on. -/
theorem nxt (now : Int) (ps : List (Option (Nat × It))) : ∀ n k : Nat, ps.length - k = n → (its (ps.take k)).length < (its ps).length →
    ∃ q b x, ps[q]? = some (some (b, x)) ∧ (its ps)[(its (ps.take k)).length]? = some x ∧ its (ps.take q) = its (ps.take k) ∧ cur now ps q = cur now ps k
  | 0, k, hn, hlt => by
    rw [List.take_of_length_le (by omega)] at hlt
    omega
  | n + 1, k, hn, hlt => by
    obtain ⟨o, ho⟩ : ∃ o, ps[k]? = some o := ⟨_, List.getElem?_eq_getElem (by omega)⟩
    have hs := its_succ ps k o ho
    cases o with
    | none =>
      simp only [Option.map_none, Option.toList_none, List.append_nil] at hs
      obtain ⟨q, b, x, h1, h2, h3, h4⟩ := nxt now ps n (k + 1) (by omega) (by rw [hs]; exact hlt)
      refine ⟨q, b, x, h1, by rw [← hs]; exact h2, h3.trans hs, h4.trans (cur_same now ps k ?_)⟩
      rw [ho]; rfl
    | some bx =>
      obtain ⟨b, x⟩ := bx
      refine ⟨k, b, x, ho, ?_, rfl, rfl⟩
      have h1 : its ps = its (ps.take (k + 1)) ++ its (ps.drop (k + 1)) := by unfold its; rw [← List.filterMap_append, List.take_append_drop]
      rw [h1, hs]
      simp
theorem itc_get (l : List It) (j : Nat) (x : It) (h : l[j]? = some x) (i : Nat) (hi : i < 7) : (itc l)[j * 7 + i]? = x.arr.toList[i]? := by
  unfold itc
  rw [flat_get (K := 7) (l.map fun x => x.arr.toList) (by intro r hr; rw [List.mem_map] at hr; obtain ⟨y, _, rfl⟩ := hr; rfl) j i hi, List.getElem?_map, h]
  rfl
theorem its_split (ps : List (Option (Nat × It))) (k : Nat) : its ps = its (ps.take k) ++ its (ps.drop k) := by unfold its; rw [← List.filterMap_append, List.take_append_drop]
theorem its_done {ps : List (Option (Nat × It))} {k : Nat} (h : (its (ps.take k)).length = (its ps).length) : its (ps.take k) = its ps ∧ its (ps.drop k) = [] := by
  have hs := its_split ps k
  have hl := congrArg List.length hs
  rw [List.length_append] at hl
  have h0 : its (ps.drop k) = [] := List.eq_nil_of_length_eq_zero (by omega)
  refine ⟨?_, h0⟩
  rw [h0, List.append_nil] at hs
  exact hs.symm
theorem cur_done (now : Int) {ps : List (Option (Nat × It))} {k : Nat} (h : its (ps.drop k) = []) : cur now ps k = ps.map (stays now) := by
  unfold cur
  have : ps.drop k = (ps.drop k).map (stays now) := by
    unfold its at h
    rw [List.filterMap_eq_nil_iff] at h
    symm
    rw [List.map_congr_left (g := id), List.map_id]
    intro o ho
    have := h o ho
    cases o with
    | none => rfl
    | some bx => cases this
  rw [this, ← List.map_append, List.take_append_drop]
theorem due_snoc_yes (now : Int) (l : List It) (x : It) (h : x.dl ≤ now) : due now (l ++ [x]) = due now l ++ [x] := by
  unfold due; rw [List.filter_append]; simp [h]
theorem due_snoc_no (now : Int) (l : List It) (x : It) (h : ¬ x.dl ≤ now) : due now (l ++ [x]) = due now l := by
  unfold due; rw [List.filter_append]; simp; omega
theorem itc_snoc (l : List It) (x : It) : itc (l ++ [x]) = itc l ++ x.arr.toList := by simp [itc]
theorem due_le (now : Int) (l : List It) : (due now l).length ≤ l.length := List.length_filter_le _ _

section
variable (bs many : Nat) (ps : List (Option (Nat × It))) (w : World)
set_option maxHeartbeats 4000000 in
theorem late_ok (h : SlotIs w bs many ps) (hd : Dist ps) (now : Int) :
    Calls Try.prog 10 #[.pointer (some ⟨bs, 0, none⟩), .int .i64 now] w fun e w' => ∃ u, e = .returned u ∧ w'.ownsRow w.heap.size 29 7 u (due now (its ps)).length (itc (due now (its ps))) ∧ SlotIs w' bs many (ps.map (stays now)) ∧ OnlyIn [bs] w w' := by
  obtain ⟨i0, hi0, hz0, hz1, hz2⟩ := info_parts Try.info29
  have HA := Lib.hid (all_ok bs many ps w h)
  have HS := Lib.hid h
  have HD := Lib.hid hd
  have hsm := h.small
  have HLT := Lib.hid (heap_lt h.s)
  have hle := its_le ps many
  rw [its_take ps many h.free] at hle
  clear h hd
  go_enter Try.func10, Try.ntmps10
  go_wp2_with fail
  refine HA.out.mono ?_
  rintro e w1 ⟨u, rfl, hown, hB⟩
  obtain ⟨A, c, rfl⟩ := own_slice hown
  have HOW := Lib.hid hown
  have HB1 := Lib.hid hB
  clear hown hB
  go_wp2_with fail
  go_loopw [5, 11] (fun v i wr => ∃ k j : Nat, (its (ps.take k)).length = j ∧ j ≤ (its ps).length ∧ i = .int .i64 j ∧ wr.ownsRow w1.heap.size 29 7 v (due now (its (ps.take k))).length (itc (due now (its (ps.take k)))) ∧ SlotIs wr bs many (cur now ps k) ∧ OnlyIn [bs] w1 wr) (fun _ i _ => (its ps).length - (intOf i).toNat)
  case atStart => exact ⟨0, 0, rfl, by omega, rfl, World.ownsRow_nil _ _ _ _, HS.out.below HB1.out, OnlyIn.refl _ _⟩
  case round =>
    obtain ⟨k, j, hj, hjn, rfl, hown, hSk, hO⟩ := hrel
    have HO := Lib.hid hO
    have HOwn := Lib.hid hown
    have HSk := Lib.hid hSk
    have HJ := Lib.hid hj
    clear hO hown hSk hj
    by_cases hlt : j < (its ps).length
    · obtain ⟨q, b, x, hq, hxj, hik, hck⟩ := nxt now ps _ k rfl (by rw [HJ.out]; exact hlt)
      obtain ⟨g, cap, hv, hg1, hg2, hnc, hcell, _⟩ := own_posN HOW.out (by omega)
      injection hv with hA hn hc
      subst hA hc
      rw [HJ.out] at hxj
      have hjx : (j : Int) < ((its ps).length : Int) := by omega
      have cc : ∀ i, i < 7 → ∀ v, x.arr.toList[i]? = some v → wr.cell? ⟨g, j * 7 + i, none⟩ = some v := by
        intro i hi v hv
        have h1 := HLT.out
        rw [HO.out.cell (p := ⟨g, j * 7 + i, none⟩) hg2 (by simp; omega)]
        exact hcell _ _ ((itc_get _ j x hxj i hi).trans hv)
      have c0 : wr.cell? ⟨g, j * 7, none⟩ = some (.int .i64 x.id) := cc 0 (by omega) _ rfl
      have c1 := cc 1 (by omega) _ rfl
      have c2 := cc 2 (by omega) _ rfl
      have c3 := cc 3 (by omega) _ rfl
      have c4 := cc 4 (by omega) _ rfl
      have c5 := cc 5 (by omega) _ rfl
      have c6 := cc 6 (by omega) _ rfl
      have HQ := Lib.hid hq
      have HIK := Lib.hid hik
      have HCK := Lib.hid hck
      clear hq hik hck hxj hcell cc
      have hSq : SlotIs wr bs many (cur now ps q) := by rw [HCK.out]; exact HSk.out
      have hqq : (cur now ps q)[q]? = some (some (b, x)) := by rw [cur_get, if_neg (Nat.lt_irrefl _)]; exact HQ.out
      have hsu : its (ps.take (q + 1)) = its (ps.take k) ++ [x] := by rw [its_succ ps q _ HQ.out, HIK.out]; rfl
      have hO3 : OnlyIn [bs] w1 (wr.alloc (.cells x.arr 29)) := HO.out.alloc _
      by_cases hdl : x.dl ≤ now
      · have HT := Lib.hid (take_ok bs many (cur now ps q) (wr.alloc (.cells x.arr 29)) (hSq.below ((Below.refl _ _).alloc (Nat.le_refl _) _)) x.id q b x hqq rfl (fun k' b' x' hk' h1 he => by have := HD.out.cur now q k' q b' b x' x h1 hqq he; omega))
        rw [← cur_set now ps q b x HQ.out hdl] at HT
        have hdl' : decide (x.dl ≤ now) = true := decide_eq_true hdl
        have HSU := Lib.hid hsu
        have HO3 := Lib.hid hO3
        clear hSq hqq hsu hO3
        unfold It.arr at *
        go_wp2_with fail
        refine HT.out.mono ?_
        rintro e w2 ⟨rfl, hS2, hO2⟩
        have hx2 : w2.heap[wr.heap.size]? = some (.cells x.arr 29 (0, 0)) := (hO2.block _ (by simp) (by have := heap_lt HSk.out.s; simp; omega)).trans (heap_alloc_new wr _)
        obtain ⟨y0, y1, y2, y3, y4, y5, y6⟩ := It.cell x hx2
        have hO4 : OnlyIn [bs] wr (w2.alloc (.cells x.arr 29)) := (((OnlyIn.refl [bs] wr).alloc _).trans hO2).alloc _
        have hown4 := hO4.own HOwn.out (fun k hk => by have h1 := (HOwn.out.lt k hk).1; have h2 := HLT.out; have h3 := HB1.out.size; simp; omega)
        have hsl := sl_row (n := 7) (xs := x.arr.toList) (heap_alloc_new w2 (.cells x.arr 29)) rfl
        have hdle := due_le now (its (ps.take k))
        rw [HJ.out] at hdle
        obtain ⟨v', w', hr, h2, h3, _, h5⟩ := run_append_own_at (P := Try.prog) (w2.alloc (.cells x.arr 29)) w1.heap.size 36 36 29 i0 (.agg It.zero.arr) 7 56 Try.underlying36 hi0 hz0 hz1 hz2 rfl (by omega) u5 (due now (its (ps.take k))).length (itc (due now (its (ps.take k)))) hown4
          ⟨w2.heap.size, 0, none⟩ 1 1 x.arr.toList rfl (fun j u hj => by obtain ⟨a, ha, _, hc⟩ := hsl j u hj; injection ha with ha; subst ha; exact hc) (by intro u hu; simp [It.arr] at hu; rcases hu with rfl | rfl | rfl | rfl | rfl | rfl | rfl <;> rfl) (by unfold maxLen; omega) (by omega) (by have h1 := HO.out.size; have h4 := hO4.size; omega)
        have hb1 : ∀ k, u5.ownBlock = some k → k ∈ [bs] ∨ w1.heap.size ≤ k := fun k hk => .inr (HOwn.out.lt k hk).1
        have FIN : Hid ((its (ps.take (q + 1))).length = j + 1 ∧ w'.ownsRow w1.heap.size 29 7 v' (due now (its (ps.take (q + 1)))).length (itc (due now (its (ps.take (q + 1))))) ∧ SlotIs w' bs many (cur now ps (q + 1)) ∧ OnlyIn [bs] w1 w') := by
          refine ⟨by rw [HSU.out, List.length_append, HJ.out]; rfl, ?_, ?_, (HO.out.trans hO4).grown h3 hb1⟩
          · rw [HSU.out, due_snoc_yes now _ x hdl, itc_snoc, List.length_append]
            exact h2
          · have hS3 : SlotIs (w2.alloc (.cells x.arr 29)) bs many (cur now ps (q + 1)) := hS2.below ((Below.refl _ _).alloc (Nat.le_refl _) _)
            refine ⟨(h3.block bs (heap_lt hS3.s) (fun e => ?_)).trans hS3.s, hS3.len, fun k' b' x' hk' => (h3.block b' (heap_lt (hS3.it k' b' x' hk')) (fun e => ?_)).trans (hS3.it k' b' x' hk'), hS3.small, hS3.free⟩
            · have h6 := (HOwn.out.lt _ e.symm).1; have h7 := HLT.out; have h8 := HB1.out.size; omega
            · have h6 := (HOwn.out.lt _ e.symm).1; have h7 := heap_lt (HS.out.it _ _ _ (cur_some _ _ _ _ _ _ hk')); have h8 := HB1.out.size; omega
        obtain ⟨A0, n0, c0', hv0⟩ : ∃ A0 n0 c0, u5 = .slice A0 n0 c0 := by
          rcases HOwn.out.2 with ⟨hv, _⟩ | ⟨g, cap, cur, hv, _⟩ <;> exact ⟨_, _, _, hv⟩
        subst hv0
        unfold It.arr at hr
        clear hS2 hO2 hx2 hO4 hown4 hsl h2 h3 h5 hb1
        go_wp2_with (at_builtin; refine appendBy rfl _ _ 36 rfl _ _ rfl rfl _ _ hr ?_)
        exact ⟨⟨q + 1, j + 1, FIN.out.1, by omega, by go_num, FIN.out.2⟩, by simp [intOf]; omega⟩
      · have hdl' : decide (x.dl ≤ now) = false := decide_eq_false hdl
        have FIN : Hid ((its (ps.take (q + 1))).length = j + 1 ∧ (wr.alloc (.cells x.arr 29)).ownsRow w1.heap.size 29 7 u5 (due now (its (ps.take (q + 1)))).length (itc (due now (its (ps.take (q + 1))))) ∧ SlotIs (wr.alloc (.cells x.arr 29)) bs many (cur now ps (q + 1)) ∧ OnlyIn [bs] w1 (wr.alloc (.cells x.arr 29))) := by
          refine ⟨by rw [hsu, List.length_append, HJ.out]; rfl, ?_, ?_, hO3⟩
          · rw [hsu, due_snoc_no now _ x hdl]; exact ((OnlyIn.refl [] wr).alloc _).own HOwn.out (by simp)
          · rw [cur_same now ps q (by rw [HQ.out]; simp [stays, Option.filter]; omega)]
            exact hSq.below ((Below.refl _ _).alloc (Nat.le_refl _) _)
        clear hSq hqq hsu hO3
        unfold It.arr at *
        go_wp2_with fail
        exact ⟨⟨q + 1, j + 1, FIN.out.1, by omega, by go_num, FIN.out.2⟩, by simp [intOf]; omega⟩
    · have hjn' : j = (its ps).length := by omega
      obtain ⟨hd1, hd2⟩ := its_done (HJ.out.trans hjn')
      have hlt2 : ¬ (j : Int) < ((its ps).length : Int) := by omega
      have FIN : Hid (wr.ownsRow w.heap.size 29 7 u5 (due now (its ps)).length (itc (due now (its ps))) ∧ SlotIs wr bs many (ps.map (stays now)) ∧ OnlyIn [bs] w wr) := by
        have h1 := HOwn.out
        have h2 := HSk.out
        rw [hd1] at h1
        rw [cur_done now hd2] at h2
        exact ⟨own_base h1 HB1.out.size, h2, (OnlyIn.of_below HB1.out).trans HO.out⟩
      clear hjn' hd1 hd2
      go_wp2_with fail
      go_ret
      exact ⟨_, rfl, FIN.out⟩
end
end Go.Proofs.Ytnlpjgogflcmoaa
