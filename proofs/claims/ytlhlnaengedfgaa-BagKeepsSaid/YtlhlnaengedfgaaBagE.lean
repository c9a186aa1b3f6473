/- The walks of BagNobody and BagPlays. Condition: the arguments fit their types. -/
import Derived.Test.YtlhlnaengedfgaaBagD
import Derived.Deep.CutBlock
namespace Go.Proofs.Ytlhlnaengedfgaa
open Go.RowKit Go.Lk

set_option maxRecDepth 100000 in
set_option maxHeartbeats 2000000 in
theorem bagNobodyWalk (p : Int) (s : ByteArray) (w : World) :
    Calls Try.prog 5 #[.int .i64 p, .string s] w fun e w' => e = .returned (.bool true) ∧ Below w.heap.size w w' := by
  have hS : BagIs (w.alloc (.cells #[.int .i64 0, .slice none 0 0] 48)) w.heap.size 0 (.slice none 0 0) [] := ⟨heap_alloc_new w _, Tx.nil _ _, by simp, by omega, by simp [Value.ownBlock]⟩
  have HS := Lib.hid hS
  have hp : p < 0 ∨ (([] : List ByteArray).length : Int) ≤ p := by simp; omega
  have HP := Lib.hid hp
  clear hS hp
  have HB := Lib.hid ((Below.refl w.heap.size w).alloc (Nat.le_refl _) (.cells #[.int .i64 0, .slice none 0 0] 48))
  go_enter Try.func5, Try.ntmps5
  go_wp2_with fail
  generalize hw0 : w.alloc (.cells #[.int .i64 0, .slice none 0 0] 48) = w0 at *
  clear hw0
  refine (at_nil _ p).mono ?_
  rintro e w1 ⟨rfl, hw⟩
  subst hw
  go_wp2_with fail
  refine (take_bad w.heap.size 0 _ _ _ HS.out p HP.out).mono ?_
  rintro e w1 ⟨rfl, hw⟩
  subst hw
  go_wp2_with fail
  refine (put_nil _ s).mono ?_
  rintro e w1 ⟨rfl, m1, rfl⟩
  have HS1 := Lib.hid (HS.out.drewN m1)
  have HB1 := Lib.hid (below_drewN HB.out m1)
  go_wp2_with fail
  refine (put_full w.heap.size 0 _ _ _ HS1.out rfl s).mono ?_
  rintro e w1 ⟨rfl, m2, rfl⟩
  have HS2 := Lib.hid (HS1.out.drewN m2)
  have HB2 := Lib.hid (below_drewN HB1.out m2)
  generalize (w0.drewN m1).drewN m2 = w2 at *
  go_wp2_with fail
  refine (twin_nil _ p).mono ?_
  rintro e w1 ⟨rfl, hw⟩
  subst hw
  go_wp2_with fail
  refine (twin_bad w.heap.size 0 _ _ _ HS2.out p HP.out).mono ?_
  rintro e w1 ⟨rfl, hw⟩
  subst hw
  go_wp2_with fail
  refine (len_nil _).mono ?_
  rintro e w1 ⟨rfl, hw⟩
  subst hw
  go_wp2_with fail
  refine (len_ok w.heap.size 0 _ _ _ HS2.out).mono ?_
  rintro e w1 ⟨rfl, hw⟩
  subst hw
  go_wp2_with fail
  refine (all_nil _).mono ?_
  rintro e w1 ⟨rfl, hw⟩
  subst hw
  go_wp2_with fail
  refine (all_ok w.heap.size 0 _ _ _ HS2.out).mono ?_
  rintro e w3 ⟨u, rfl, ht, _, hB3⟩
  obtain ⟨A, c, rfl, _, _, _⟩ := ht.form
  have HB3 := Lib.hid (HB2.out.trans (hB3.mono HB2.out.size))
  clear ht hB3
  go_wp2_with fail
  refine (awake36 _).mono ?_
  rintro e w4 ⟨rfl, hB4⟩
  have HB4 := Lib.hid (HB3.out.trans (hB4.mono HB3.out.size))
  clear hB4
  go_wp2
  go_ret
  exact ⟨rfl, HB4.out⟩

/-- A bag, a row of texts beside it, and an act: how they lie. -/
structure St (w wx : World) (bs mo : Nat) (v : Value) (lb : List ByteArray) (u : Value) (lx : List ByteArray) (ac : Nat) (kd p : Int) (s : ByteArray) : Prop where
  bag : BagIs wx bs mo v lb
  row : Tx wx 9 u lx.length (strs lx)
  apart : ∀ k, u.ownBlock = some k → k ≠ bs ∧ v.ownBlock ≠ some k
  old : ∀ k, v.ownBlock = some k → w.heap.size ≤ k
  lo : w.heap.size ≤ bs
  below : Below w.heap.size w wx
  blk : wx.heap[ac]? = some (.cells #[.int .i64 kd, .int .i64 p, .string s] 31 (0, 0))
  abs : ac ≠ bs
  aown : v.ownBlock ≠ some ac
section
variable {w wx wy : World} {bs mo : Nat} {v : Value} {lb : List ByteArray} {u : Value} {lx : List ByteArray} {ac : Nat} {kd p : Int} {s : ByteArray}
theorem St.a0 (h : St w wx bs mo v lb u lx ac kd p s) : wx.cell? ⟨ac, 0, none⟩ = some (.int .i64 kd) := by rw [cell_of_row wx ac 0 _ _ _ h.blk]; rfl
theorem St.a1 (h : St w wx bs mo v lb u lx ac kd p s) : wx.cell? ⟨ac, 1, none⟩ = some (.int .i64 p) := by rw [cell_of_row wx ac 1 _ _ _ h.blk]; rfl
theorem St.a2 (h : St w wx bs mo v lb u lx ac kd p s) : wx.cell? ⟨ac, 2, none⟩ = some (.string s) := by rw [cell_of_row wx ac 2 _ _ _ h.blk]; rfl
theorem St.refStep (h : St w wx bs mo v lb u lx ac kd p s) {u' : Value} {lx' : List ByteArray} (hb : Below wx.heap.size wx wy) (ht : Tx wy 9 u' lx'.length (strs lx')) (hn : ∀ k, u'.ownBlock = some k → wx.heap.size ≤ k) : St w wy bs mo v lb u' lx' ac kd p s :=
  ⟨h.bag.below hb, ht, fun k hk => ⟨by have := heap_lt h.bag.s; have := hn k hk; omega, fun e => by have := h.bag.t.lt k e; have := hn k hk; omega⟩, h.old, h.lo, h.below.trans (hb.mono h.below.size),
    (hb.block _ (heap_lt h.blk)).trans h.blk, h.abs, h.aown⟩
theorem St.calm (h : St w wx bs mo v lb u lx ac kd p s) (hb : Below wx.heap.size wx wy) : St w wy bs mo v lb u lx ac kd p s :=
  ⟨h.bag.below hb, (Tx.below h.row hb), h.apart, h.old, h.lo, h.below.trans (hb.mono h.below.size), (hb.block _ (heap_lt h.blk)).trans h.blk, h.abs, h.aown⟩
theorem St.drewN (h : St w wx bs mo v lb u lx ac kd p s) (n : Nat) : St w (wx.drewN n) bs mo v lb u lx ac kd p s :=
  h.calm (below_drewN (Below.refl _ _) n)
theorem St.bagStep (h : St w wx bs mo v lb u lx ac kd p s) {v' : Value} {lb' : List ByteArray} {S : List Nat} (hS : BagIs wy bs mo v' lb') (ho : OnlyIn S wx wy) (hs : ∀ k ∈ S, k = bs ∨ v.ownBlock = some k)
    (hn : ∀ k, v'.ownBlock = some k → v.ownBlock = some k ∨ wx.heap.size ≤ k) : St w wy bs mo v' lb' u lx ac kd p s := by
  have hsz := h.below.size
  refine ⟨hS, h.row.only ho (fun k hk hm => ?_), fun k hk => ⟨(h.apart k hk).1, fun e => ?_⟩, fun k hk => ?_, h.lo, h.below.trans (ho.to_below (B := w.heap.size) hsz fun k hk => ?_), (ho.block _ (heap_lt h.blk) fun hm => ?_).trans h.blk, h.abs, fun e => ?_⟩
  · rcases hs k hm with e | e
    · exact (h.apart k hk).1 e
    · exact (h.apart k hk).2 e
  · rcases hn k e with e | e
    · exact (h.apart k hk).2 e
    · have := h.row.lt k hk; omega
  · rcases hn k hk with e | e
    · exact h.old k e
    · omega
  · rcases hs k hk with e | e
    · have := h.lo; omega
    · exact h.old k e
  · rcases hs _ hm with e | e
    · exact h.abs e
    · exact h.aown e
  · rcases hn _ e with e | e
    · exact h.aown e
    · have := heap_lt h.blk; omega
end

/-- What holds at the head of each round. -/
def BRel (w : World) (bs mo : Nat) (u : Value) (wr : World) : Prop :=
  ∃ (l : List ByteArray) (v : Value), BagIs wr bs mo v l ∧ Tx wr 9 u l.length (strs l) ∧ (∀ k, u.ownBlock = some k → k ≠ bs ∧ v.ownBlock ≠ some k) ∧ (∀ k, v.ownBlock = some k → w.heap.size ≤ k) ∧ w.heap.size ≤ bs ∧ Below w.heap.size w wr
theorem BRel.st {w wr : World} {bs mo : Nat} {u : Value} (h : BRel w bs mo u wr) (kd p : Int) (s : ByteArray) : ∃ l v, l.length ≤ mo ∧ mo ≤ 64 ∧ Tx wr 9 u l.length (strs l) ∧ Below w.heap.size w wr ∧ St w (wr.alloc (.cells #[.int .i64 kd, .int .i64 p, .string s] 31)) bs mo v l u l wr.heap.size kd p s := by
  obtain ⟨l, v, hS, hX, hA, hV, hb, hB⟩ := h
  have hc := (Below.refl wr.heap.size wr).alloc (Nat.le_refl _) (.cells #[.int .i64 kd, .int .i64 p, .string s] 31)
  exact ⟨l, v, hS.le, hS.small, hX, hB, hS.below hc, (Tx.below hX hc), hA, hV, hb, hB.trans (hc.mono hB.size), heap_alloc_new wr _, by have := heap_lt hS.s; omega, fun e => by have := hS.t.lt _ e; omega⟩
theorem St.rel {w wx : World} {bs mo : Nat} {v : Value} {l : List ByteArray} {u : Value} {ac : Nat} {kd p : Int} {s : ByteArray} (h : St w wx bs mo v l u l ac kd p s) : BRel w bs mo u wx :=
  ⟨l, v, h.bag, h.row, h.apart, h.old, h.lo, h.below⟩

set_option maxRecDepth 100000 in
set_option maxHeartbeats 8000000 in
theorem bagPlaysWalk (most : Int) (A0 : Option Addr) (c0 : Nat) (acts : List (Int × Int × ByteArray)) (n : Nat) (hn : acts.length = n) (hn3 : n ≤ 9223372036854775807) (w : World) (ha : Sl w w.heap.size A0 (acts3 acts)) :
    Calls Try.prog 3 #[.int .i64 most, .slice A0 n c0] w fun e w' => e = .returned (.bool true) ∧ Below w.heap.size w w' := by
  have HN := Lib.hid hn
  have HA := Lib.hid ha
  have HF := Lib.hid (fewWalk A0 c0 acts n hn hn3 w ha)
  clear ha hn
  go_enter Try.func3, Try.ntmps3
  go_wp2_with fail
  refine HF.out.mono ?_
  rintro e w1 ⟨⟨b, rfl, hb⟩, hw⟩
  subst hw
  cases b with
  | false =>
    clear hb
    go_wp2_with fail
    refine (awake36 _).mono ?_
    rintro e w1 ⟨rfl, hB⟩
    go_wp2
    go_ret
    exact ⟨rfl, hB⟩
  | true =>
    have hn2 := hb rfl
    clear hb
    by_cases hm : most < 0 ∨ 64 < most
    · have HM := Lib.hid (new_bad w most hm)
      rcases hm with hm | hm
      · go_wp2_with fail
        refine HM.out.mono ?_
        rintro e w1 ⟨rfl, hw⟩
        subst hw
        go_wp2_with fail
        refine (awake36 _).mono ?_
        rintro e w1 ⟨rfl, hB⟩
        go_wp2
        go_ret
        exact ⟨rfl, hB⟩
      · have hm' : ¬ most < 0 := by omega
        go_wp2_with fail
        refine HM.out.mono ?_
        rintro e w1 ⟨rfl, hw⟩
        subst hw
        go_wp2_with fail
        refine (awake36 _).mono ?_
        rintro e w1 ⟨rfl, hB⟩
        go_wp2
        go_ret
        exact ⟨rfl, hB⟩
    · obtain ⟨mo, rfl⟩ : ∃ mo : Nat, most = (mo : Int) := ⟨most.toNat, by omega⟩
      have hmo : mo ≤ 64 := by omega
      clear hm
      go_wp2_with fail
      refine (new_ok w mo hmo).mono ?_
      rintro e w1 ⟨bs, rfl, hS1, hbs, hB1⟩
      have HS1 := Lib.hid hS1
      have HB1 := Lib.hid hB1
      clear hS1 hB1
      go_wp2_with fail
      go_loopw [7, 8] (fun u i wr => ∃ k : Nat, k ≤ n ∧ i = .int .i64 k ∧ BRel w bs mo u wr) (fun _ i _ => n - (intOf i).toNat)
      case atStart => exact ⟨0, by omega, rfl, [], _, HS1.out, Tx.nil _ _, by simp [Value.ownBlock], by simp [Value.ownBlock], hbs, HB1.out⟩
      case round =>
        obtain ⟨k, hk, rfl, hR⟩ := hrel
        by_cases hlt : k < n
        · have hk' : k < acts.length := by rw [HN.out]; exact hlt
          obtain ⟨⟨kd, p, s⟩, hp⟩ : ∃ p, acts[k]? = some p := ⟨_, List.getElem?_eq_getElem hk'⟩
          have hc := acts3_at acts k _ hp
          obtain ⟨b, o, rfl, hab, hcell⟩ := HA.out.plain (by rw [acts3_length]; omega)
          obtain ⟨l, v, hle, _, hX, hB, hS⟩ := hR.st kd p s
          have ca : wr.cell? ⟨b, o + k * 3, none⟩ = some (.int .i64 kd) := by rw [hB.cell (p := ⟨b, o + k * 3, none⟩) hab]; exact hcell _ _ hc.1
          have cb : wr.cell? ⟨b, o + k * 3 + 1, none⟩ = some (.int .i64 p) := by rw [hB.cell (p := ⟨b, o + k * 3 + 1, none⟩) hab]; exact hcell _ _ hc.2.1
          have cc : wr.cell? ⟨b, o + k * 3 + 2, none⟩ = some (.string s) := by rw [hB.cell (p := ⟨b, o + k * 3 + 2, none⟩) hab]; exact hcell _ _ hc.2.2
          obtain ⟨m, hm⟩ : ∃ m, l.length = m := ⟨_, rfl⟩
          obtain ⟨A, c, rfl, _, _, _⟩ := hX.form
          rw [hm] at hS hle ⊢
          have HM := Lib.hid hm
          have HS := Lib.hid hS
          clear hp hc hcell hS hX hB hm hR
          generalize hwa : wr.alloc (.cells #[.int .i64 kd, .int .i64 p, .string s] 31) = wa at HS
          have a0 := HS.out.a0
          have a1 := HS.out.a1
          have a2 := HS.out.a2
          generalize hac : wr.heap.size = ac at *
          go_upto_block 2 with fail
          go_cut [7] from 46 to 171 (fun x wx => ∃ lx vx, lx.length ≤ mo ∧ St w wx bs mo vx lx x lx ac kd p s)
          case first =>
            by_cases hk0 : kd = 0
            · subst hk0
              by_cases hf : m < mo
              · have HR := Lib.hid (refPut_room _ l wa m HM.out (by have := HS.out.row; rwa [HM.out] at this) (mo : Int) (by omega) (by omega) s)
                go_wp2_with fail
                refine HR.out.mono ?_
                rintro e w1 ⟨u1, rfl, ht1, hn1, hB1⟩
                obtain ⟨Ax, cx, rfl, _, _, _⟩ := ht1.form
                have hl1 : (l ++ [s]).length = m + 1 := by simp; exact HM.out
                have HS1 := Lib.hid (HS.out.refStep (lx' := l ++ [s]) hB1 (by rw [hl1]; exact ht1) hn1)
                clear ht1 hn1 hB1 hl1
                have a2 := HS1.out.a2
                have HP := Lib.hid (put_room bs mo v l w1 HS1.out.bag (by rw [HM.out]; exact hf) s)
                go_wp2_with fail
                refine HP.out.mono ?_
                rintro e wx ⟨rfl, vx, hS2, hO2, hn2'⟩
                have HX := Lib.hid (HS1.out.bagStep hS2 hO2 (fun k hk => by simpa using hk) hn2')
                clear hS2 hO2 hn2'
                go_wp2_with fail
                go_meet
                exact ⟨l ++ [s], _, (by rw [List.length_append, HM.out]; simp; omega), HX.out⟩
              · have HR := Lib.hid (refPut_full _ l wa m HM.out (by have := HS.out.row; rwa [HM.out] at this) (mo : Int) (by omega) s)
                go_wp2_with fail
                refine HR.out.mono ?_
                rintro e w1 ⟨rfl, hw⟩
                subst hw
                have HP := Lib.hid (put_full bs mo v l wa HS.out.bag (by rw [HM.out]; omega) s)
                clear hf
                go_wp2_with fail
                refine HP.out.mono ?_
                rintro e w1 ⟨rfl, mm, rfl⟩
                have HX := Lib.hid (HS.out.drewN mm)
                go_wp2_with fail
                go_meet
                exact ⟨l, _, (by rw [HM.out]; exact hle), HX.out⟩
            · have hk0b : (kd == 0) = false := by rw [beq_eq_false_iff_ne]; exact hk0
              clear hk0
              by_cases hk1 : kd = 1
              · subst hk1
                by_cases hin0 : 0 ≤ p ∧ p < (m : Int)
                · obtain ⟨q0, hq0⟩ : ∃ q0 : Nat, (q0 : Int) = p := ⟨p.toNat, by omega⟩
                  have hqm : q0 < m := by omega
                  obtain ⟨sq, hsq⟩ : ∃ sq, l[q0]? = some sq := ⟨_, List.getElem?_eq_getElem (by rw [HM.out]; exact hqm)⟩
                  have HQ := Lib.hid hq0
                  clear hq0
                  have HP := Lib.hid (take_ok bs mo v l wa HS.out.bag q0 sq hsq)
                  rw [HQ.out] at HP
                  clear hin0
                  go_wp2_with fail
                  refine HP.out.mono ?_
                  rintro e w1 ⟨rfl, vx, hS1, hO1, hn1⟩
                  have HS1 := Lib.hid (HS.out.bagStep hS1 hO1 (fun k hk => .inl (by simpa using hk)) hn1)
                  clear hS1 hO1 hn1
                  have a1 := HS1.out.a1
                  have HR := Lib.hid (refTake_ok _ l w1 m HM.out (by have := HS1.out.row; rwa [HM.out] at this) (by omega) q0 sq hsq)
                  rw [HQ.out] at HR
                  clear hsq
                  go_wp2_with fail
                  refine HR.out.mono ?_
                  rintro e wx ⟨u1, rfl, ht1, hn1, hB1⟩
                  obtain ⟨Ax, cx, rfl, _, _, _⟩ := ht1.form
                  have hl1 : (l.eraseIdx q0).length = m - 1 := by rw [List.length_eraseIdx, if_pos (by rw [HM.out]; exact hqm), HM.out]
                  have HX := Lib.hid (HS1.out.refStep (lx' := l.eraseIdx q0) hB1 (by rw [hl1]; exact ht1) hn1)
                  clear ht1 hn1 hB1 hl1
                  go_wp2_with fail
                  go_meet
                  exact ⟨l.eraseIdx q0, _, (by rw [List.length_eraseIdx, if_pos (by rw [HM.out]; exact hqm), HM.out]; omega), HX.out⟩
                · have hp : p < 0 ∨ (m : Int) ≤ p := by omega
                  have HP := Lib.hid (take_bad bs mo v l wa HS.out.bag p (by rw [HM.out]; exact hp))
                  have HR := Lib.hid (refTake_bad _ l wa m HM.out (by have := HS.out.row; rwa [HM.out] at this) p hp)
                  clear hin0 hp
                  go_wp2_with fail
                  refine HP.out.mono ?_
                  rintro e w1 ⟨rfl, hw⟩
                  subst hw
                  go_wp2_with fail
                  refine HR.out.mono ?_
                  rintro e w1 ⟨rfl, hw⟩
                  subst hw
                  have HX := HS
                  go_wp2_with fail
                  go_meet
                  exact ⟨l, _, (by rw [HM.out]; exact hle), HX.out⟩
              · have hk1b : (kd == 1) = false := by rw [beq_eq_false_iff_ne]; exact hk1
                clear hk1
                by_cases hk2 : kd = 2
                · subst hk2
                  by_cases hin0 : 0 ≤ p ∧ p < (m : Int)
                  · obtain ⟨q0, hq0⟩ : ∃ q0 : Nat, (q0 : Int) = p := ⟨p.toNat, by omega⟩
                    have hqm : q0 < m := by omega
                    obtain ⟨sq, hsq⟩ : ∃ sq, l[q0]? = some sq := ⟨_, List.getElem?_eq_getElem (by rw [HM.out]; exact hqm)⟩
                    have HQ := Lib.hid hq0
                    clear hq0
                    clear hin0
                    by_cases hf : m < mo
                    · have HR := Lib.hid (refTwin_room _ l wa m HM.out (by have := HS.out.row; rwa [HM.out] at this) (mo : Int) (by omega) (by omega) q0 sq hsq)
                      rw [HQ.out] at HR
                      go_wp2_with fail
                      refine HR.out.mono ?_
                      rintro e w1 ⟨u1, rfl, ht1, hn1, hB1⟩
                      obtain ⟨Ax, cx, rfl, _, _, _⟩ := ht1.form
                      have hl1 : (l ++ [sq]).length = m + 1 := by simp; exact HM.out
                      have HS1 := Lib.hid (HS.out.refStep (lx' := l ++ [sq]) hB1 (by rw [hl1]; exact ht1) hn1)
                      clear ht1 hn1 hB1 hl1
                      have a1 := HS1.out.a1
                      have HP := Lib.hid (twin_room bs mo v l w1 HS1.out.bag (by rw [HM.out]; exact hf) q0 sq hsq)
                      rw [HQ.out] at HP
                      clear hsq
                      go_wp2_with fail
                      refine HP.out.mono ?_
                      rintro e wx ⟨rfl, vx, hS2, hO2, hn2'⟩
                      have HX := Lib.hid (HS1.out.bagStep hS2 hO2 (fun k hk => by simpa using hk) hn2')
                      clear hS2 hO2 hn2'
                      go_wp2_with fail
                      go_meet
                      exact ⟨l ++ [sq], _, (by rw [List.length_append, HM.out]; simp; omega), HX.out⟩
                    · have HR := Lib.hid (refTwin_full _ l wa m HM.out (by have := HS.out.row; rwa [HM.out] at this) (mo : Int) (by omega) q0 sq hsq)
                      rw [HQ.out] at HR
                      go_wp2_with fail
                      refine HR.out.mono ?_
                      rintro e w1 ⟨rfl, hw⟩
                      subst hw
                      have HP := Lib.hid (twin_full bs mo v l wa HS.out.bag (by rw [HM.out]; omega) q0 sq hsq)
                      rw [HQ.out] at HP
                      clear hf hsq
                      go_wp2_with fail
                      refine HP.out.mono ?_
                      rintro e w1 ⟨rfl, mm, rfl⟩
                      have HX := Lib.hid (HS.out.drewN mm)
                      go_wp2_with fail
                      go_meet
                      exact ⟨l, _, (by rw [HM.out]; exact hle), HX.out⟩
                  · have hp : p < 0 ∨ (m : Int) ≤ p := by omega
                    have HP := Lib.hid (twin_bad bs mo v l wa HS.out.bag p (by rw [HM.out]; exact hp))
                    have HR := Lib.hid (refTwin_bad _ l wa m (by have := HS.out.row; rwa [HM.out] at this) (mo : Int) p hp)
                    clear hin0 hp
                    go_wp2_with fail
                    refine HR.out.mono ?_
                    rintro e w1 ⟨rfl, hw⟩
                    subst hw
                    go_wp2_with fail
                    refine HP.out.mono ?_
                    rintro e w1 ⟨rfl, hw⟩
                    subst hw
                    have HX := HS
                    go_wp2_with fail
                    go_meet
                    exact ⟨l, _, (by rw [HM.out]; exact hle), HX.out⟩
                · have hk2b : (kd == 2) = false := by rw [beq_eq_false_iff_ne]; exact hk2
                  clear hk2
                  have HX := HS
                  go_wp2_with fail
                  go_meet
                  exact ⟨l, _, (by rw [HM.out]; exact hle), HX.out⟩
          case rest =>
            obtain ⟨lx, vx, hle, hX⟩ := hcut
            obtain ⟨Ax, cx, rfl, _, _, _⟩ := hX.row.form
            obtain ⟨mx, hmx⟩ : ∃ mx, lx.length = mx := ⟨_, rfl⟩
            rw [hmx] at hX hle ⊢
            have HMx := Lib.hid hmx
            have HX := Lib.hid hX
            have hmx64 : mx ≤ 1000 := by omega
            clear hX hmx a0 a1 a2 HS HM
            generalize wc = wx at *
            by_cases hin : 0 ≤ p ∧ p < (mx : Int)
            · obtain ⟨hp0, hp1⟩ := hin
              obtain ⟨q, rfl⟩ : ∃ q : Nat, p = (q : Int) := ⟨p.toNat, by omega⟩
              have hq : q < mx := by omega
              obtain ⟨sq, hsq⟩ : ∃ sq, lx[q]? = some sq := ⟨_, List.getElem?_eq_getElem (by rw [HMx.out]; omega)⟩
              have HAt := Lib.hid (at_ok bs mo vx lx wx HX.out.bag q sq hsq)
              have a1 := HX.out.a1
              go_wp2_with fail
              refine HAt.out.mono ?_
              rintro e w1 ⟨rfl, hw⟩
              subst hw
              go_wp2_with fail
              refine (all_ok bs mo vx lx wx HX.out.bag).mono ?_
              rintro e w1 ⟨ua, rfl, hta, _, hBa⟩
              obtain ⟨A1, c1, rfl, hsl1, _, _⟩ := hta.form
              have HX1 := Lib.hid (HX.out.calm hBa)
              obtain ⟨A2, c2, ha2, hsl2, _, _⟩ := HX1.out.row.form
              injection ha2 with ha2 hnn hc2
              clear hnn
              subst ha2 hc2
              obtain ⟨aq, rfl, _, hcq⟩ := hsl2 q _ (strs_at hsq)
              have HSm := Lib.hid (sameStrs A1 (some aq) c1 cx _ lx lx.length rfl (by rw [HMx.out]; omega) w1 hsl1 hsl2)
              rw [HMx.out] at HSm
              clear hta hBa hsl1 hsl2 hsq
              rw [HMx.out]
              go_wp2_with fail
              refine HSm.out.mono ?_
              rintro e w2 ⟨rfl, m2, rfl⟩
              have HX2 := Lib.hid (HX1.out.drewN m2)
              have hcq2 : (w1.drewN m2).cell? (aq.add q) = some (.string sq) := hcq
              have a1 := HX2.out.a1
              have HLn := Lib.hid (len_ok bs mo vx lx (w1.drewN m2) HX2.out.bag)
              rw [HMx.out] at HLn
              generalize w1.drewN m2 = w2 at *
              clear hcq
              go_wp2_with fail
              refine HLn.out.mono ?_
              rintro e w3 ⟨rfl, hw⟩
              subst hw
              go_wp2_with fail
              exact ⟨⟨k + 1, by omega, by go_num, HX2.out.rel⟩, by simp [intOf]; omega⟩
            · rcases Int.lt_or_le p 0 with hp0 | hp0
              · clear hin
                have HAt := Lib.hid (at_bad bs mo vx lx wx HX.out.bag p (by rw [HMx.out]; omega))
                have a1 := HX.out.a1
                go_wp2_with fail
                refine HAt.out.mono ?_
                rintro e w1 ⟨rfl, hw⟩
                subst hw
                go_wp2_with fail
                refine (all_ok bs mo vx lx wx HX.out.bag).mono ?_
                rintro e w1 ⟨ua, rfl, hta, _, hBa⟩
                obtain ⟨A1, c1, rfl, hsl1, _, _⟩ := hta.form
                have HX1 := Lib.hid (HX.out.calm hBa)
                obtain ⟨A2, c2, ha2, hsl2, _, _⟩ := HX1.out.row.form
                injection ha2 with ha2 hnn hc2
                clear hnn
                subst ha2 hc2
                have HSm := Lib.hid (sameStrs A1 Ax c1 cx _ lx lx.length rfl (by rw [HMx.out]; omega) w1 hsl1 hsl2)
                rw [HMx.out] at HSm
                clear hta hBa hsl1 hsl2
                rw [HMx.out]
                go_wp2_with fail
                refine HSm.out.mono ?_
                rintro e w2 ⟨rfl, m2, rfl⟩
                have HX2 := Lib.hid (HX1.out.drewN m2)
                have a1 := HX2.out.a1
                have HLn := Lib.hid (len_ok bs mo vx lx (w1.drewN m2) HX2.out.bag)
                rw [HMx.out] at HLn
                generalize w1.drewN m2 = w2 at *
                go_wp2_with fail
                refine HLn.out.mono ?_
                rintro e w3 ⟨rfl, hw⟩
                subst hw
                go_wp2_with fail
                exact ⟨⟨k + 1, by omega, by go_num, HX2.out.rel⟩, by simp [intOf]; omega⟩
              · have hp1 : (mx : Int) ≤ p := by omega
                have hp2 : ¬ p < (mx : Int) := by omega
                clear hin
                have HAt := Lib.hid (at_bad bs mo vx lx wx HX.out.bag p (by rw [HMx.out]; omega))
                have a1 := HX.out.a1
                go_wp2_with fail
                refine HAt.out.mono ?_
                rintro e w1 ⟨rfl, hw⟩
                subst hw
                go_wp2_with fail
                refine (all_ok bs mo vx lx wx HX.out.bag).mono ?_
                rintro e w1 ⟨ua, rfl, hta, _, hBa⟩
                obtain ⟨A1, c1, rfl, hsl1, _, _⟩ := hta.form
                have HX1 := Lib.hid (HX.out.calm hBa)
                obtain ⟨A2, c2, ha2, hsl2, _, _⟩ := HX1.out.row.form
                injection ha2 with ha2 hnn hc2
                clear hnn
                subst ha2 hc2
                have HSm := Lib.hid (sameStrs A1 Ax c1 cx _ lx lx.length rfl (by rw [HMx.out]; omega) w1 hsl1 hsl2)
                rw [HMx.out] at HSm
                clear hta hBa hsl1 hsl2
                rw [HMx.out]
                go_wp2_with fail
                refine HSm.out.mono ?_
                rintro e w2 ⟨rfl, m2, rfl⟩
                have HX2 := Lib.hid (HX1.out.drewN m2)
                have a1 := HX2.out.a1
                have HLn := Lib.hid (len_ok bs mo vx lx (w1.drewN m2) HX2.out.bag)
                rw [HMx.out] at HLn
                generalize w1.drewN m2 = w2 at *
                go_wp2_with fail
                refine HLn.out.mono ?_
                rintro e w3 ⟨rfl, hw⟩
                subst hw
                go_wp2_with fail
                exact ⟨⟨k + 1, by omega, by go_num, HX2.out.rel⟩, by simp [intOf]; omega⟩
        · have : k = n := by omega
          subst this
          obtain ⟨l, v, hS, hX, hA, hV, hb, hB⟩ := hR
          have HB := Lib.hid hB
          clear hS hX hA hV hb hB
          go_wp2_with fail
          refine (awake36 _).mono ?_
          rintro e w4 ⟨rfl, hB4⟩
          have HB4 := Lib.hid (HB.out.trans (hB4.mono HB.out.size))
          clear hB4
          go_wp2
          go_ret
          exact ⟨rfl, HB4.out⟩
end Go.Proofs.Ytlhlnaengedfgaa
