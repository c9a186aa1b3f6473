/- Contracts of the references: Has, Keep, Note, Same. Condition: at most 1000 numbers. -/
import Derived.Test.YtmnjgodelnjbkaaSeenC
namespace Go.Proofs.Ytmnjgodelnjbkaa
open Go.RowKit Go.Lk Go.Proofs.SeenLaw

set_option maxHeartbeats 400000 in
theorem sameInts (A B : Option Addr) (c d G : Nat) (xs : List Int) (n : Nat) (hn : xs.length = n) (hn2 : n ≤ 1000000) (w : World) (ha : Sl w G A (ints xs)) (hb : Sl w G B (ints xs)) :
    Calls Try.prog 11 #[.slice A n c, .slice B n d] w fun e w' => e = .returned (.bool true) ∧ ∃ m, w' = w.drewN m := by
  have HN := Lib.hid hn
  have HA := Lib.hid ha
  have HB := Lib.hid hb
  clear ha hb hn
  go_enter Try.func11, Try.ntmps11
  go_wp2
  go_loopw [5] (fun i wr => ∃ k m : Nat, k ≤ n ∧ i = .int .i64 k ∧ wr = w.drewN m) (fun i _ => n - (intOf i).toNat)
  case atStart => exact ⟨0, 0, by omega, rfl, rfl⟩
  case round =>
    obtain ⟨k, m, hk, rfl, rfl⟩ := hrel
    by_cases hlt : k < n
    · obtain ⟨a, rfl, _, h1⟩ := HA.out.at_ (k := k) (by unfold ints; rw [List.length_map, HN.out]; exact hlt)
      obtain ⟨b, rfl, _, h2⟩ := HB.out.at_ (k := k) (by unfold ints; rw [List.length_map, HN.out]; exact hlt)
      obtain ⟨x, hx⟩ : ∃ x : Int, (ints xs)[k]'(by unfold ints; rw [List.length_map, HN.out]; exact hlt) = .int .i64 x := by unfold ints; rw [List.getElem_map]; exact ⟨_, rfl⟩
      rw [hx] at h1 h2
      clear hx
      go_wp2_with fail
      go_quiet (fail)
      go_wp2
      exact ⟨⟨k + 1, _, by omega, by go_num, rfl⟩, by simp [intOf]; omega⟩
    · have : k = n := by omega
      subst this
      go_wp2
      go_ret
      exact ⟨rfl, _, rfl⟩

set_option maxHeartbeats 400000 in
theorem refHas (A : Option Addr) (c G : Nat) (xs : List Int) (id : Int) (n : Nat) (hn : xs.length = n) (hn2 : n ≤ 1000000) (w : World) (ha : Sl w G A (ints xs)) :
    Calls Try.prog 15 #[.slice A n c, .int .i64 id] w fun e w' => e = .returned (.bool (decide (id ∈ xs))) ∧ w = w' := by
  have HN := Lib.hid hn
  have HA := Lib.hid ha
  obtain ⟨r, hr⟩ : ∃ r, r = decide (id ∈ xs) := ⟨_, rfl⟩
  rw [← hr]
  have HR := Lib.hid hr
  clear ha hn hr
  go_enter Try.func15, Try.ntmps15
  go_wp2
  go_loop [5] (fun i => ∃ k : Nat, k ≤ n ∧ i = .int .i64 k ∧ Hid (∀ j, j < k → xs[j]? ≠ some id)) (fun i => n - (intOf i).toNat)
  case atStart => exact ⟨0, by omega, rfl, fun j hj => by omega⟩
  case round =>
    obtain ⟨k, hk, rfl, HJ⟩ := hrel
    by_cases hlt : k < n
    · have hk' : k < xs.length := by rw [HN.out]; exact hlt
      obtain ⟨a, rfl, _, h1⟩ := HA.out.at_ (k := k) (by unfold ints; rw [List.length_map]; exact hk')
      obtain ⟨x, hx⟩ : ∃ x : Int, xs[k] = x := ⟨_, rfl⟩
      have hv : (ints xs)[k]'(by unfold ints; rw [List.length_map]; exact hk') = .int .i64 x := by unfold ints; rw [List.getElem_map, hx]
      rw [hv] at h1
      have HX := Lib.hid hx
      clear hv hx
      by_cases he : x = id
      · have hb : (x == id) = true := by rw [beq_iff_eq]; exact he
        have HE := Lib.hid he
        clear he
        go_wp2
        go_ret
        refine ⟨?_, rfl⟩
        have : r = true := by rw [HR.out]; exact decide_eq_true (by rw [← HE.out, ← HX.out]; exact List.getElem_mem hk')
        rw [this]
        rfl
      · have hb : (x == id) = false := by rw [beq_eq_false_iff_ne]; exact he
        have HE := Lib.hid he
        clear he
        go_wp2
        go_round
        case rel =>
          refine ⟨k + 1, by omega, by go_num, fun j hj => ?_⟩
          rcases Nat.lt_or_ge j k with h | h
          · exact HJ.out j h
          · have : j = k := by omega
            subst this
            rw [List.getElem?_eq_getElem hk', HX.out]
            intro e
            injection e with e
            exact HE.out e
        case measure => simp [intOf]; omega
    · have : k = n := by omega
      subst this
      go_wp2
      go_ret
      refine ⟨?_, rfl⟩
      have : r = false := by
        rw [HR.out]
        refine decide_eq_false fun hm => ?_
        obtain ⟨j, hj⟩ := List.mem_iff_getElem?.1 hm
        exact HJ.out j (by have := (List.getElem?_eq_some_iff.1 hj).1; rw [HN.out] at this; exact this) hj
      rw [this]
      rfl

set_option maxHeartbeats 400000 in
theorem refKeep (n most : Int) (h0 : 0 ≤ n) (h1 : n ≤ most) (w : World) :
    Calls Try.prog 17 #[.int .i64 n, .int .i64 most] w fun e w' => e = .returned (.int .i64 n) ∧ w = w' := by
  have h2 : 0 ≤ most := by omega
  go_enter Try.func17, Try.ntmps17
  go_wp2
  go_ret
  exact ⟨rfl, rfl⟩

/-- What the reference hands back: a slice that reads as a list. -/
def NoteRet (A0 : Option Addr) (w : World) (l : List Int) (b : Bool) (e : Ending) (w' : World) : Prop :=
  ∃ A c, e = .returned (.tuple #[.slice A l.length c, .bool b]) ∧ Sl w' w'.heap.size A (ints l) ∧ (A = none → l.length = 0) ∧ Below w.heap.size w w' ∧ ∀ a, A = some a → some a = A0 ∨ w.heap.size ≤ a.block

set_option maxHeartbeats 1000000 in
theorem refNote (A : Option Addr) (c most : Nat) (l : List Int) (id : Int) (n : Nat) (hn : l.length = n) (hm : most ≤ 256) (hle : n ≤ most) (w : World) (ha : Sl w w.heap.size A (ints l)) (hA : A = none → n = 0) :
    Calls Try.prog 9 #[.slice A n c, .int .i64 (most : Int), .int .i64 id] w (NoteRet A w (note most l id) (!decide (id ∈ l))) := by
  have hh := refHas A c w.heap.size l id n hn (by omega) w ha
  by_cases hid : id ∈ l
  · rw [note_old _ _ _ hid, decide_eq_true hid]
    rw [decide_eq_true hid] at hh
    have HH := Lib.hid hh
    have HN := Lib.hid hn
    have HA := Lib.hid ha
    have HA2 := Lib.hid hA
    clear hh hn ha hA
    go_enter Try.func9, Try.ntmps9
    go_wp2_with fail
    refine HH.out.mono ?_
    rintro e w' ⟨rfl, rfl⟩
    go_wp2
    go_ret2
    exact ⟨A, c, by rw [HN.out]; rfl, HA.out, fun e => by rw [HN.out]; exact HA2.out e, Below.refl _ _, fun a e => Or.inl e.symm⟩
  · rw [decide_eq_false hid] at hh ⊢
    obtain ⟨i0, hi0, hz0, hz1, hz2⟩ := info_parts Try.info3
    have HH := Lib.hid hh
    have HN := Lib.hid hn
    have HA := Lib.hid ha
    have HA2 := Lib.hid hA
    have HID := Lib.hid hid
    clear hh hn ha hA hid
    go_enter Try.func9, Try.ntmps9
    go_wp2_with fail
    refine HH.out.mono ?_
    rintro e w' ⟨rfl, rfl⟩
    go_wp2_with (at_builtin; refine appendAll _ rfl _ _ 22 rfl w.heap.size 3 i0 (.int .i64 0) 8 Try.underlying22 hi0 hz0 hz1 hz2 rfl (.slice none 0 0) 0 [] rfl (World.ownsRow_nil _ _ _ _) w.heap.size A n c (ints l) rfl ?c1 HA.out ?c2 (by omega) (by omega) ?c3 HA2.out ?_)
    case c1 => unfold ints; rw [List.length_map]; exact HN.out
    case c2 => intro u hu; unfold ints at hu; obtain ⟨z, _, rfl⟩ := List.mem_map.1 hu; rfl
    case c3 => exact Nat.le_refl _
    intro v1 w1 hown1 hg1 hat1
    have HG1 := Lib.hid ((Below.refl w.heap.size w).grown hg1 (Nat.le_refl _) (by simp [Value.ownBlock]))
    have hs1 : w.heap.size ≤ w1.heap.size := HG1.out.size
    have HO1 := Lib.hid hown1
    clear hown1 hg1 hat1
    go_wp2_with (at_builtin; refine append1 _ rfl _ _ 22 rfl w.heap.size 3 i0 (.int .i64 0) 8 Try.underlying22 hi0 hz0 hz1 hz2 rfl v1 n _ rfl (HO1.out.alloc _) _ 1 (.int .i64 id) rfl ?d1 rfl (by omega) (by omega) ?d2 ?_)
    case d1 => simp
    case d2 => simp; omega
    intro v2 w2 hown2 hg2 hat2
    have HG2 := Lib.hid ((HG1.out.alloc hs1 (.cells #[Value.int .i64 id] 3)).grown hg2 (by simp; omega) (fun j hj => (HO1.out.lt j hj).1))
    obtain ⟨g, cap, hv2, hg3, hcap⟩ : ∃ g cap, v2 = .slice (some ⟨g, 0, none⟩) (n + 1) cap ∧ g < w2.heap.size ∧ n + 1 ≤ cap := by
      rcases hown2.2 with ⟨_, h⟩ | ⟨g, cap, cur, h1, _, h2, h3, _⟩
      · omega
      · exact ⟨g, cap, h1, heap_lt h2, h3⟩
    subst hv2
    have hgb : w.heap.size ≤ g := (hown2.lt g rfl).1
    have hc2 : ∀ k x, (l ++ [id])[k]? = some x → w2.cell? ⟨g, k, none⟩ = some (.int .i64 x) := by
      intro k x hk
      have h1 : (ints (l ++ [id]))[k]? = some (.int .i64 x) := by unfold ints; rw [List.getElem?_map, hk]; rfl
      have h2 := hown2.cells (g := g) rfl k (.int .i64 x) (by rw [← h1]; simp [ints])
      have h3 : (⟨g, 0, none⟩ : Addr).add k = ⟨g, k, none⟩ := by unfold Addr.add; split <;> simp_all
      rw [h3] at h2
      exact h2
    have HC2 := Lib.hid hc2
    clear hown2 hg2 hat2 hc2
    go_wp2_with fail
    refine (refKeep (most : Int) 1048576 (by omega) (by omega) _).mono ?_
    rintro e w' ⟨rfl, rfl⟩
    by_cases hlt : n < most
    · have hnt := note_room most l id HID.out (by rw [HN.out]; exact hlt)
      have hln : (l ++ [id]).length = n + 1 := by rw [List.length_append, HN.out]; rfl
      have HT := Lib.hid hnt
      have HLN := Lib.hid hln
      clear hnt hln
      go_wp2
      go_ret2
      rw [HT.out]
      refine ⟨some ⟨g, 0, none⟩, cap, by rw [HLN.out]; rfl, ?_, by simp, HG2.out, fun a e => Or.inr (by injection e with e; subst e; exact hgb)⟩
      intro k u hu
      obtain ⟨x, hx, rfl⟩ : ∃ x, (l ++ [id])[k]? = some x ∧ u = .int .i64 x := by
        unfold ints at hu
        rw [List.getElem?_map] at hu
        cases h : (l ++ [id])[k]? with
        | none => rw [h] at hu; simp at hu
        | some x => rw [h] at hu; simp at hu; exact ⟨x, rfl, hu.symm⟩
      refine ⟨⟨g, 0, none⟩, rfl, hg3, ?_⟩
      have h3 : (⟨g, 0, none⟩ : Addr).add k = ⟨g, k, none⟩ := by unfold Addr.add; split <;> simp_all
      rw [h3]
      exact HC2.out k x hx
    · have hnm : n = most := by omega
      have hnt : note most l id = (l ++ [id]).drop 1 := by
        unfold note; rw [if_neg HID.out, HN.out, hnm, show most + 1 - most = 1 from by omega]
      have hln : ((l ++ [id]).drop 1).length = n := by rw [List.length_drop, List.length_append, HN.out]; simp
      have HT := Lib.hid hnt
      have HLN := Lib.hid hln
      have HNM := Lib.hid hnm
      clear hnt hln hnm
      by_cases hc1 : cap = 1
      · subst hc1
        go_wp2
        go_ret2
        have hn0 : n = 0 := by omega
        have hl0 : (l ++ [id]).drop 1 = [] := List.eq_nil_of_length_eq_zero (by rw [HLN.out, hn0])
        rw [HT.out, hl0]
        exact ⟨some ⟨g, 0, none⟩, 0, rfl, Sl.nil _ _ _, by simp, HG2.out, fun a e => Or.inr (by injection e with e; subst e; exact hgb)⟩
      · go_wp2
        go_ret2
        rw [HT.out]
        refine ⟨some ⟨g, 1, none⟩, cap - 1, by rw [HLN.out]; rfl, ?_, by simp, HG2.out, fun a e => Or.inr (by injection e with e; subst e; exact hgb)⟩
        intro k u hu
        obtain ⟨x, hx, rfl⟩ : ∃ x, (l ++ [id])[1 + k]? = some x ∧ u = .int .i64 x := by
          unfold ints at hu
          rw [List.getElem?_map, List.getElem?_drop] at hu
          cases h : (l ++ [id])[1 + k]? with
          | none => rw [h] at hu; simp at hu
          | some x => rw [h] at hu; simp at hu; exact ⟨x, rfl, hu.symm⟩
        refine ⟨⟨g, 1, none⟩, rfl, hg3, ?_⟩
        have h3 : (⟨g, 1, none⟩ : Addr).add k = ⟨g, 1 + k, none⟩ := by unfold Addr.add; split <;> simp_all
        rw [h3]
        exact HC2.out (1 + k) x hx
end Go.Proofs.Ytmnjgodelnjbkaa
