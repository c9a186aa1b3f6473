/- Contracts of the places' small methods: New, places, Place, At. Condition: the places are well made (SlotIs), or nil. -/
import Derived.Test.YtnlpjgogflcmoaaRows
import Derived.Test.YtnlpjgogflcmoaaTight
import Derived.LaidEqlPtr
import Derived.WalkSpells
import Derived.Deep.CutBlock
namespace Go.Proofs.Ytnlpjgogflcmoaa
open Go.RowKit Go.Lk

/-- An item. -/
structure It where
  id : Int
  lv : Int
  fr : Int
  dl : Int
  bu : Int
  si : Int
  sq : Int
  deriving DecidableEq
def It.arr (x : It) : Array Value := #[.int .i64 x.id, .int .i64 x.lv, .int .i64 x.fr, .int .i64 x.dl, .int .i64 x.bu, .int .i64 x.si, .int .i64 x.sq]
def It.zero : It := ⟨0, 0, 0, 0, 0, 0, 0⟩
def pval : Option (Nat × It) → Value
  | none => .pointer none
  | some (b, _) => .pointer (some ⟨b, 0, none⟩)

/-- The places: their block, and who is worked at. -/
structure SlotIs (w : World) (bs many : Nat) (ps : List (Option (Nat × It))) : Prop where
  s : w.heap[bs]? = some (.cells (Value.int .i64 (many : Int) :: ps.map pval).toArray 60 (0, 0))
  len : ps.length = 16
  it : ∀ (k b : Nat) (x : It), ps[k]? = some (some (b, x)) → w.heap[b]? = some (.cells x.arr 29 (0, 0))
  small : many ≤ 16
  free : ∀ (k b : Nat) (x : It), ps[k]? = some (some (b, x)) → k < many

section
variable {w w' : World} {bs many : Nat} {ps : List (Option (Nat × It))}
theorem SlotIs.ne (h : SlotIs w bs many ps) {k b : Nat} {x : It} (hk : ps[k]? = some (some (b, x))) : b ≠ bs := fun e => by
  have h1 := h.it k b x hk
  rw [e, h.s] at h1
  injection h1 with h1
  injection h1 with _ h1 _
  cases h1
theorem SlotIs.below (h : SlotIs w bs many ps) (hb : Below w.heap.size w w') : SlotIs w' bs many ps :=
  ⟨(hb.block _ (heap_lt h.s)).trans h.s, h.len, fun k b x hk => (hb.block _ (heap_lt (h.it k b x hk))).trans (h.it k b x hk), h.small, h.free⟩
theorem SlotIs.c0 (h : SlotIs w bs many ps) : w.cell? ⟨bs, 0, none⟩ = some (.int .i64 (many : Int)) := by rw [cell_of_row w bs 0 _ _ _ h.s]; rfl
theorem SlotIs.ck (h : SlotIs w bs many ps) {k : Nat} {o : Option (Nat × It)} (hk : ps[k]? = some o) : w.cell? ⟨bs, 1 + k, none⟩ = some (pval o) := by
  rw [cell_of_row w bs _ _ _ _ h.s, Nat.add_comm]
  simp [hk]
theorem It.cell (x : It) {w : World} {b : Nat} (h : w.heap[b]? = some (.cells x.arr 29 (0, 0))) :
    w.cell? ⟨b, 0, none⟩ = some (.int .i64 x.id) ∧ w.cell? ⟨b, 1, none⟩ = some (.int .i64 x.lv) ∧ w.cell? ⟨b, 2, none⟩ = some (.int .i64 x.fr) ∧ w.cell? ⟨b, 3, none⟩ = some (.int .i64 x.dl) ∧
    w.cell? ⟨b, 4, none⟩ = some (.int .i64 x.bu) ∧ w.cell? ⟨b, 5, none⟩ = some (.int .i64 x.si) ∧ w.cell? ⟨b, 6, none⟩ = some (.int .i64 x.sq) := by
  refine ⟨?_, ?_, ?_, ?_, ?_, ?_, ?_⟩ <;> (rw [cell_of_row w b _ _ _ _ h]; rfl)
end

section
variable (bs many : Nat) (ps : List (Option (Nat × It))) (w : World)
theorem places_ok (h : SlotIs w bs many ps) :
    Calls Try.prog 23 #[.pointer (some ⟨bs, 0, none⟩)] w fun e w' => e = .returned (.int .i64 (many : Int)) ∧ w = w' := by
  have c0 := h.c0
  clear h
  go_enter Try.func23, Try.ntmps23
  go_wp2
  go_ret
  exact ⟨rfl, rfl⟩
theorem places_nil : Calls Try.prog 23 #[.pointer none] w fun e w' => e = .returned (.int .i64 0) ∧ w = w' := by
  go_enter Try.func23, Try.ntmps23
  go_wp2
  go_ret
  exact ⟨rfl, rfl⟩
theorem new_bad (m : Int) (h : m < 1 ∨ 16 < m) :
    Calls Try.prog 7 #[.int .i64 m] w fun e w' => e = .returned (.tuple #[.pointer none, .int .i64 1]) ∧ w = w' := by
  rcases h with h | h
  · go_enter Try.func7, Try.ntmps7
    go_wp2
    go_ret2
    exact ⟨rfl, rfl⟩
  · have h' : ¬ m < 1 := by omega
    go_enter Try.func7, Try.ntmps7
    go_wp2
    go_ret2
    exact ⟨rfl, rfl⟩
set_option maxHeartbeats 400000 in
theorem new_ok (m : Nat) (h1 : 1 ≤ m) (h : m ≤ 16) :
    Calls Try.prog 7 #[.int .i64 (m : Int)] w fun e w' => ∃ bs, e = .returned (.tuple #[.pointer (some ⟨bs, 0, none⟩), .int .i64 0]) ∧ SlotIs w' bs m (List.replicate 16 none) ∧ w.heap.size ≤ bs ∧ Below w.heap.size w w' := by
  go_enter Try.func7, Try.ntmps7
  go_wp2_with fail
  go_ret2
  refine ⟨w.heap.size, rfl, ⟨?_, by simp, fun k b x hk => ?_, h, fun k b x hk => ?_⟩, Nat.le_refl _, (Below.refl _ w).alloc (Nat.le_refl _) _⟩
  · exact heap_alloc_new w _
  · rw [List.getElem?_replicate] at hk; split at hk <;> simp at hk
  · rw [List.getElem?_replicate] at hk; split at hk <;> simp at hk

set_option maxHeartbeats 1000000 in
theorem place_none (h : SlotIs w bs many ps) (id : Int) (hno : ∀ (k b : Nat) (x : It), ps[k]? = some (some (b, x)) → x.id ≠ id) :
    Calls Try.prog 13 #[.pointer (some ⟨bs, 0, none⟩), .int .i64 id] w fun e w' => e = .returned (.tuple #[.int .i64 0, .bool false]) ∧ w = w' := by
  have HP := Lib.hid (places_ok bs many ps w h)
  have HS := Lib.hid h
  have HN := Lib.hid hno
  have hsm := h.small
  clear h hno
  go_enter Try.func13, Try.ntmps13
  go_wp2_with fail
  refine HP.out.mono ?_
  rintro e w1 ⟨rfl, hw⟩
  subst hw
  go_wp2_with fail
  go_loopw [10] (fun i wr => ∃ k : Nat, k ≤ many ∧ i = .int .i64 k ∧ wr = w) (fun i _ => many - (intOf i).toNat)
  case atStart => exact ⟨0, by omega, rfl, rfl⟩
  case round =>
    obtain ⟨k, hk, rfl, rfl⟩ := hrel
    by_cases hlt : k < many
    · obtain ⟨o, ho⟩ : ∃ o, ps[k]? = some o := ⟨_, List.getElem?_eq_getElem (by rw [HS.out.len]; omega)⟩
      have ck := HS.out.ck ho
      have q1 : (k : Int) < 16 := by omega
      cases o with
      | none =>
        unfold pval at ck
        clear ho
        go_wp2_with fail
        exact ⟨⟨k + 1, by omega, by go_num, trivial⟩, by simp [intOf]; omega⟩
      | some bx =>
        obtain ⟨b, x⟩ := bx
        unfold pval at ck
        have hx := HN.out k b x ho
        have hxb : (x.id == id) = false := by rw [beq_eq_false_iff_ne]; exact hx
        obtain ⟨ci, _⟩ := It.cell x (HS.out.it k b x ho)
        clear ho hx
        go_wp2_with fail
        exact ⟨⟨k + 1, by omega, by go_num, trivial⟩, by simp [intOf]; omega⟩
    · have : k = many := by omega
      subst this
      go_wp2_with fail
      go_ret2
      exact ⟨rfl, rfl⟩

set_option maxHeartbeats 1000000 in
theorem place_ok (h : SlotIs w bs many ps) (id : Int) (q b : Nat) (x : It) (hq : ps[q]? = some (some (b, x))) (hid : x.id = id) (hno : ∀ (k b : Nat) (x : It), k < q → ps[k]? = some (some (b, x)) → x.id ≠ id) :
    Calls Try.prog 13 #[.pointer (some ⟨bs, 0, none⟩), .int .i64 id] w fun e w' => e = .returned (.tuple #[.int .i64 (q : Int), .bool true]) ∧ w = w' := by
  have HP := Lib.hid (places_ok bs many ps w h)
  have HS := Lib.hid h
  have HN := Lib.hid hno
  have HQ := Lib.hid hq
  have hqm := h.free q b x hq
  have hsm := h.small
  have hidb : (x.id == id) = true := by rw [beq_iff_eq]; exact hid
  clear h hno hq hid
  go_enter Try.func13, Try.ntmps13
  go_wp2_with fail
  refine HP.out.mono ?_
  rintro e w1 ⟨rfl, hw⟩
  subst hw
  go_wp2_with fail
  go_loopw [10] (fun i wr => ∃ k : Nat, k ≤ q ∧ i = .int .i64 k ∧ wr = w) (fun i _ => many - (intOf i).toNat)
  case atStart => exact ⟨0, by omega, rfl, rfl⟩
  case round =>
    obtain ⟨k, hk, rfl, rfl⟩ := hrel
    have hlt : k < many := by omega
    have q1 : (k : Int) < 16 := by omega
    by_cases hkq : k < q
    · obtain ⟨o, ho⟩ : ∃ o, ps[k]? = some o := ⟨_, List.getElem?_eq_getElem (by rw [HS.out.len]; omega)⟩
      have ck := HS.out.ck ho
      cases o with
      | none =>
        unfold pval at ck
        clear ho
        go_wp2_with fail
        exact ⟨⟨k + 1, by omega, by go_num, trivial⟩, by simp [intOf]; omega⟩
      | some bx =>
        obtain ⟨b', y⟩ := bx
        unfold pval at ck
        have hx := HN.out k b' y hkq ho
        have hxb : (y.id == id) = false := by rw [beq_eq_false_iff_ne]; exact hx
        obtain ⟨ci, _⟩ := It.cell y (HS.out.it k b' y ho)
        clear ho hx
        go_wp2_with fail
        exact ⟨⟨k + 1, by omega, by go_num, trivial⟩, by simp [intOf]; omega⟩
    · have : k = q := by omega
      subst this
      have ck := HS.out.ck HQ.out
      unfold pval at ck
      obtain ⟨ci, _⟩ := It.cell x (HS.out.it k b x HQ.out)
      go_wp2_with fail
      go_ret2
      exact ⟨rfl, rfl⟩
theorem place_nil (id : Int) :
    Calls Try.prog 13 #[.pointer none, .int .i64 id] w fun e w' => e = .returned (.tuple #[.int .i64 0, .bool false]) ∧ w = w' := by
  have HP := Lib.hid (places_nil w)
  go_enter Try.func13, Try.ntmps13
  go_wp2_with fail
  refine HP.out.mono ?_
  rintro e w1 ⟨rfl, hw⟩
  subst hw
  go_wp2_with fail
  go_loopw [10] (fun i wr => i = .int .i64 0 ∧ wr = w) (fun _ _ => 0)
  case atStart => exact ⟨rfl, rfl⟩
  case round =>
    obtain ⟨rfl, rfl⟩ := hrel
    go_wp2_with fail
    go_ret2
    exact ⟨rfl, rfl⟩

set_option maxHeartbeats 1000000 in
theorem at_ok (h : SlotIs w bs many ps) (q b : Nat) (x : It) (hq : ps[q]? = some (some (b, x))) :
    Calls Try.prog 14 #[.pointer (some ⟨bs, 0, none⟩), .int .i64 (q : Int)] w fun e w' => e = .returned (.tuple #[.agg x.arr, .bool true]) ∧ Below w.heap.size w w' := by
  have h2 : SlotIs (w.alloc (.cells It.zero.arr 29)) bs many ps := h.below ((Below.refl w.heap.size w).alloc (Nat.le_refl _) _)
  have HP := Lib.hid (places_ok bs many ps _ h2)
  have hqm := h.free q b x hq
  have hsm := h.small
  have q1 : (q : Int) < 16 := by omega
  have hd : decide ((many : Int) ≤ (q : Int)) = false := by simp; omega
  have ck := h2.ck hq
  obtain ⟨i0, i1, i2, i3, i4, i5, i6⟩ := It.cell x (h2.it q b x hq)
  unfold pval at ck
  unfold It.arr It.zero at *
  clear h h2 hq
  go_enter Try.func14, Try.ntmps14
  go_wp2_with fail
  refine HP.out.mono ?_
  rintro e w1 ⟨rfl, hw⟩
  subst hw
  go_wp2_with fail
  exact bodyPost_ret (v := .tuple #[.agg #[.int .i64 x.id, .int .i64 x.lv, .int .i64 x.fr, .int .i64 x.dl, .int .i64 x.bu, .int .i64 x.si, .int .i64 x.sq], .bool true]) (by simp [results, Try.results14, go_sem]) rfl ⟨rfl, (Below.refl _ w).alloc (Nat.le_refl _) _⟩
set_option maxHeartbeats 1000000 in
theorem at_out (h : SlotIs w bs many ps) (p : Int) (hp : p < 0 ∨ (many : Int) ≤ p) :
    Calls Try.prog 14 #[.pointer (some ⟨bs, 0, none⟩), .int .i64 p] w fun e w' => e = .returned (.tuple #[.agg It.zero.arr, .bool false]) ∧ Below w.heap.size w w' := by
  have h2 : SlotIs (w.alloc (.cells It.zero.arr 29)) bs many ps := h.below ((Below.refl w.heap.size w).alloc (Nat.le_refl _) _)
  have HP := Lib.hid (places_ok bs many ps _ h2)
  unfold It.arr It.zero at *
  clear h h2
  rcases hp with hp | hp
  · go_enter Try.func14, Try.ntmps14
    go_wp2_with fail
    exact bodyPost_ret (v := .tuple #[.agg #[.int .i64 0, .int .i64 0, .int .i64 0, .int .i64 0, .int .i64 0, .int .i64 0, .int .i64 0], .bool false]) (by simp [results, Try.results14, go_sem]) rfl ⟨rfl, (Below.refl _ w).alloc (Nat.le_refl _) _⟩
  · have hp0 : ¬ p < 0 := by omega
    have hd : decide ((many : Int) ≤ p) = true := by simp; omega
    go_enter Try.func14, Try.ntmps14
    go_wp2_with fail
    refine HP.out.mono ?_
    rintro e w1 ⟨rfl, hw⟩
    subst hw
    go_wp2_with fail
    exact bodyPost_ret (v := .tuple #[.agg #[.int .i64 0, .int .i64 0, .int .i64 0, .int .i64 0, .int .i64 0, .int .i64 0, .int .i64 0], .bool false]) (by simp [results, Try.results14, go_sem]) rfl ⟨rfl, (Below.refl _ w).alloc (Nat.le_refl _) _⟩
set_option maxHeartbeats 1000000 in
theorem at_free (h : SlotIs w bs many ps) (q : Nat) (hqm : q < many) (hq : ps[q]? = some none) :
    Calls Try.prog 14 #[.pointer (some ⟨bs, 0, none⟩), .int .i64 (q : Int)] w fun e w' => e = .returned (.tuple #[.agg It.zero.arr, .bool false]) ∧ Below w.heap.size w w' := by
  have h2 : SlotIs (w.alloc (.cells It.zero.arr 29)) bs many ps := h.below ((Below.refl w.heap.size w).alloc (Nat.le_refl _) _)
  have HP := Lib.hid (places_ok bs many ps _ h2)
  have hsm := h.small
  have q1 : (q : Int) < 16 := by omega
  have hd : decide ((many : Int) ≤ (q : Int)) = false := by simp; omega
  have ck := h2.ck hq
  unfold pval at ck
  unfold It.arr It.zero at *
  clear h h2 hq
  go_enter Try.func14, Try.ntmps14
  go_wp2_with fail
  refine HP.out.mono ?_
  rintro e w1 ⟨rfl, hw⟩
  subst hw
  go_wp2_with fail
  exact bodyPost_ret (v := .tuple #[.agg #[.int .i64 0, .int .i64 0, .int .i64 0, .int .i64 0, .int .i64 0, .int .i64 0, .int .i64 0], .bool false]) (by simp [results, Try.results14, go_sem]) rfl ⟨rfl, (Below.refl _ w).alloc (Nat.le_refl _) _⟩
end
end Go.Proofs.Ytnlpjgogflcmoaa
