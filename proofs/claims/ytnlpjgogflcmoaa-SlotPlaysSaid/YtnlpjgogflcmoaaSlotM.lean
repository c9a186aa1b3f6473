/- Contracts of the document's Place, Free and All. Condition: a row of at most 16 places, that lies at the head of a block. -/
import Derived.Test.YtnlpjgogflcmoaaSlotK
namespace Go.Proofs.Ytnlpjgogflcmoaa
open Go.RowKit Go.Lk

/-- A place's cells. -/
def scell : Option It → List Value
  | none => .bool false :: It.zero.arr.toList
  | some x => .bool true :: x.arr.toList
def sc (qs : List (Option It)) : List Value := (qs.map scell).flatten
theorem scell_length (o : Option It) : (scell o).length = 8 := by cases o <;> rfl
theorem sc_get (qs : List (Option It)) (k i : Nat) (hi : i < 8) : (sc qs)[k * 8 + i]? = (qs[k]?).bind fun o => (scell o)[i]? := by
  unfold sc
  rw [flat_get (K := 8) _ (by intro r hr; rw [List.mem_map] at hr; obtain ⟨y, _, rfl⟩ := hr; exact scell_length y) k i hi, List.getElem?_map]
  cases qs[k]? <;> rfl
theorem sc_length (qs : List (Option It)) : (sc qs).length = qs.length * 8 := by
  unfold sc
  rw [flat_length (K := 8) _ (by intro r hr; rw [List.mem_map] at hr; obtain ⟨y, _, rfl⟩ := hr; exact scell_length y), List.length_map]
/-- The document's row of places. -/
structure Rw (w : World) (g n : Nat) (qs : List (Option It)) : Prop where
  lt : g < w.heap.size
  len : qs.length = n
  small : n ≤ 16
  cell : ∀ j u, (sc qs)[j]? = some u → w.cell? ⟨g, j, none⟩ = some u
section
variable {w w' : World} {g n : Nat} {qs : List (Option It)}
theorem Rw.below (h : Rw w g n qs) (hb : Below w.heap.size w w') : Rw w' g n qs := ⟨Nat.lt_of_lt_of_le h.lt hb.size, h.len, h.small, fun j u hu => (hb.cell (p := ⟨g, j, none⟩) h.lt).trans (h.cell j u hu)⟩
theorem Rw.only {S : List Nat} (h : Rw w g n qs) (ho : OnlyIn S w w') (hs : g ∉ S) : Rw w' g n qs := ⟨Nat.lt_of_lt_of_le h.lt ho.size, h.len, h.small, fun j u hu => (ho.cell (p := ⟨g, j, none⟩) h.lt hs).trans (h.cell j u hu)⟩
theorem Rw.al (h : Rw w g n qs) (o : Obj) : Rw (w.alloc o) g n qs := h.below ((Below.refl _ _).alloc (Nat.le_refl _) _)
theorem Rw.at_ (h : Rw w g n qs) {k : Nat} {o : Option It} (hk : qs[k]? = some o) {i : Nat} (hi : i < 8) {v : Value} (hv : (scell o)[i]? = some v) : w.cell? ⟨g, k * 8 + i, none⟩ = some v :=
  h.cell _ _ (by rw [sc_get qs k i hi, hk]; exact hv)
theorem Rw.none_ (h : Rw w g n qs) {k : Nat} (hk : qs[k]? = some none) : w.cell? ⟨g, k * 8, none⟩ = some (.bool false) ∧ w.cell? ⟨g, k * 8 + 1, none⟩ = some (.int .i64 0) ∧ w.cell? ⟨g, k * 8 + 2, none⟩ = some (.int .i64 0) ∧ w.cell? ⟨g, k * 8 + 3, none⟩ = some (.int .i64 0) ∧
    w.cell? ⟨g, k * 8 + 4, none⟩ = some (.int .i64 0) ∧ w.cell? ⟨g, k * 8 + 5, none⟩ = some (.int .i64 0) ∧ w.cell? ⟨g, k * 8 + 6, none⟩ = some (.int .i64 0) ∧ w.cell? ⟨g, k * 8 + 7, none⟩ = some (.int .i64 0) :=
  ⟨h.at_ (i := 0) hk (by omega) rfl, h.at_ (i := 1) hk (by omega) rfl, h.at_ (i := 2) hk (by omega) rfl, h.at_ (i := 3) hk (by omega) rfl, h.at_ (i := 4) hk (by omega) rfl, h.at_ (i := 5) hk (by omega) rfl, h.at_ (i := 6) hk (by omega) rfl, h.at_ (i := 7) hk (by omega) rfl⟩
theorem Rw.some_ (h : Rw w g n qs) {k : Nat} {x : It} (hk : qs[k]? = some (some x)) : w.cell? ⟨g, k * 8, none⟩ = some (.bool true) ∧ w.cell? ⟨g, k * 8 + 1, none⟩ = some (.int .i64 x.id) ∧ w.cell? ⟨g, k * 8 + 2, none⟩ = some (.int .i64 x.lv) ∧ w.cell? ⟨g, k * 8 + 3, none⟩ = some (.int .i64 x.fr) ∧
    w.cell? ⟨g, k * 8 + 4, none⟩ = some (.int .i64 x.dl) ∧ w.cell? ⟨g, k * 8 + 5, none⟩ = some (.int .i64 x.bu) ∧ w.cell? ⟨g, k * 8 + 6, none⟩ = some (.int .i64 x.si) ∧ w.cell? ⟨g, k * 8 + 7, none⟩ = some (.int .i64 x.sq) :=
  ⟨h.at_ (i := 0) hk (by omega) rfl, h.at_ (i := 1) hk (by omega) rfl, h.at_ (i := 2) hk (by omega) rfl, h.at_ (i := 3) hk (by omega) rfl, h.at_ (i := 4) hk (by omega) rfl, h.at_ (i := 5) hk (by omega) rfl, h.at_ (i := 6) hk (by omega) rfl, h.at_ (i := 7) hk (by omega) rfl⟩
theorem Rw.get (h : Rw w g n qs) {k : Nat} (hk : k < n) : ∃ o, qs[k]? = some o := ⟨_, List.getElem?_eq_getElem (by rw [h.len]; exact hk)⟩
end
/-- What the document's Place answers. -/
def plc : Option Nat → Int
  | some q => (q : Int)
  | none => -1

section
variable (w : World) (g n c : Nat) (qs : List (Option It))
set_option maxHeartbeats 1000000 in
theorem r_place (h : Rw w g n qs) (id : Int) :
    Calls Try.prog 20 #[.slice (some ⟨g, 0, none⟩) n c, .int .i64 id] w fun e w' => e = .returned (.int .i64 (plc (placeR qs id))) ∧ w = w' := by
  have HR := Lib.hid h
  have hsm := h.small
  clear h
  cases hp : placeR qs id with
  | none =>
    have HN := Lib.hid (place_no hp)
    clear hp
    go_enter Try.func20, Try.ntmps20
    go_wp2_with fail
    go_loopw [5] (fun i wr => ∃ k : Nat, k ≤ n ∧ i = .int .i64 k ∧ wr = w) (fun i _ => n - (intOf i).toNat)
    case atStart => exact ⟨0, by omega, rfl, rfl⟩
    case round =>
      obtain ⟨k, hk, rfl, rfl⟩ := hrel
      by_cases hlt : k < n
      · obtain ⟨o, ho⟩ := HR.out.get hlt
        cases o with
        | none =>
          obtain ⟨c0, _⟩ := HR.out.none_ ho
          clear ho
          go_wp2_with fail
          exact ⟨⟨k + 1, by omega, by go_num, trivial⟩, by simp [intOf]; omega⟩
        | some x =>
          obtain ⟨c0, c1, _⟩ := HR.out.some_ ho
          have hx := HN.out k x ho
          have hxb : (x.id == id) = false := by rw [beq_eq_false_iff_ne]; exact hx
          clear ho hx
          go_wp2_with fail
          exact ⟨⟨k + 1, by omega, by go_num, trivial⟩, by simp [intOf]; omega⟩
      · have : k = n := by omega
        subst this
        go_wp2_with fail
        go_ret
        exact ⟨rfl, rfl⟩
  | some q =>
    obtain ⟨⟨x, hx, hid⟩, hn⟩ := place_some hp
    have HN := Lib.hid hn
    have HX := Lib.hid hx
    have hidb : (x.id == id) = true := by rw [beq_iff_eq]; exact hid
    have hqn : q < n := by have := (List.getElem?_eq_some_iff.1 hx).1; have := HR.out.len; omega
    clear hp hx hn hid
    go_enter Try.func20, Try.ntmps20
    go_wp2_with fail
    go_loopw [5] (fun i wr => ∃ k : Nat, k ≤ q ∧ i = .int .i64 k ∧ wr = w) (fun i _ => n - (intOf i).toNat)
    case atStart => exact ⟨0, by omega, rfl, rfl⟩
    case round =>
      obtain ⟨k, hk, rfl, rfl⟩ := hrel
      have hlt : k < n := by omega
      by_cases hkq : k < q
      · obtain ⟨o, ho⟩ := HR.out.get hlt
        cases o with
        | none =>
          obtain ⟨c0, _⟩ := HR.out.none_ ho
          clear ho
          go_wp2_with fail
          exact ⟨⟨k + 1, by omega, by go_num, trivial⟩, by simp [intOf]; omega⟩
        | some x =>
          obtain ⟨c0, c1, _⟩ := HR.out.some_ ho
          have hx := HN.out k x hkq ho
          have hxb : (x.id == id) = false := by rw [beq_eq_false_iff_ne]; exact hx
          clear ho hx
          go_wp2_with fail
          exact ⟨⟨k + 1, by omega, by go_num, trivial⟩, by simp [intOf]; omega⟩
      · have : k = q := by omega
        subst this
        obtain ⟨c0, c1, _⟩ := HR.out.some_ HX.out
        go_wp2_with fail
        go_ret
        exact ⟨rfl, rfl⟩

theorem itq_take_succ {qs : List (Option It)} {k : Nat} {o : Option It} (h : qs[k]? = some o) : itq (qs.take (k + 1)) = itq (qs.take k) ++ o.toList := by
  have hk := (List.getElem?_eq_some_iff.1 h).1
  have hv : qs[k] = o := by have := List.getElem?_eq_getElem hk; rw [this] at h; injection h
  unfold itq
  rw [List.take_succ_eq_append_getElem hk, List.filterMap_append, hv]
  cases o <;> rfl
theorem itq_take_le (qs : List (Option It)) (k : Nat) : (itq (qs.take k)).length ≤ k := Nat.le_trans (List.length_filterMap_le _ _) (List.length_take_le _ _)

set_option maxHeartbeats 1000000 in
theorem r_free (h : Rw w g n qs) :
    Calls Try.prog 22 #[.slice (some ⟨g, 0, none⟩) n c] w fun e w' => e = .returned (.int .i64 ((n : Int) - ((itq qs).length : Int))) ∧ w = w' := by
  have HR := Lib.hid h
  have hsm := h.small
  have hend : itq (qs.take n) = itq qs := by rw [List.take_of_length_le (by rw [h.len]; omega)]
  rw [← hend]
  clear h hend
  go_enter Try.func22, Try.ntmps22
  go_wp2_with fail
  go_loopw [3, 4] (fun a i wr => ∃ k f : Nat, k ≤ n ∧ f + (itq (qs.take k)).length = k ∧ a = .int .i64 f ∧ i = .int .i64 k ∧ wr = w) (fun _ i _ => n - (intOf i).toNat)
  case atStart => exact ⟨0, 0, by omega, rfl, rfl, rfl, rfl⟩
  case round =>
    obtain ⟨k, f, hk, hf, rfl, rfl, rfl⟩ := hrel
    by_cases hlt : k < n
    · obtain ⟨o, ho⟩ := HR.out.get hlt
      have hsu := itq_take_succ ho
      cases o with
      | none =>
        obtain ⟨c0, _⟩ := HR.out.none_ ho
        have hf2 : f + 1 + (itq (qs.take (k + 1))).length = k + 1 := by rw [hsu, List.length_append]; simp; omega
        have HF2 := Lib.hid hf2
        have hfk : f ≤ k := by omega
        clear ho hsu hf hf2
        go_wp2_with fail
        exact ⟨⟨k + 1, f + 1, by omega, HF2.out, by go_num, by go_num, trivial⟩, by simp [intOf]; omega⟩
      | some x =>
        obtain ⟨c0, c1, _⟩ := HR.out.some_ ho
        have hf2 : f + (itq (qs.take (k + 1))).length = k + 1 := by rw [hsu, List.length_append]; simp; omega
        have HF2 := Lib.hid hf2
        have hfk : f ≤ k := by omega
        clear ho hsu hf hf2
        go_wp2_with fail
        exact ⟨⟨k + 1, f, by omega, HF2.out, rfl, by go_num, trivial⟩, by simp [intOf]; omega⟩
    · have : k = n := by omega
      subst this
      have hfe : (f : Int) = (k : Int) - ((itq (qs.take k)).length : Int) := by omega
      have HFE := Lib.hid hfe
      clear hf hfe
      go_wp2_with fail
      go_ret
      exact ⟨congrArg (fun z => Ending.returned (.int .i64 z)) HFE.out, rfl⟩

set_option maxHeartbeats 2000000 in
theorem r_all (h : Rw w g n qs) :
    Calls Try.prog 21 #[.slice (some ⟨g, 0, none⟩) n c] w fun e w' => ∃ u, e = .returned u ∧ w'.ownsRow w.heap.size 29 7 u (itq qs).length (itc (itq qs)) ∧ Below w.heap.size w w' := by
  obtain ⟨i0, hi0, hz0, hz1, hz2⟩ := info_parts Try.info29
  have HR := Lib.hid h
  have hsm := h.small
  have hend : itq (qs.take n) = itq qs := by rw [List.take_of_length_le (by rw [h.len]; omega)]
  rw [← hend]
  clear h hend
  go_enter Try.func21, Try.ntmps21
  go_wp2_with fail
  go_loopw [3, 4] (fun v i wr => ∃ k : Nat, k ≤ n ∧ i = .int .i64 k ∧ wr.ownsRow w.heap.size 29 7 v (itq (qs.take k)).length (itc (itq (qs.take k))) ∧ Below w.heap.size w wr) (fun _ i _ => n - (intOf i).toNat)
  case atStart => exact ⟨0, by omega, rfl, World.ownsRow_nil _ _ _ _, Below.refl _ _⟩
  case round =>
    obtain ⟨k, hk, rfl, hown, hB⟩ := hrel
    by_cases hlt : k < n
    · obtain ⟨o, ho⟩ := HR.out.get hlt
      have hsu := itq_take_succ ho
      have hle := itq_take_le qs k
      have hRr := HR.out.below hB
      have HB := Lib.hid hB
      have HO := Lib.hid hown
      have HE := Lib.hid hsu
      clear hB hown hsu
      cases o with
      | none =>
        obtain ⟨c0, _⟩ := hRr.none_ ho
        clear ho hRr
        go_wp2_with fail
        refine ⟨⟨k + 1, by omega, by go_num, ?_, HB.out⟩, by simp [intOf]; omega⟩
        rw [HE.out]
        simp only [Option.toList_none, List.append_nil]
        exact HO.out
      | some x =>
        obtain ⟨c0, c1, c2, c3, c4, c5, c6, c7⟩ := hRr.some_ ho
        clear ho hRr
        have hown3 := ((OnlyIn.refl [] wr).alloc (.cells x.arr 29)).own HO.out (by simp)
        have hsl := sl_row (n := 7) (xs := x.arr.toList) (heap_alloc_new wr (.cells x.arr 29)) rfl
        obtain ⟨v', w', hr, h2, h3, _, h5⟩ := run_append_own_at (P := Try.prog) (wr.alloc (.cells x.arr 29)) w.heap.size 36 36 29 i0 (.agg It.zero.arr) 7 56 Try.underlying36 hi0 hz0 hz1 hz2 rfl (by omega) u3 (itq (qs.take k)).length (itc (itq (qs.take k))) hown3
          ⟨wr.heap.size, 0, none⟩ 1 1 x.arr.toList rfl (fun j u hj => by obtain ⟨a, ha, _, hc⟩ := hsl j u hj; injection ha with ha; subst ha; exact hc) (by intro u hu; simp [It.arr] at hu; rcases hu with rfl | rfl | rfl | rfl | rfl | rfl | rfl <;> rfl) (by unfold maxLen; omega) (by omega) (by have := HB.out.size; simp; omega)
        have FIN : Hid (w'.ownsRow w.heap.size 29 7 v' (itq (qs.take (k + 1))).length (itc (itq (qs.take (k + 1)))) ∧ Below w.heap.size w w') := by
          refine ⟨?_, (HB.out.alloc HB.out.size (.cells x.arr 29)).grown h3 (by have := HB.out.size; simp; omega) (fun j hj => (HO.out.lt j hj).1)⟩
          rw [HE.out, Option.toList_some, itc_snoc, List.length_append]
          exact h2
        obtain ⟨A0, n0, c0', hv⟩ : ∃ A0 n0 c0, u3 = .slice A0 n0 c0 := own_slice HO.out |>.elim fun A h => h.elim fun c h => ⟨A, _, c, h⟩
        subst hv
        unfold It.arr at hr
        clear hown3 hsl h2 h3 h5
        go_wp2_with (at_builtin; refine appendBy rfl _ _ 36 rfl _ _ rfl rfl _ _ hr ?_)
        exact ⟨⟨k + 1, by omega, by go_num, FIN.out⟩, by simp [intOf]; omega⟩
    · have : k = n := by omega
      subst this
      go_wp2_with fail
      go_ret
      exact ⟨_, rfl, hown, hB⟩
end
end Go.Proofs.Ytnlpjgogflcmoaa
