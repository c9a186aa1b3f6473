/- The contract of New. Condition: a number of services that may be. -/
import Derived.Test.YtlhlnaengedfgaaNetG
import Derived.Test.YtlhlnaengedfgaaNetT
namespace Go.Proofs.Ytlhlnaengedfgaa
open Go.RowKit Go.Lk Go.Shelf
attribute [local go_sem] Oper.semAt_some

/-- What New has made when some links have come. -/
structure NI (h m : Nat) (pre : List Lx) (W : World) (cs : Array Value) (B : Nat → Nat → Nat) : Prop where
  row : W.heap[h]? = some (.cells cs 70 (0, 0))
  size : cs.size = 82
  zero : cs[0]? = some (.int .i64 (m : Int))
  ptr : ∀ x ∈ pre, cs[1 + x.1.1 * 9 + x.1.2]? = some (.pointer (some ⟨B x.1.1 x.1.2, 0, none⟩))
  bag : ∀ x ∈ pre, BagIs W (B x.1.1 x.1.2) 64 (.slice none 0 0) []
  lo : ∀ x ∈ pre, h + 3 ≤ B x.1.1 x.1.2
  two : ∀ x ∈ pre, ∀ y ∈ pre, x.1 ≠ y.1 → B x.1.1 x.1.2 ≠ B y.1.1 y.1.2
theorem NI.same {h m : Nat} {pre : List Lx} {W W' : World} {cs : Array Value} {B : Nat → Nat → Nat} (hn : NI h m pre W cs B) (hs : ∀ (k : Nat) (cs' : Array Value) (T : TypeId), W.heap[k]? = some (.cells cs' T (0, 0)) → W'.heap[k]? = some (.cells cs' T (0, 0))) : NI h m pre W' cs B :=
  ⟨hs _ _ _ hn.row, hn.size, hn.zero, hn.ptr, fun x hx => (hn.bag x hx).same (by rw [hs _ _ _ (hn.bag x hx).s, (hn.bag x hx).s]) (by simp [Value.ownBlock]), hn.lo, hn.two⟩
theorem NI.step {h m : Nat} {pre : List Lx} {W w1 : World} {cs : Array Value} {B : Nat → Nat → Nat} (hn : NI h m pre W cs B) (hB : Below W.heap.size W w1) (bs : Nat) (hb : BagIs w1 bs 64 (.slice none 0 0) []) (hbs : W.heap.size ≤ bs) (hh : h + 3 ≤ W.heap.size) (x : Lx) :
    NI h m (pre ++ [x]) (w1.setCell ⟨h, 1 + x.1.1 * 9 + x.1.2, none⟩ (.pointer (some ⟨bs, 0, none⟩))) (cs.setIfInBounds (1 + x.1.1 * 9 + x.1.2) (.pointer (some ⟨bs, 0, none⟩))) (upd B x.1.1 x.1.2 bs) := by
  have hoth : ∀ k, k ≠ h → (w1.setCell ⟨h, 1 + x.1.1 * 9 + x.1.2, none⟩ (.pointer (some ⟨bs, 0, none⟩))).heap[k]? = w1.heap[k]? := fun k hk => Below.heap_setCell _ _ _ _ hk
  obtain ⟨hx1, hx2⟩ := x.2
  have hold : ∀ y ∈ pre, y.1 ≠ x.1 → y.1.1 ≠ x.1.1 ∨ y.1.2 ≠ x.1.2 := fun y _ hne => by
    rcases Decidable.em (y.1.1 = x.1.1) with e1 | e1
    · exact .inr fun e2 => hne (Prod.ext e1 e2)
    · exact .inl e1
  refine ⟨?_, by simpa using hn.size, ?_, fun y hy => ?_, fun y hy => ?_, fun y hy => ?_, fun y hy z hz hne => ?_⟩
  · exact heap_set1 ((hB.block h (by omega)).trans hn.row) _ _
  · rw [Array.getElem?_setIfInBounds_ne (by omega)]; exact hn.zero
  · obtain ⟨hy1, hy2⟩ := y.2
    by_cases he : y.1 = x.1
    · rw [he, upd_same, Array.getElem?_setIfInBounds_self_of_lt (by rw [hn.size]; omega)]
    · rcases List.mem_append.1 hy with hp | hp
      · rw [upd_other _ _ _ _ (hold y hp he), Array.getElem?_setIfInBounds_ne (by have := hold y hp he; omega)]
        exact hn.ptr y hp
      · simp at hp; rw [hp] at he; exact absurd rfl he
  · by_cases he : y.1 = x.1
    · rw [he, upd_same]
      exact hb.same (hoth _ (by omega)) (by simp [Value.ownBlock])
    · rcases List.mem_append.1 hy with hp | hp
      · rw [upd_other _ _ _ _ (hold y hp he)]
        have hb1 := hn.bag y hp
        have hl1 := hn.lo y hp
        exact hb1.same ((hoth _ (by omega)).trans (hB.block _ (heap_lt hb1.s))) (by simp [Value.ownBlock])
      · simp at hp; rw [hp] at he; exact absurd rfl he
  · by_cases he : y.1 = x.1
    · rw [he, upd_same]; omega
    · rcases List.mem_append.1 hy with hp | hp
      · rw [upd_other _ _ _ _ (hold y hp he)]; exact hn.lo y hp
      · simp at hp; rw [hp] at he; exact absurd rfl he
  · have hin : ∀ u ∈ pre ++ [x], u.1 ≠ x.1 → u ∈ pre := fun u hu hne => by
      rcases List.mem_append.1 hu with hp | hp
      · exact hp
      · simp at hp; rw [hp] at hne; exact absurd rfl hne
    by_cases hy' : y.1 = x.1
    · have hz' : z.1 ≠ x.1 := fun e => hne (hy'.trans e.symm)
      rw [hy', upd_same, upd_other _ _ _ _ (hold z (hin z hz hz') hz')]
      have := heap_lt (hn.bag z (hin z hz hz')).s
      omega
    · by_cases hz' : z.1 = x.1
      · rw [hz', upd_same, upd_other _ _ _ _ (hold y (hin y hy hy') hy')]
        have := heap_lt (hn.bag y (hin y hy hy')).s
        omega
      · rw [upd_other _ _ _ _ (hold y (hin y hy hy') hy'), upd_other _ _ _ _ (hold z (hin z hz hz') hz')]
        exact hn.two y (hin y hy hy') z (hin z hz hz') hne

theorem mem_allL {m i j : Nat} (h : Lk m i j) : (i, j) ∈ allL m := by
  unfold allL rowL
  rw [List.mem_flatMap]
  refine ⟨i, by rw [List.mem_range]; have := h.1; omega, ?_⟩
  rw [List.mem_filterMap]
  exact ⟨j, by rw [List.mem_range]; have := h.2.1; omega, by rw [if_neg h.2.2]⟩
theorem NI.net {h m : Nat} {ys : List Lx} {W : World} {cs : Array Value} {B : Nat → Nat → Nat} (hn : NI h m ys W cs B) (hys : ys.map Subtype.val = allL m) (h8 : m ≤ 8) : Nt (fun k => h ≤ k) W h m (fun _ _ => []) := by
  have hm : ∀ i j, Lk m i j → ∃ x ∈ ys, x.1 = (i, j) := fun i j hij => by
    have := mem_allL hij
    rw [← hys, List.mem_map] at this
    exact this
  refine ⟨B, fun _ _ => .slice none 0 0, h8, ⟨cs, 70, hn.row, hn.zero, fun i j hij => ?_⟩, Nat.le_refl _, fun i j hij => ?_, fun i j hij => ?_, fun i j hij => ?_, fun i j i' j' hij hij' hne => ?_⟩
  · obtain ⟨x, hx, he⟩ := hm i j hij
    have := hn.ptr x hx
    rw [he] at this
    exact this
  · obtain ⟨x, hx, he⟩ := hm i j hij
    have := hn.bag x hx
    rw [he] at this
    exact this
  · obtain ⟨x, hx, he⟩ := hm i j hij
    have := hn.lo x hx
    rw [he] at this
    exact ⟨by show h ≤ B i j; simp only [] at this; omega, by simp [Value.ownBlock]⟩
  · obtain ⟨x, hx, he⟩ := hm i j hij
    have := hn.lo x hx
    rw [he] at this
    exact ⟨by simp only [] at this; omega, by simp [Value.ownBlock]⟩
  · obtain ⟨x, hx, he⟩ := hm i j hij
    obtain ⟨y, hy, he'⟩ := hm i' j' hij'
    have := hn.two x hx y hy (by rw [he, he']; intro e; injection e with e1 e2; omega)
    rw [he, he'] at this
    exact ⟨this, by simp [Value.ownBlock], by simp [Value.ownBlock]⟩
/-- The zero net's cells. -/
def zero70 : Array Value := (Value.int .i64 0 :: List.replicate 81 (.pointer none)).toArray
theorem Try.info70 : (Try.prog.info? 70).map (fun i => i.zero) = some (some (.agg zero70)) := by kernel_rfl
theorem z70 (w : World) : (zeroValue 70).run Try.prog w = .ok (.agg zero70) w := by
  obtain ⟨i, hi, hz⟩ := Option.map_eq_some_iff.1 Try.info70
  simp [zeroValue, typeInfo, hi, hz]

set_option maxRecDepth 100000 in
set_option maxHeartbeats 8000000 in
theorem n_new (w : World) (m : Nat) (h1 : 1 ≤ m) (h8 : m ≤ 8) : Calls Try.prog 24 #[.int .i64 (m : Int)] w fun e w' => ∃ bn, e = .returned (.tuple #[.pointer (some ⟨bn, 0, none⟩), .int .i64 0]) ∧ Nt (fun k => w.heap.size ≤ k) w' bn m (fun _ _ => []) ∧ w.heap.size ≤ bn ∧ Below w.heap.size w w' := by
  refine (callsIn_wide (n := 3)).1 ?_
  refine callsIn_of_wp_marks Try.func24 rfl trivial ?_ rfl
  have hz70 := z70
  have hne : ¬ zero70 = #[] := by intro e; have := congrArg Array.size e; simp [zero70] at this
  have hd1 : decide (m < 1) = false := by simp; omega
  have hd2 : decide (8 < m) = false := by simp; omega
  have hd3 : decide ((m : Int) < 1) = false := by simp; omega
  have hd4 : decide ((8 : Int) < (m : Int)) = false := by simp; omega
  simp only [Try.ntmps24, List.size_toArray, List.length_cons, List.length_nil, Nat.reduceAdd, Nat.reduceSub, Array.replicate_succ, Array.replicate_zero, List.push_toArray, List.append_toArray, List.nil_append, List.cons_append]
  gi_wp2_with (refine ⟨trivial, ?_⟩; gi_at_call 39; refine (all_in 2 _ _).mono ?_; rintro e w' ⟨rfl, rfl⟩)
  clear hd1 hd2 hd3 hd4
  obtain ⟨W0, hW0⟩ : ∃ W0, ((w.alloc (.cells (zero70.setIfInBounds 0 (.int .i64 (m : Int))) 70)).alloc (.cells #[.pointer (some ⟨w.heap.size, 0, none⟩)] 52)).alloc (.cells #[.pointer (some ⟨w.heap.size, 0, none⟩)] 52) = W0 := ⟨_, rfl⟩
  have hsz : W0.heap.size = w.heap.size + 3 := by rw [← hW0]; simp
  have hB0 : Below w.heap.size w W0 := by rw [← hW0]; exact (((Below.refl _ w).alloc (Nat.le_refl _) _).alloc (by simp) _).alloc (by simp; omega) _
  have b0 : W0.heap[w.heap.size]? = some (.cells (zero70.setIfInBounds 0 (.int .i64 (m : Int))) 70 (0, 0)) := by
    rw [← hW0, Below.heap_alloc _ _ _ (by simp; omega), Below.heap_alloc _ _ _ (by simp)]
    exact heap_alloc_new w _
  have b1 : Boxed W0 (w.heap.size + 1) 52 (.pointer (some ⟨w.heap.size, 0, none⟩)) := by
    rw [← hW0]
    have := Boxed.new (w.alloc (.cells (zero70.setIfInBounds 0 (.int .i64 (m : Int))) 70)) 52 (.pointer (some ⟨w.heap.size, 0, none⟩))
    rw [World.size_alloc] at this
    exact this.alloc _
  have b3 : Boxed W0 (w.heap.size + 1 + 1) 52 (.pointer (some ⟨w.heap.size, 0, none⟩)) := by
    rw [← hW0]
    have := Boxed.new ((w.alloc (.cells (zero70.setIfInBounds 0 (.int .i64 (m : Int))) 70)).alloc (.cells #[.pointer (some ⟨w.heap.size, 0, none⟩)] 52)) 52 (.pointer (some ⟨w.heap.size, 0, none⟩))
    rw [World.size_alloc, World.size_alloc] at this
    exact this
  rw [hW0]
  have z0 : (zero70.setIfInBounds 0 (.int .i64 (m : Int)))[0]? = some (.int .i64 (m : Int)) := Array.getElem?_setIfInBounds_self_of_lt (by simp [zero70])
  have hc0 : W0.cell? ⟨w.heap.size, 0, none⟩ = some (.int .i64 (m : Int)) := by rw [cell_of_row W0 _ 0 _ _ _ b0]; exact z0
  have hcells : ∀ (k : Nat) (cs' : Array Value) (T : TypeId) {A B : World} {row : Option Nat}, A.heap[k]? = some (.cells cs' T (0, 0)) → A.grownBy B row → (∀ r, row = some r → ∃ o : Obj, A.heap[r]? = some o ∧ o.isCells = false) → B.heap[k]? = some (.cells cs' T (0, 0)) := fun k cs' T A B row hk hg hr =>
    (hg.block k (heap_lt hk) (fun e => by obtain ⟨o, ho, hc⟩ := hr _ e.symm; rw [hk] at ho; cases ho; cases hc)).trans hk
  have hcs0 : (zero70.setIfInBounds 0 (.int .i64 (m : Int))).size = 82 := by simp [zero70]
  have hfn : ∀ i, W0.frozen? ⟨w.heap.size, i, none⟩ = false := fun i => frozen_of_row _ _ i _ _ b0
  generalize zero70.setIfInBounds 0 (.int .i64 (m : Int)) = cs0 at *
  refine wpIn_rangeFunc_ownG rfl (by omega) (gf := 47) (lb := #[.pointer (some ⟨w.heap.size + 1 + 1, 0, none⟩)]) rfl trivial (enters_of Try.func47 (by kernel_rfl) rfl)
    (all_stops_sub 2 (by omega) w.heap.size (w.heap.size + 1 + 1) m h8 W0 (by omega) (by omega) hc0 b3.cell) KN.trans (KN.putObj (by omega) (by omega)) (Below.refl _ _) (fun _ => rfl)
    (fun pre W => ((∃ cs B, NI w.heap.size m pre W cs B) ∧ Boxed W (w.heap.size + 1) 52 (.pointer (some ⟨w.heap.size, 0, none⟩)) ∧ Boxed W (w.heap.size + 1 + 1) 52 (.pointer (some ⟨w.heap.size, 0, none⟩))) ∧ Below w.heap.size w W)
    (fun _ _ _ => False)
    (OwnFrom.and (OwnFrom.and (Own.from (fun s A B row hs hg hr => by obtain ⟨cs, Bf, hn⟩ := hs; exact ⟨cs, Bf, hn.same fun k cs' T hk => hcells k cs' T hk hg hr⟩) _) (OwnFrom.and
      (Own.from (fun s A B row hs hg hr => hcells _ _ _ hs hg hr) _) (Own.from (fun s A B row hs hg hr => hcells _ _ _ hs hg hr) _))) (ownFrom_below (Nat.le_refl _) (by omega)))
    (fun _ _ _ _ _ hs _ _ => hs)
    ⟨⟨⟨cs0, fun _ _ => 0, ⟨b0, hcs0, z0, by simp, by simp, by simp, by simp⟩⟩, b1, b3⟩, hB0⟩
    (fun x => { tmps := #[.int .i64 (m : Int), undef, .pointer none, .int .i64 0, .pointer (some ⟨w.heap.size + 1, 0, none⟩), .int .i64 ((x.1.1 : Int) - 1), .int .i64 ((x.1.2 : Int) - 1), .int .i64 (m : Int), .bool false, .bool false, .int .i64 (m : Int), .bool false, .bool false, .int .i64 (m : Int), .agg cs0, .pointer (some ⟨w.heap.size, 0, none⟩), .pointer (some ⟨w.heap.size, 0, none⟩), .func (.func 47) #[] #[.pointer (some ⟨w.heap.size + 1 + 1, 0, none⟩)], .int .i64 ((x.1.1 : Int) - 1), .int .i64 ((x.1.2 : Int) - 1), undef, undef, undef, undef, undef, undef, undef, undef, undef, undef, undef, undef, undef, undef], defers := [] }) ?assign ?body ?done ?stop
  case assign =>
    intro l x W K hK
    unfold encL
    gi_wp2
    exact hK
  case body =>
    rintro l pre x W ⟨⟨⟨cs, Bf, hn⟩, hf, hg3⟩, hB⟩ hpl
    have hW3 : w.heap.size + 3 ≤ W.heap.size := by have := Boxed.lt hg3; omega
    have hfin : ∀ (aa : Act) (w1 : World) (bs : Nat), BagIs w1 bs 64 (.slice none 0 0) [] → W.heap.size ≤ bs → Below W.heap.size W w1 →
        ownPostG W0.heap.size (KN w.heap.size (w.heap.size + 1 + 1)) (fun pre W => ((∃ cs B, NI w.heap.size m pre W cs B) ∧ Boxed W (w.heap.size + 1) 52 (.pointer (some ⟨w.heap.size, 0, none⟩)) ∧ Boxed W (w.heap.size + 1 + 1) 52 (.pointer (some ⟨w.heap.size, 0, none⟩))) ∧ Below w.heap.size w W) (fun _ _ _ => False) (pre ++ [x]) W Exit.normal aa (w1.setCell ⟨w.heap.size, 1 + x.1.1 * 9 + x.1.2, none⟩ (.pointer (some ⟨bs, 0, none⟩))) := by
      intro aa w1 bs hb hbs hB1
      have hn2 := hn.step hB1 bs hb hbs hW3 x
      have hoth : ∀ k, k ≠ w.heap.size → (w1.setCell ⟨w.heap.size, 1 + x.1.1 * 9 + x.1.2, none⟩ (.pointer (some ⟨bs, 0, none⟩))).heap[k]? = w1.heap[k]? := fun k hk => Below.heap_setCell _ _ _ _ hk
      have hk0 : (w1.setCell ⟨w.heap.size, 1 + x.1.1 * 9 + x.1.2, none⟩ (.pointer (some ⟨bs, 0, none⟩))).cell? ⟨w.heap.size, 0, none⟩ = W.cell? ⟨w.heap.size, 0, none⟩ := by
        rw [cell_of_row _ _ 0 _ _ _ hn2.row, cell_of_row _ _ 0 _ _ _ hn.row, hn2.zero, hn.zero]
      have h1' := (hoth (w.heap.size + 1) (by omega)).trans ((hB1.block _ (Boxed.lt hf)).trans hf)
      have h2' := (hoth (w.heap.size + 1 + 1) (by omega)).trans ((hB1.block _ (Boxed.lt hg3)).trans hg3)
      refine ⟨⟨by simp [World.setCell]; exact hB1.size, fun k o hk ho hoc => ?_⟩, ⟨hk0, World.cell?_of_block (h2'.trans (show some _ = W.heap[w.heap.size + 1 + 1]? from hg3.symm))⟩, ⟨⟨_, _, hn2⟩, h1', h2'⟩, (hB.trans (hB1.mono (by omega))).setCell (p := ⟨w.heap.size, 1 + x.1.1 * 9 + x.1.2, none⟩) (Nat.le_refl _) _⟩
      exact (hoth k (by omega)).trans ((hB1.block k (heap_lt ho)).trans ho)
    have HFIN := Lib.hid hfin
    clear hfin
    obtain ⟨⟨i, j⟩, hi8, hj8⟩ := x
    have hi8' : i ≤ 8 := hi8
    have hj8' : j ≤ 8 := hj8

    have i9 : i < 9 := by omega
    have j9 : j < 9 := by omega
    have i9' : (i : Int) < 9 := by omega
    have j9' : (j : Int) < 9 := by omega
    have i0' : (0 : Int) ≤ (i : Int) := by omega
    have j0' : (0 : Int) ≤ (j : Int) := by omega
    have i0n : ¬ (i : Int) < 0 := by omega
    have j0n : ¬ (j : Int) < 0 := by omega
    have ew : IntKind.i64.wrap ((i : Int) - 1 + 1) = (i : Int) := by rw [IntKind.wrap_i64]; omega
    have ew2 : IntKind.i64.wrap ((j : Int) - 1 + 1) = (j : Int) := by rw [IntKind.wrap_i64]; omega
    have ei : (i : Int) - 1 + 1 = (i : Int) := by omega
    have ej : (j : Int) - 1 + 1 = (j : Int) := by omega
    have c1 := hf.cell
    obtain ⟨u0, hu0⟩ : ∃ u0, W.cell? ⟨w.heap.size, 1 + i * 9 + j, none⟩ = some u0 := by
      rw [cell_of_row _ _ _ _ _ _ hn.row]
      exact ⟨_, Array.getElem?_eq_getElem (by rw [hn.size]; omega)⟩
    have hfr : W.frozen? ⟨w.heap.size, 1 + i * 9 + j, none⟩ = false := frozen_of_row _ _ _ _ _ hn.row
    have hl0 : w.heap.size < W.heap.size := by omega
    have hl1 : w.heap.size + 1 < W.heap.size := by omega
    have hmx : Try.prog.follows .mixedOrders = true := by kernel_rfl
    have HNew := Lib.hid (new_ok W.drew 64 (by omega))
    clear hn hf hg3 hB
    dsimp only
    gi_wp2
    clear hcells hz70 hne
    refine wpIn_region_any (by assumption) ?_
    change wpAnyIn _ _ _ _ _ _ _ _ _ (World.drew _)
    refine wpAnyIn_round (F := Fence.wide) rfl l (by kernel_rfl) _ _ _ _ ?_
    refine wpAnyIn_take (i := 1) (v := .int .i64 ((i : Int) - 1)) rfl (by simp only [List.getElem?_toArray, List.getElem?_cons_succ, List.getElem?_cons_zero]; exact rfl) (by kernel_rfl) (by kernel_rfl) (by kernel_rfl) (fun _ _ _ h => h) ⟨Or.inl ⟨by rfl, ?_⟩, fun _ => rfl⟩ ?_
    · intro WW
      go_simp
    try simp only [Act.put, List.setIfInBounds_toArray, List.set_cons_zero, List.set_cons_succ]
    refine wpAnyIn_take (i := 2) (v := .int .i64 (i : Int)) rfl (by simp only [List.getElem?_toArray, List.getElem?_cons_succ, List.getElem?_cons_zero]; exact rfl) (by kernel_rfl) (by kernel_rfl) (by kernel_rfl) (fun _ _ _ h => h) ⟨Or.inl ⟨by rfl, ?_⟩, fun _ => rfl⟩ ?_
    · intro WW
      go_simp
      rw [IntKind.wrap_i64]; omega
    try simp only [Act.put, List.setIfInBounds_toArray, List.set_cons_zero, List.set_cons_succ]
    refine wpAnyIn_take (i := 3) (v := .int .i64 ((j : Int) - 1)) rfl (by simp only [List.getElem?_toArray, List.getElem?_cons_succ, List.getElem?_cons_zero]; exact rfl) (by kernel_rfl) (by kernel_rfl) (by kernel_rfl) (fun _ _ _ h => h) ⟨Or.inl ⟨by rfl, ?_⟩, fun _ => rfl⟩ ?_
    · intro WW
      go_simp
    try simp only [Act.put, List.setIfInBounds_toArray, List.set_cons_zero, List.set_cons_succ]
    refine wpAnyIn_take (i := 4) (v := .int .i64 (j : Int)) rfl (by simp only [List.getElem?_toArray, List.getElem?_cons_succ, List.getElem?_cons_zero]; exact rfl) (by kernel_rfl) (by kernel_rfl) (by kernel_rfl) (fun _ _ _ h => h) ⟨Or.inl ⟨by rfl, ?_⟩, fun _ => rfl⟩ ?_
    · intro WW
      go_simp
      rw [IntKind.wrap_i64]; omega
    try simp only [Act.put, List.setIfInBounds_toArray, List.set_cons_zero, List.set_cons_succ]
    refine wpAnyIn_ready (rs := [0, 5]) (by kernel_rfl) (by simp) ?_
    refine AllReadyIn.cons (by simp only [List.getElem?_toArray, List.getElem?_cons_zero]; exact rfl) (fun K9 hK9 => ?_) ?_
    · go_simp
      refine hK9 _ _ ?_
      clear hK9 K9
      try simp only [Act.put, List.setIfInBounds_toArray, List.set_cons_zero, List.set_cons_succ]
      refine wpAnyIn_take (i := 9) (v := .pointer (some ⟨w.heap.size, 0, none⟩)) rfl (by simp only [List.getElem?_toArray, List.getElem?_cons_succ, List.getElem?_cons_zero]; exact rfl) (by kernel_rfl) (by kernel_rfl) (by kernel_rfl) (fun _ _ _ h => h) ⟨Or.inl ⟨by rfl, ?_⟩, fun _ => rfl⟩ ?_
      · intro WW
        go_simp
      try simp only [Act.put, List.setIfInBounds_toArray, List.set_cons_zero, List.set_cons_succ]
      refine wpAnyIn_take (i := 10) (v := .pointer (some ⟨w.heap.size, 1, none⟩)) rfl (by simp only [List.getElem?_toArray, List.getElem?_cons_succ, List.getElem?_cons_zero]; exact rfl) (by kernel_rfl) (by kernel_rfl) (by kernel_rfl) (fun _ _ _ h => h) ⟨Or.inl ⟨by rfl, ?_⟩, fun _ => rfl⟩ ?_
      · intro WW
        go_simp
      try simp only [Act.put, List.setIfInBounds_toArray, List.set_cons_zero, List.set_cons_succ]
      refine wpAnyIn_take (i := 11) (v := .pointer (some ⟨w.heap.size, 1 + i * 9, none⟩)) rfl (by simp only [List.getElem?_toArray, List.getElem?_cons_succ, List.getElem?_cons_zero]; exact rfl) (by kernel_rfl) (by kernel_rfl) (by kernel_rfl) (fun _ _ _ h => h) ⟨Or.inl ⟨by rfl, ?_⟩, fun _ => rfl⟩ ?_
      · intro WW
        go_simp
      try simp only [Act.put, List.setIfInBounds_toArray, List.set_cons_zero, List.set_cons_succ]
      refine wpAnyIn_ready (rs := [5]) (by kernel_rfl) (by simp) ?_
      refine AllReadyIn.cons (by simp only [List.getElem?_toArray, List.getElem?_cons_succ, List.getElem?_cons_zero]; exact rfl) (fun K9 hK9 => ?_) AllReadyIn.nil
      go_simp
      refine ⟨trivial, ?_⟩
      gi_at_call 11
      refine (callsIn_wide.2 HNew.out).mono ?_
      rintro e w1 ⟨bs, rfl, hb, hbs, hB1⟩
      have c1 := (hB1.cell (p := ⟨w.heap.size + 1, 0, none⟩) hl1).trans c1
      have hu0 := (hB1.cell (p := ⟨w.heap.size, 1 + i * 9 + j, none⟩) hl0).trans hu0
      have hfr := (World.frozen?_of_block (hB1.block w.heap.size hl0)).trans hfr
      go_simp
      refine hK9 _ _ ?_
      clear hK9 K9
      try simp only [Act.put, List.setIfInBounds_toArray, List.set_cons_zero, List.set_cons_succ]
      refine wpAnyIn_take (i := 6) (v := .tuple #[.pointer (some ⟨bs, 0, none⟩), .int .i64 0]) rfl (by simp only [List.getElem?_toArray, List.getElem?_cons_succ, List.getElem?_cons_zero]; exact rfl) (by kernel_rfl) (by kernel_rfl) (by kernel_rfl) (fun _ _ _ h => h) ⟨Or.inl ⟨by rfl, ?_⟩, fun _ => rfl⟩ ?_
      · intro WW
        go_simp
      try simp only [Act.put, List.setIfInBounds_toArray, List.set_cons_zero, List.set_cons_succ]
      refine wpAnyIn_take (i := 7) (v := .pointer (some ⟨bs, 0, none⟩)) rfl (by simp only [List.getElem?_toArray, List.getElem?_cons_succ, List.getElem?_cons_zero]; exact rfl) (by kernel_rfl) (by kernel_rfl) (by kernel_rfl) (fun _ _ _ h => h) ⟨Or.inl ⟨by rfl, ?_⟩, fun _ => rfl⟩ ?_
      · intro WW
        go_simp
      try simp only [Act.put, List.setIfInBounds_toArray, List.set_cons_zero, List.set_cons_succ]
      refine wpAnyIn_take (i := 8) (v := .int .i64 0) rfl (by simp only [List.getElem?_toArray, List.getElem?_cons_succ, List.getElem?_cons_zero]; exact rfl) (by kernel_rfl) (by kernel_rfl) (by kernel_rfl) (fun _ _ _ h => h) ⟨Or.inl ⟨by rfl, ?_⟩, fun _ => rfl⟩ ?_
      · intro WW
        go_simp
      try simp only [Act.put, List.setIfInBounds_toArray, List.set_cons_zero, List.set_cons_succ]
      refine wpAnyIn_take (i := 12) (v := .pointer (some ⟨w.heap.size, 1 + i * 9 + j, none⟩)) rfl (by simp only [List.getElem?_toArray, List.getElem?_cons_succ, List.getElem?_cons_zero]; exact rfl) (by kernel_rfl) (by kernel_rfl) (by kernel_rfl) (fun _ _ _ h => h) ⟨Or.inl ⟨by rfl, ?_⟩, fun _ => rfl⟩ ?_
      · intro WW
        go_simp
      try simp only [Act.put, List.setIfInBounds_toArray, List.set_cons_zero, List.set_cons_succ]
      refine wpAnyIn_ready (rs := [13]) (by kernel_rfl) (by simp) ?_
      refine AllReadyIn.cons (by simp only [List.getElem?_toArray, List.getElem?_cons_succ, List.getElem?_cons_zero]; exact rfl) (fun K9 hK9 => ?_) AllReadyIn.nil
      go_simp
      refine hK9 _ _ ?_
      clear hK9 K9
      refine wpAnyIn_done (by kernel_rfl) ?_ _
      exact HFIN.out ⟨#[], []⟩ _ bs hb hbs ((Below.refl W.heap.size W).drew.trans hB1)
    refine AllReadyIn.cons (by simp only [List.getElem?_toArray, List.getElem?_cons_succ, List.getElem?_cons_zero]; exact rfl) (fun K9 hK9 => ?_) AllReadyIn.nil
    go_simp
    refine ⟨trivial, ?_⟩
    gi_at_call 11
    refine (callsIn_wide.2 HNew.out).mono ?_
    rintro e w1 ⟨bs, rfl, hb, hbs, hB1⟩
    have c1 := (hB1.cell (p := ⟨w.heap.size + 1, 0, none⟩) hl1).trans c1
    have hu0 := (hB1.cell (p := ⟨w.heap.size, 1 + i * 9 + j, none⟩) hl0).trans hu0
    have hfr := (World.frozen?_of_block (hB1.block w.heap.size hl0)).trans hfr
    go_simp
    refine hK9 _ _ ?_
    clear hK9 K9
    try simp only [Act.put, List.setIfInBounds_toArray, List.set_cons_zero, List.set_cons_succ]
    refine wpAnyIn_take (i := 6) (v := .tuple #[.pointer (some ⟨bs, 0, none⟩), .int .i64 0]) rfl (by simp only [List.getElem?_toArray, List.getElem?_cons_succ, List.getElem?_cons_zero]; exact rfl) (by kernel_rfl) (by kernel_rfl) (by kernel_rfl) (fun _ _ _ h => h) ⟨Or.inl ⟨by rfl, ?_⟩, fun _ => rfl⟩ ?_
    · intro WW
      go_simp
    try simp only [Act.put, List.setIfInBounds_toArray, List.set_cons_zero, List.set_cons_succ]
    refine wpAnyIn_take (i := 7) (v := .pointer (some ⟨bs, 0, none⟩)) rfl (by simp only [List.getElem?_toArray, List.getElem?_cons_succ, List.getElem?_cons_zero]; exact rfl) (by kernel_rfl) (by kernel_rfl) (by kernel_rfl) (fun _ _ _ h => h) ⟨Or.inl ⟨by rfl, ?_⟩, fun _ => rfl⟩ ?_
    · intro WW
      go_simp
    try simp only [Act.put, List.setIfInBounds_toArray, List.set_cons_zero, List.set_cons_succ]
    refine wpAnyIn_take (i := 8) (v := .int .i64 0) rfl (by simp only [List.getElem?_toArray, List.getElem?_cons_succ, List.getElem?_cons_zero]; exact rfl) (by kernel_rfl) (by kernel_rfl) (by kernel_rfl) (fun _ _ _ h => h) ⟨Or.inl ⟨by rfl, ?_⟩, fun _ => rfl⟩ ?_
    · intro WW
      go_simp
    try simp only [Act.put, List.setIfInBounds_toArray, List.set_cons_zero, List.set_cons_succ]
    refine wpAnyIn_ready (rs := [0]) (by kernel_rfl) (by simp) ?_
    refine AllReadyIn.cons (by simp only [List.getElem?_toArray, List.getElem?_cons_zero]; exact rfl) (fun K9 hK9 => ?_) AllReadyIn.nil
    go_simp
    refine hK9 _ _ ?_
    clear hK9 K9
    try simp only [Act.put, List.setIfInBounds_toArray, List.set_cons_zero, List.set_cons_succ]
    refine wpAnyIn_take (i := 9) (v := .pointer (some ⟨w.heap.size, 0, none⟩)) rfl (by simp only [List.getElem?_toArray, List.getElem?_cons_succ, List.getElem?_cons_zero]; exact rfl) (by kernel_rfl) (by kernel_rfl) (by kernel_rfl) (fun _ _ _ h => h) ⟨Or.inl ⟨by rfl, ?_⟩, fun _ => rfl⟩ ?_
    · intro WW
      go_simp
    try simp only [Act.put, List.setIfInBounds_toArray, List.set_cons_zero, List.set_cons_succ]
    refine wpAnyIn_take (i := 10) (v := .pointer (some ⟨w.heap.size, 1, none⟩)) rfl (by simp only [List.getElem?_toArray, List.getElem?_cons_succ, List.getElem?_cons_zero]; exact rfl) (by kernel_rfl) (by kernel_rfl) (by kernel_rfl) (fun _ _ _ h => h) ⟨Or.inl ⟨by rfl, ?_⟩, fun _ => rfl⟩ ?_
    · intro WW
      go_simp
    try simp only [Act.put, List.setIfInBounds_toArray, List.set_cons_zero, List.set_cons_succ]
    refine wpAnyIn_take (i := 11) (v := .pointer (some ⟨w.heap.size, 1 + i * 9, none⟩)) rfl (by simp only [List.getElem?_toArray, List.getElem?_cons_succ, List.getElem?_cons_zero]; exact rfl) (by kernel_rfl) (by kernel_rfl) (by kernel_rfl) (fun _ _ _ h => h) ⟨Or.inl ⟨by rfl, ?_⟩, fun _ => rfl⟩ ?_
    · intro WW
      go_simp
    try simp only [Act.put, List.setIfInBounds_toArray, List.set_cons_zero, List.set_cons_succ]
    refine wpAnyIn_take (i := 12) (v := .pointer (some ⟨w.heap.size, 1 + i * 9 + j, none⟩)) rfl (by simp only [List.getElem?_toArray, List.getElem?_cons_succ, List.getElem?_cons_zero]; exact rfl) (by kernel_rfl) (by kernel_rfl) (by kernel_rfl) (fun _ _ _ h => h) ⟨Or.inl ⟨by rfl, ?_⟩, fun _ => rfl⟩ ?_
    · intro WW
      go_simp
    try simp only [Act.put, List.setIfInBounds_toArray, List.set_cons_zero, List.set_cons_succ]
    refine wpAnyIn_ready (rs := [13]) (by kernel_rfl) (by simp) ?_
    refine AllReadyIn.cons (by simp only [List.getElem?_toArray, List.getElem?_cons_succ, List.getElem?_cons_zero]; exact rfl) (fun K9 hK9 => ?_) AllReadyIn.nil
    go_simp
    refine hK9 _ _ ?_
    clear hK9 K9
    refine wpAnyIn_done (by kernel_rfl) ?_ _
    exact HFIN.out ⟨#[], []⟩ _ bs hb hbs ((Below.refl W.heap.size W).drew.trans hB1)
  case done =>
    rintro D ys W hD hys ⟨⟨⟨cs, Bf, hn⟩, hf, hg3⟩, hB⟩ hK
    have hc := hf.cell
    have hK' := hK
    gi_wp2
    refine ⟨by simp, .inl ⟨_, _, rfl, run_takeDeferred hK, ?_⟩⟩
    have hpo : ∀ (k : Nat) (cs' : Array Value) (T : TypeId), W.heap[k]? = some (.cells cs' T (0, 0)) → (W.putObj D (.deferred none)).heap[k]? = some (.cells cs' T (0, 0)) := fun k cs' T hk =>
      (World.putObj_heap_other (fun e => by subst e; rw [hk] at hK'; cases hK')).trans hk
    exact ⟨_, results_tmp2 rfl _ _ _, w.heap.size, rfl, (hn.same hpo).net hys h8, Nat.le_refl _, hB.trans (belowK_b (w := w) (Nat.le_refl _) W D _ _ (by omega) hK rfl rfl)⟩
  case stop =>
    rintro D c pre W _ _ h _
    exact h.elim
end Go.Proofs.Ytlhlnaengedfgaa
