/- Contracts of all and Total. Condition: the net is well made (Nt), or nil. -/
import Derived.Test.YtlhlnaengedfgaaNetE
import Derived.Shelf.RegionOpen
namespace Go.Proofs.Ytlhlnaengedfgaa
open Go.RowKit Go.Lk Go.Shelf
attribute [local go_sem] Oper.semAt_some

set_option maxHeartbeats 1000000 in
theorem all1_nil_in (n : Nat) (l Bs : Nat) (J : List (Nat × Nat) → World → Prop) (W : World) (hBs : W.cell? ⟨Bs, 0, none⟩ = some (.pointer none)) (h0 : J [] W) :
    CallsIn Fence.wide n Try.prog 47 #[.func (.yield l) #[] #[], .pointer (some ⟨Bs, 0, none⟩)] W fun e W' => (∃ v, e = .returned v) ∧ J [] W' := by
  refine callsIn_of_wp Try.func47 rfl trivial ?_ rfl
  simp only [Try.ntmps47, List.size_toArray, List.length_cons, List.length_nil, Nat.reduceAdd, Nat.reduceSub, Array.replicate_succ, Array.replicate_zero, List.push_toArray, List.append_toArray, List.nil_append, List.cons_append]
  gi_wp2
  refine bodyPost_ret (results_none rfl _ _ _) rfl ?_
  exact ⟨⟨_, rfl⟩, h0⟩
set_option maxHeartbeats 1000000 in
theorem all_in (n : Nat) (p : Option Addr) (w : World) :
    CallsIn Fence.wide n Try.prog 39 #[.pointer p] w fun e w' => e = .returned (.func (.func 47) #[] #[.pointer (some ⟨w.heap.size, 0, none⟩)]) ∧ w' = w.alloc (.cells #[.pointer p] 52) := by
  refine callsIn_of_wp Try.func39 rfl trivial ?_ rfl
  simp only [Try.ntmps39, List.size_toArray, List.length_cons, List.length_nil, Nat.reduceAdd, Nat.reduceSub, Array.replicate_succ, Array.replicate_zero, List.push_toArray, List.append_toArray, List.nil_append, List.cons_append]
  gi_wp2
  go_ret
  exact ⟨rfl, rfl⟩
def encL (x : Nat × Nat) : Array Value := #[.int .i64 ((x.1 : Int) - 1), .int .i64 ((x.2 : Int) - 1)]
theorem all_stops (n : Nat) (hn : 1 ≤ n) (bn Bs sv : Nat) (hsv : sv ≤ 8) (w : World) (hB : Bs < w.heap.size) (hb : bn < w.heap.size) (hc : w.cell? ⟨bn, 0, none⟩ = some (.int .i64 (sv : Int))) (hBs : w.cell? ⟨Bs, 0, none⟩ = some (.pointer (some ⟨bn, 0, none⟩))) :
    SeqStopsK Fence.wide n Try.prog 47 #[.pointer (some ⟨Bs, 0, none⟩)] encL (KN bn Bs) (fun ys => ys = allL sv) (fun _ => True) 81 w := fun l J Jx W hW _ _ hY h0 =>
  all1_in n hn l bn Bs sv hsv J Jx (fun pre x W _ _ => hY pre x W) W ((hW.cell (p := ⟨bn, 0, none⟩) hb).trans hc) ((hW.cell (p := ⟨Bs, 0, none⟩) hB).trans hBs) h0
theorem all_stops_nil (n : Nat) (Bs : Nat) (w : World) (hB : Bs < w.heap.size) (hBs : w.cell? ⟨Bs, 0, none⟩ = some (.pointer none)) :
    SeqStopsK Fence.wide n Try.prog 47 #[.pointer (some ⟨Bs, 0, none⟩)] encL (fun _ _ => True) (fun ys => ys = []) (fun _ => True) 0 w := fun l J _ W hW _ _ _ h0 =>
  (all1_nil_in n l Bs J W ((hW.cell (p := ⟨Bs, 0, none⟩) hB).trans hBs) h0).mono fun _ _ ⟨he, hj⟩ => ⟨he, .inl ⟨_, rfl, hj⟩⟩
/-- A link within the bounds. -/
abbrev Lx := { x : Nat × Nat // x.1 ≤ 8 ∧ x.2 ≤ 8 }
theorem all_stops_sub (n : Nat) (hn : 1 ≤ n) (bn Bs sv : Nat) (hsv : sv ≤ 8) (w : World) (hB : Bs < w.heap.size) (hb : bn < w.heap.size) (hc : w.cell? ⟨bn, 0, none⟩ = some (.int .i64 (sv : Int))) (hBs : w.cell? ⟨Bs, 0, none⟩ = some (.pointer (some ⟨bn, 0, none⟩))) :
    SeqStopsK Fence.wide n Try.prog 47 #[.pointer (some ⟨Bs, 0, none⟩)] (fun x : Lx => encL x.1) (KN bn Bs) (fun ys => ys.map Subtype.val = allL sv) (fun _ => True) 81 w := fun l J Jx W hW _ _ hY h0 =>
  (all1_in n hn l bn Bs sv hsv (fun pre W => ∃ ps : List Lx, ps.map Subtype.val = pre ∧ J ps W) (fun pre W => ∃ ps : List Lx, ps.map Subtype.val = pre ∧ Jx ps W)
    (fun pre x W h1 h2 ⟨ps, hps, hj⟩ hl => (hY ps ⟨x, h1, h2⟩ W hj (by rw [← hps, List.length_map] at hl; exact hl)).mono fun e W' h => by
      rcases h with ⟨he, hj', hk⟩ | ⟨he, hj'⟩
      · exact .inl ⟨he, ⟨_, by simp [hps], hj'⟩, hk⟩
      · exact .inr ⟨he, ⟨_, by simp [hps], hj'⟩⟩)
    W ((hW.cell (p := ⟨bn, 0, none⟩) hb).trans hc) ((hW.cell (p := ⟨Bs, 0, none⟩) hB).trans hBs) ⟨[], rfl, h0⟩).mono fun e W' ⟨he, h⟩ => ⟨he, by
      rcases h with ⟨ys, hys, ps, hps, hj⟩ | ⟨pre, _, ps, hps, hj⟩
      · exact .inl ⟨ps, hps.trans hys, hj⟩
      · exact .inr ⟨ps, trivial, hj⟩⟩
theorem KN.putObj {bn Bs : Nat} {w : World} (hb : bn < w.heap.size) (hB : Bs < w.heap.size) (W : World) (l : Nat) (o o' : Obj) (hl : w.heap.size ≤ l) (_ : W.heap[l]? = some o) (_ : o.isCells = false) (_ : o.isWalk = false) : KN bn Bs W (W.putObj l o') := by
  have h1 : (W.putObj l o').heap[bn]? = W.heap[bn]? := World.putObj_heap_other (by omega)
  have h2 : (W.putObj l o').heap[Bs]? = W.heap[Bs]? := World.putObj_heap_other (by omega)
  exact ⟨World.cell?_of_block h1, World.cell?_of_block h2⟩

/-- How many are on their way, over some links. -/
def lenX (sv : Nat) (L : Nat → Nat → List ByteArray) (x : Nat × Nat) : Nat := lenN sv L ((x.1 : Int) - 1) ((x.2 : Int) - 1)
def sumL (sv : Nat) (L : Nat → Nat → List ByteArray) (xs : List (Nat × Nat)) : Nat := (xs.map (lenX sv L)).sum
theorem sumL_snoc (sv : Nat) (L : Nat → Nat → List ByteArray) (pre : List (Nat × Nat)) (x : Nat × Nat) : sumL sv L (pre ++ [x]) = sumL sv L pre + lenX sv L x := by simp [sumL]
theorem Nt.lenN {P : Nat → Prop} {w : World} {bn sv : Nat} {L : Nat → Nat → List ByteArray} (h : Nt P w bn sv L) (a b : Int) : lenN sv L a b ≤ 64 := by
  unfold Ytlhlnaengedfgaa.lenN
  split
  · rename_i hh
    obtain ⟨i, j, rfl, rfl, hk, _⟩ := hasL_yes hh
    rw [ix_nat, ix_nat]
    exact h.len hk
  · omega
theorem Nt.sumL {P : Nat → Prop} {w : World} {bn sv : Nat} {L : Nat → Nat → List ByteArray} (h : Nt P w bn sv L) : ∀ xs : List (Nat × Nat), sumL sv L xs ≤ 64 * xs.length
  | [] => by simp [Ytlhlnaengedfgaa.sumL]
  | x :: xs => by
    have h1 := h.sumL xs
    have h2 := h.lenN ((x.1 : Int) - 1) ((x.2 : Int) - 1)
    have h3 : Ytlhlnaengedfgaa.sumL sv L (x :: xs) = lenX sv L x + Ytlhlnaengedfgaa.sumL sv L xs := by simp [Ytlhlnaengedfgaa.sumL]
    rw [h3, List.length_cons]
    unfold lenX
    omega

section
variable {P : Nat → Prop} (w : World) (bn sv : Nat) (L : Nat → Nat → List ByteArray)
set_option maxRecDepth 100000 in
set_option maxHeartbeats 4000000 in
theorem total_ok (h : Nt P w bn sv L) : Calls Try.prog 34 #[.pointer (some ⟨bn, 0, none⟩)] w fun e w' => e = .returned (.int .i64 (sumL sv L (allL sv) : Int)) ∧ Below w.heap.size w w' := by
  refine (callsIn_wide (n := 3)).1 ?_
  refine callsIn_of_wp_marks Try.func34 rfl trivial ?_ rfl
  simp only [Try.ntmps34, List.size_toArray, List.length_cons, List.length_nil, Nat.reduceAdd, Nat.reduceSub, Array.replicate_succ, Array.replicate_zero, List.push_toArray, List.append_toArray, List.nil_append, List.cons_append]
  gi_wp2_with (refine ⟨trivial, ?_⟩; gi_at_call 39; refine (all_in 2 _ _).mono ?_; rintro e w' ⟨rfl, rfl⟩)
  have hs := h.small
  have hlt := h.lt
  obtain ⟨W0, hW0⟩ : ∃ W0, ((w.alloc (.cells #[.pointer (some ⟨bn, 0, none⟩)] 52)).alloc (.cells #[.int .i64 0] 3)).alloc (.cells #[.pointer (some ⟨bn, 0, none⟩)] 52) = W0 := ⟨_, rfl⟩
  have hsz : W0.heap.size = w.heap.size + 3 := by rw [← hW0]; simp
  have hB0 : Below w.heap.size w W0 := by rw [← hW0]; exact (((Below.refl _ w).alloc (Nat.le_refl _) _).alloc (by simp) _).alloc (by simp; omega) _
  have b1 : Boxed W0 w.heap.size 52 (.pointer (some ⟨bn, 0, none⟩)) := by rw [← hW0]; exact ((Boxed.new w 52 _).alloc _).alloc _
  have b2 : Boxed W0 (w.heap.size + 1) 3 (.int .i64 0) := by
    rw [← hW0]
    have := Boxed.new (w.alloc (.cells #[.pointer (some ⟨bn, 0, none⟩)] 52)) 3 (.int .i64 0)
    rw [World.size_alloc] at this
    exact this.alloc _
  have b3 : Boxed W0 (w.heap.size + 2) 52 (.pointer (some ⟨bn, 0, none⟩)) := by
    rw [← hW0]
    have := Boxed.new ((w.alloc (.cells #[.pointer (some ⟨bn, 0, none⟩)] 52)).alloc (.cells #[.int .i64 0] 3)) 52 (.pointer (some ⟨bn, 0, none⟩))
    rw [World.size_alloc, World.size_alloc] at this
    exact this
  rw [hW0]
  refine wpIn_rangeFunc_ownG rfl (by omega) (gf := 47) (lb := #[.pointer (some ⟨w.heap.size + 2, 0, none⟩)]) rfl trivial (enters_of Try.func47 (by kernel_rfl) rfl)
    (all_stops 2 (by omega) bn (w.heap.size + 2) sv hs W0 (by omega) (by omega) ((hB0.cell (p := ⟨bn, 0, none⟩) hlt).trans h.c0) b3.cell) KN.trans (KN.putObj (by omega) (by omega)) (Below.refl _ _) (fun _ => rfl)
    (fun pre W => (Boxed W (w.heap.size + 1) 3 (.int .i64 (sumL sv L pre : Int)) ∧ Boxed W w.heap.size 52 (.pointer (some ⟨bn, 0, none⟩))) ∧ Below w.heap.size w W)
    (fun _ _ _ => False)
    (OwnFrom.and (Own.from (fun s A B row hs hg hr => ⟨hs.1.kept hg (fun e => by obtain ⟨o, ho, hc⟩ := hr _ e.symm; rw [show A.heap[w.heap.size + 1]? = _ from hs.1] at ho; cases ho; cases hc), hs.2.kept hg (fun e => by obtain ⟨o, ho, hc⟩ := hr _ e.symm; rw [show A.heap[w.heap.size]? = _ from hs.2] at ho; cases ho; cases hc)⟩) _) (ownFrom_below (Nat.le_refl _) (by omega)))
    (fun _ _ _ _ _ hs _ _ => hs)
    ⟨⟨b2, b1⟩, hB0⟩
    (fun x => { tmps := #[.pointer (some ⟨bn, 0, none⟩), .pointer (some ⟨w.heap.size, 0, none⟩), .int .i64 0, .pointer (some ⟨w.heap.size + 1, 0, none⟩), .int .i64 ((x.1 : Int) - 1), .int .i64 ((x.2 : Int) - 1), .pointer (some ⟨bn, 0, none⟩), .func (.func 47) #[] #[.pointer (some ⟨w.heap.size + 2, 0, none⟩)], .int .i64 ((x.1 : Int) - 1), .int .i64 ((x.2 : Int) - 1), undef, undef, undef, undef, undef, undef, undef], defers := [] }) ?assign ?body ?done ?stop
  case assign =>
    intro l x W K hK
    unfold encL
    gi_wp2
    exact hK
  case body =>
    rintro l pre x W ⟨⟨hc, hf⟩, hB⟩ hpl
    have hwr : IntKind.i64.wrap ((sumL sv L pre : Int) + (lenN sv L ((x.1 : Int) - 1) ((x.2 : Int) - 1) : Int)) = ((sumL sv L (pre ++ [x]) : Nat) : Int) := by
      have h1 := h.sumL pre
      have h2 := h.lenN ((x.1 : Int) - 1) ((x.2 : Int) - 1)
      rw [IntKind.wrap_i64, sumL_snoc]
      unfold lenX
      omega
    have HWR := Lib.hid hwr
    clear hwr
    have HN := Lib.hid (n_len W.drew bn sv L (h.below hB.drew) ((x.1 : Int) - 1) ((x.2 : Int) - 1))
    have c1 := hc.cell
    have f1 := hc.frozen
    have c2 := hf.cell
    have hmx : Try.prog.follows .mixedOrders = true := by kernel_rfl
    gi_wp2
    gi_region_with_o (refine ⟨trivial, ?_⟩; gi_at_call 33; refine (CallsIn.inRound l (callsIn_wide.2 HN.out)).mono ?_; rintro e w' ⟨rfl, rfl⟩)
    all_goals gi_wp2
    all_goals
      rw [HWR.out]
      have g1 : ∀ (v : Value) (k : Nat), k ≠ w.heap.size + 1 → ((W.setCell ⟨w.heap.size + 1, 0, none⟩ v).drew).heap[k]? = W.heap[k]? := fun v k hk => Below.heap_setCell _ _ _ _ hk
      exact ⟨((KeepsOthers.setCell _ _ _).trans (KeepsOthers.drew _)).from _, ⟨World.cell?_of_block (g1 _ bn (by omega)), World.cell?_of_block (g1 _ (w.heap.size + 2) (by omega))⟩, ⟨hc.set _, (g1 _ w.heap.size (by omega)).trans hf⟩, (hB.setCell (p := ⟨w.heap.size + 1, 0, none⟩) (by simp) _).drew⟩
  case done =>
    rintro D ys W hD rfl ⟨⟨hc, hf⟩, hB⟩ hK
    have c1 := hc.cell
    gi_wp2
    refine ⟨by simp, .inl ⟨_, _, rfl, run_takeDeferred hK, ?_⟩⟩
    exact ⟨_, results_tmp rfl _ _ _, rfl, hB.trans (belowK_b (w := w) (Nat.le_refl _) W D _ _ (by omega) hK rfl rfl)⟩
  case stop =>
    rintro D c pre W _ _ h _
    exact h.elim
end
set_option maxRecDepth 100000 in
set_option maxHeartbeats 4000000 in
theorem total_nil (w : World) : Calls Try.prog 34 #[.pointer none] w fun e w' => e = .returned (.int .i64 0) ∧ Below w.heap.size w w' := by
  refine (callsIn_wide (n := 3)).1 ?_
  refine callsIn_of_wp_marks Try.func34 rfl trivial ?_ rfl
  simp only [Try.ntmps34, List.size_toArray, List.length_cons, List.length_nil, Nat.reduceAdd, Nat.reduceSub, Array.replicate_succ, Array.replicate_zero, List.push_toArray, List.append_toArray, List.nil_append, List.cons_append]
  gi_wp2_with (refine ⟨trivial, ?_⟩; gi_at_call 39; refine (all_in 2 _ _).mono ?_; rintro e w' ⟨rfl, rfl⟩)
  obtain ⟨W0, hW0⟩ : ∃ W0, ((w.alloc (.cells #[.pointer none] 52)).alloc (.cells #[.int .i64 0] 3)).alloc (.cells #[.pointer none] 52) = W0 := ⟨_, rfl⟩
  have hsz : W0.heap.size = w.heap.size + 3 := by rw [← hW0]; simp
  have hB0 : Below w.heap.size w W0 := by rw [← hW0]; exact (((Below.refl _ w).alloc (Nat.le_refl _) _).alloc (by simp) _).alloc (by simp; omega) _
  have b2 : Boxed W0 (w.heap.size + 1) 3 (.int .i64 0) := by
    rw [← hW0]
    have := Boxed.new (w.alloc (.cells #[.pointer none] 52)) 3 (.int .i64 0)
    rw [World.size_alloc] at this
    exact this.alloc _
  have b3 : Boxed W0 (w.heap.size + 2) 52 (.pointer none) := by
    rw [← hW0]
    have := Boxed.new ((w.alloc (.cells #[.pointer none] 52)).alloc (.cells #[.int .i64 0] 3)) 52 (.pointer none)
    rw [World.size_alloc, World.size_alloc] at this
    exact this
  rw [hW0]
  refine wpIn_rangeFunc_ownG rfl (by omega) (gf := 47) (lb := #[.pointer (some ⟨w.heap.size + 2, 0, none⟩)]) rfl trivial (enters_of Try.func47 (by kernel_rfl) rfl)
    (all_stops_nil 2 (w.heap.size + 2) W0 (by omega) b3.cell) (fun _ _ => trivial) (fun _ _ _ _ _ _ _ _ => trivial) (Below.refl _ _) (fun _ => rfl)
    (fun _ W => Boxed W (w.heap.size + 1) 3 (.int .i64 0) ∧ Below w.heap.size w W)
    (fun _ _ _ => False)
    (OwnFrom.and (Own.from (fun s A B row hs hg hr => hs.kept hg (fun e => by obtain ⟨o, ho, hc⟩ := hr _ e.symm; rw [show A.heap[w.heap.size + 1]? = _ from hs] at ho; cases ho; cases hc)) _) (ownFrom_below (Nat.le_refl _) (by omega)))
    (fun _ _ _ _ _ hs _ _ => hs)
    ⟨b2, hB0⟩
    (fun x => { tmps := #[.pointer none, .pointer (some ⟨w.heap.size, 0, none⟩), .int .i64 0, .pointer (some ⟨w.heap.size + 1, 0, none⟩), .int .i64 ((x.1 : Int) - 1), .int .i64 ((x.2 : Int) - 1), .pointer none, .func (.func 47) #[] #[.pointer (some ⟨w.heap.size + 2, 0, none⟩)], .int .i64 ((x.1 : Int) - 1), .int .i64 ((x.2 : Int) - 1), undef, undef, undef, undef, undef, undef, undef], defers := [] }) ?assign ?body ?done ?stop
  case assign =>
    intro l x W K hK
    unfold encL
    gi_wp2
    exact hK
  case body =>
    intro l pre x W _ hpl
    omega
  case done =>
    rintro D ys W hD rfl ⟨hc, hB⟩ hK
    have c1 := hc.cell
    gi_wp2
    refine ⟨by simp, .inl ⟨_, _, rfl, run_takeDeferred hK, ?_⟩⟩
    exact ⟨_, results_tmp rfl _ _ _, rfl, hB.trans (belowK_b (w := w) (Nat.le_refl _) W D _ _ (by omega) hK rfl rfl)⟩
  case stop =>
    rintro D c pre W _ _ h _
    exact h.elim
end Go.Proofs.Ytlhlnaengedfgaa
