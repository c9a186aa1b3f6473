/- The walk of the law of links that nobody made. No condition. -/
import Derived.Test.YtlhlnaengedfgaaNetI
namespace Go.Proofs.Ytlhlnaengedfgaa
open Go.RowKit Go.Lk

def acell (kd fr tt pl : Int) (tx : ByteArray) : Array Value := #[.int .i64 kd, .int .i64 fr, .int .i64 tt, .int .i64 pl, .string tx]
def L0 : Nat → Nat → List ByteArray := fun _ _ => []
theorem hasL0 (a b : Int) : hasL ((0 : Nat) : Int) a b = false := by unfold hasL; simp; omega
structure NN (wo w : World) (ba bn : Nat) (kd fr tt pl : Int) (tx : ByteArray) : Prop where
  hb : Below wo.heap.size wo w
  ha : w.heap[ba]? = some (.cells (acell kd fr tt pl tx) 58 (0, 0))
  hn : Nt (fun k => bn ≤ k) w bn 0 L0
  la : wo.heap.size ≤ ba
  lb : ba < bn
section
variable {wo w w' : World} {ba bn : Nat} {kd fr tt pl : Int} {tx : ByteArray}
theorem NN.calm (h : NN wo w ba bn kd fr tt pl tx) (hb : Below w.heap.size w w') : NN wo w' ba bn kd fr tt pl tx :=
  ⟨h.hb.trans (hb.mono h.hb.size), (hb.block _ (heap_lt h.ha)).trans h.ha, h.hn.below hb, h.la, h.lb⟩
theorem NN.act (h : NN wo w ba bn kd fr tt pl tx) {L : Nat → Nat → List ByteArray} (hx : Nx (fun k => bn ≤ k) w w' bn 0 L) (hL : L = L0) : NN wo w' ba bn kd fr tt pl tx := by
  obtain ⟨P', h1, h2, h3⟩ := hx
  have hbn := h.hn.lt
  have hla := h.la
  have hlb := h.lb
  subst hL
  exact ⟨h.hb.trans (h3.to_below h.hb.size (fun k hk => by show wo.heap.size ≤ k; omega)), (h3.block ba (heap_lt h.ha) (by show ¬ bn ≤ ba; omega)).trans h.ha, h2.mono (fun k hk => by rcases h1 k hk with e | e; exact e; show bn ≤ k; omega), hla, hlb⟩
theorem NN.cells (h : NN wo w ba bn kd fr tt pl tx) : w.cell? ⟨ba, 0, none⟩ = some (.int .i64 kd) ∧ w.cell? ⟨ba, 1, none⟩ = some (.int .i64 fr) ∧ w.cell? ⟨ba, 2, none⟩ = some (.int .i64 tt) ∧ w.cell? ⟨ba, 3, none⟩ = some (.int .i64 pl) ∧ w.cell? ⟨ba, 4, none⟩ = some (.string tx) := by
  refine ⟨?_, ?_, ?_, ?_, ?_⟩ <;> (rw [cell_of_row w ba _ _ _ _ h.ha]; rfl)
end
theorem NN.start (w : World) (kd fr tt pl : Int) (tx : ByteArray) : NN w ((w.alloc (.cells (acell kd fr tt pl tx) 58)).alloc (.cells zero70 70)) w.heap.size (w.heap.size + 1) kd fr tt pl tx := by
  have h1 : (w.alloc (.cells (acell kd fr tt pl tx) 58)).heap.size = w.heap.size + 1 := by simp
  refine ⟨((Below.refl _ w).alloc (Nat.le_refl _) _).alloc (by simp) _, (Below.heap_alloc _ _ _ (by simp)).trans (heap_alloc_new w _), ⟨fun _ _ => 0, fun _ _ => .slice none 0 0, by omega, ⟨zero70, 70, ?_, rfl, ?_⟩, Nat.le_refl _, ?_, ?_, ?_, ?_⟩, Nat.le_refl _, by omega⟩
  · rw [← h1, heap_alloc_new]
  · intro i j h; exact absurd h (by unfold Lk; omega)
  · intro i j h; exact absurd h (by unfold Lk; omega)
  · intro i j h; exact absurd h (by unfold Lk; omega)
  · intro i j h; exact absurd h (by unfold Lk; omega)
  · intro i j i' j' h; exact absurd h (by unfold Lk; omega)
theorem take0 (a b p : Int) : takeN 0 L0 a b p = (L0, ⟨#[]⟩, 7) := by unfold takeN; rw [hasL0]; rfl
theorem put0 (a b : Int) (s : ByteArray) : putN 0 L0 a b s = (L0, 7) := by unfold putN; rw [hasL0]; rfl
theorem twin0 (a b p : Int) : twinN 0 L0 a b p = (L0, 7) := by unfold twinN; rw [hasL0]; rfl
theorem len0 (a b : Int) : lenN 0 L0 a b = 0 := by unfold lenN; rw [hasL0]; rfl

set_option maxRecDepth 100000 in
set_option maxHeartbeats 4000000 in
theorem netNobodyWalk (kd fr tt pl : Int) (tx : ByteArray) (w : World) : Calls Try.prog 8 #[.agg (acell kd fr tt pl tx)] w fun e w' => e = .returned (.bool true) ∧ Below w.heap.size w w' := by
  have N0 := Lib.hid (NN.start w kd fr tt pl tx)
  have hz70 := z70
  unfold acell at *
  go_enter Try.func8, Try.ntmps8
  go_wp2_with fail
  generalize (w.alloc (.cells #[.int .i64 kd, .int .i64 fr, .int .i64 tt, .int .i64 pl, .string tx] 58)).alloc (.cells zero70 70) = w0 at *
  generalize w.heap.size + 1 = bn at *
  generalize hba : w.heap.size = ba at *
  clear hz70
  obtain ⟨x0, x1, x2, x3, x4⟩ := N0.out.cells
  go_wp2_with fail
  refine (n_at_nil _ fr tt pl).mono ?_
  rintro e w9 ⟨he, hw⟩
  subst he hw
  go_wp2_with fail
  refine (n_take _ bn 0 L0 N0.out.hn fr tt pl).mono ?_
  rintro e w1 ⟨he, hx⟩
  rw [take0] at he hx
  subst he
  have N1 := Lib.hid (N0.out.act hx rfl)
  clear x0 x1 x2 x3 x4 N0
  obtain ⟨x0, x1, x2, x3, x4⟩ := N1.out.cells
  clear hx
  go_wp2_with fail
  have HN := Lib.hid N1.out
  clear x0 x1 x2 x3 x4 N1
  have hTo : ∀ W : World, NN w W ba bn kd fr tt pl tx → (NN w W ba bn kd fr tt pl tx ∧ W.cell? ⟨ba, 1, none⟩ = some (.int .i64 fr) ∧ W.cell? ⟨ba, 2, none⟩ = some (.int .i64 tt) ∧ W.cell? ⟨ba, 3, none⟩ = some (.int .i64 pl) ∧ W.cell? ⟨ba, 4, none⟩ = some (.string tx)) := fun W h => ⟨h, h.cells.2.1, h.cells.2.2.1, h.cells.2.2.2.1, h.cells.2.2.2.2⟩
  have H12 : Hid (∀ W : World, (NN w W ba bn kd fr tt pl tx ∧ W.cell? ⟨ba, 1, none⟩ = some (.int .i64 fr) ∧ W.cell? ⟨ba, 2, none⟩ = some (.int .i64 tt) ∧ W.cell? ⟨ba, 3, none⟩ = some (.int .i64 pl) ∧ W.cell? ⟨ba, 4, none⟩ = some (.string tx)) → Calls Try.prog 36 #[.pointer none, .int .i64 fr, .int .i64 tt] W fun e w' => e = .returned (.bool false) ∧ (NN w w' ba bn kd fr tt pl tx ∧ w'.cell? ⟨ba, 1, none⟩ = some (.int .i64 fr) ∧ w'.cell? ⟨ba, 2, none⟩ = some (.int .i64 tt) ∧ w'.cell? ⟨ba, 3, none⟩ = some (.int .i64 pl) ∧ w'.cell? ⟨ba, 4, none⟩ = some (.string tx))) := fun W hS => (n_has_nil W fr tt).mono fun e w' h => ⟨h.1, h.2 ▸ hS⟩
  have H21 : Hid (∀ W : World, (NN w W ba bn kd fr tt pl tx ∧ W.cell? ⟨ba, 1, none⟩ = some (.int .i64 fr) ∧ W.cell? ⟨ba, 2, none⟩ = some (.int .i64 tt) ∧ W.cell? ⟨ba, 3, none⟩ = some (.int .i64 pl) ∧ W.cell? ⟨ba, 4, none⟩ = some (.string tx)) → Calls Try.prog 36 #[.pointer (some ⟨bn, 0, none⟩), .int .i64 fr, .int .i64 tt] W fun e w' => e = .returned (.bool false) ∧ (NN w w' ba bn kd fr tt pl tx ∧ w'.cell? ⟨ba, 1, none⟩ = some (.int .i64 fr) ∧ w'.cell? ⟨ba, 2, none⟩ = some (.int .i64 tt) ∧ w'.cell? ⟨ba, 3, none⟩ = some (.int .i64 pl) ∧ w'.cell? ⟨ba, 4, none⟩ = some (.string tx))) := fun W hS => (n_has W bn 0 hS.1.hn.c0 fr tt).mono fun e w' h => ⟨by rw [← hasL0 fr tt]; exact h.1, h.2 ▸ hS⟩
  have H32 : Hid (∀ W : World, (NN w W ba bn kd fr tt pl tx ∧ W.cell? ⟨ba, 1, none⟩ = some (.int .i64 fr) ∧ W.cell? ⟨ba, 2, none⟩ = some (.int .i64 tt) ∧ W.cell? ⟨ba, 3, none⟩ = some (.int .i64 pl) ∧ W.cell? ⟨ba, 4, none⟩ = some (.string tx)) → Calls Try.prog 26 #[.pointer none, .int .i64 fr, .int .i64 tt, .string tx] W fun e w' => e = .returned (.int .i64 7) ∧ (NN w w' ba bn kd fr tt pl tx ∧ w'.cell? ⟨ba, 1, none⟩ = some (.int .i64 fr) ∧ w'.cell? ⟨ba, 2, none⟩ = some (.int .i64 tt) ∧ w'.cell? ⟨ba, 3, none⟩ = some (.int .i64 pl) ∧ w'.cell? ⟨ba, 4, none⟩ = some (.string tx))) := fun W hS => (n_put_nil W fr tt tx).mono fun e w' h => ⟨h.1, h.2 ▸ hS⟩
  have H43 : Hid (∀ W : World, (NN w W ba bn kd fr tt pl tx ∧ W.cell? ⟨ba, 1, none⟩ = some (.int .i64 fr) ∧ W.cell? ⟨ba, 2, none⟩ = some (.int .i64 tt) ∧ W.cell? ⟨ba, 3, none⟩ = some (.int .i64 pl) ∧ W.cell? ⟨ba, 4, none⟩ = some (.string tx)) → Calls Try.prog 26 #[.pointer (some ⟨bn, 0, none⟩), .int .i64 fr, .int .i64 tt, .string tx] W fun e w' => e = .returned (.int .i64 7) ∧ (NN w w' ba bn kd fr tt pl tx ∧ w'.cell? ⟨ba, 1, none⟩ = some (.int .i64 fr) ∧ w'.cell? ⟨ba, 2, none⟩ = some (.int .i64 tt) ∧ w'.cell? ⟨ba, 3, none⟩ = some (.int .i64 pl) ∧ w'.cell? ⟨ba, 4, none⟩ = some (.string tx))) := fun W hS => (n_put W bn 0 L0 hS.1.hn fr tt tx).mono fun e w' h => ⟨by have := h.1; rw [put0] at this; exact this, hTo _ (hS.1.act h.2 (by rw [put0]))⟩
  have H54 : Hid (∀ W : World, (NN w W ba bn kd fr tt pl tx ∧ W.cell? ⟨ba, 1, none⟩ = some (.int .i64 fr) ∧ W.cell? ⟨ba, 2, none⟩ = some (.int .i64 tt) ∧ W.cell? ⟨ba, 3, none⟩ = some (.int .i64 pl) ∧ W.cell? ⟨ba, 4, none⟩ = some (.string tx)) → Calls Try.prog 30 #[.pointer none, .int .i64 fr, .int .i64 tt, .int .i64 pl] W fun e w' => e = .returned (.int .i64 7) ∧ (NN w w' ba bn kd fr tt pl tx ∧ w'.cell? ⟨ba, 1, none⟩ = some (.int .i64 fr) ∧ w'.cell? ⟨ba, 2, none⟩ = some (.int .i64 tt) ∧ w'.cell? ⟨ba, 3, none⟩ = some (.int .i64 pl) ∧ w'.cell? ⟨ba, 4, none⟩ = some (.string tx))) := fun W hS => (n_twin_nil W fr tt pl).mono fun e w' h => ⟨h.1, h.2 ▸ hS⟩
  have H65 : Hid (∀ W : World, (NN w W ba bn kd fr tt pl tx ∧ W.cell? ⟨ba, 1, none⟩ = some (.int .i64 fr) ∧ W.cell? ⟨ba, 2, none⟩ = some (.int .i64 tt) ∧ W.cell? ⟨ba, 3, none⟩ = some (.int .i64 pl) ∧ W.cell? ⟨ba, 4, none⟩ = some (.string tx)) → Calls Try.prog 30 #[.pointer (some ⟨bn, 0, none⟩), .int .i64 fr, .int .i64 tt, .int .i64 pl] W fun e w' => e = .returned (.int .i64 7) ∧ (NN w w' ba bn kd fr tt pl tx ∧ w'.cell? ⟨ba, 1, none⟩ = some (.int .i64 fr) ∧ w'.cell? ⟨ba, 2, none⟩ = some (.int .i64 tt) ∧ w'.cell? ⟨ba, 3, none⟩ = some (.int .i64 pl) ∧ w'.cell? ⟨ba, 4, none⟩ = some (.string tx))) := fun W hS => (n_twin W bn 0 L0 hS.1.hn fr tt pl).mono fun e w' h => ⟨by have := h.1; rw [twin0] at this; exact this, hTo _ (hS.1.act h.2 (by rw [twin0]))⟩
  have H74 : Hid (∀ W : World, (NN w W ba bn kd fr tt pl tx ∧ W.cell? ⟨ba, 1, none⟩ = some (.int .i64 fr) ∧ W.cell? ⟨ba, 2, none⟩ = some (.int .i64 tt) ∧ W.cell? ⟨ba, 3, none⟩ = some (.int .i64 pl) ∧ W.cell? ⟨ba, 4, none⟩ = some (.string tx)) → Calls Try.prog 33 #[.pointer none, .int .i64 fr, .int .i64 tt] W fun e w' => e = .returned (.int .i64 0) ∧ (NN w w' ba bn kd fr tt pl tx ∧ w'.cell? ⟨ba, 1, none⟩ = some (.int .i64 fr) ∧ w'.cell? ⟨ba, 2, none⟩ = some (.int .i64 tt) ∧ w'.cell? ⟨ba, 3, none⟩ = some (.int .i64 pl) ∧ w'.cell? ⟨ba, 4, none⟩ = some (.string tx))) := fun W hS => (n_len_nil W fr tt).mono fun e w' h => ⟨h.1, h.2 ▸ hS⟩
  have H80 : Hid (∀ W : World, (NN w W ba bn kd fr tt pl tx ∧ W.cell? ⟨ba, 1, none⟩ = some (.int .i64 fr) ∧ W.cell? ⟨ba, 2, none⟩ = some (.int .i64 tt) ∧ W.cell? ⟨ba, 3, none⟩ = some (.int .i64 pl) ∧ W.cell? ⟨ba, 4, none⟩ = some (.string tx)) → Calls Try.prog 33 #[.pointer (some ⟨bn, 0, none⟩), .int .i64 fr, .int .i64 tt] W fun e w' => e = .returned (.int .i64 0) ∧ (NN w w' ba bn kd fr tt pl tx ∧ w'.cell? ⟨ba, 1, none⟩ = some (.int .i64 fr) ∧ w'.cell? ⟨ba, 2, none⟩ = some (.int .i64 tt) ∧ w'.cell? ⟨ba, 3, none⟩ = some (.int .i64 pl) ∧ w'.cell? ⟨ba, 4, none⟩ = some (.string tx))) := fun W hS => (n_len W bn 0 L0 hS.1.hn fr tt).mono fun e w' h => ⟨by have := h.1; rw [len0] at this; exact this, h.2 ▸ hS⟩
  have H83 : Hid (∀ W : World, (NN w W ba bn kd fr tt pl tx ∧ W.cell? ⟨ba, 1, none⟩ = some (.int .i64 fr) ∧ W.cell? ⟨ba, 2, none⟩ = some (.int .i64 tt) ∧ W.cell? ⟨ba, 3, none⟩ = some (.int .i64 pl) ∧ W.cell? ⟨ba, 4, none⟩ = some (.string tx)) → Calls Try.prog 34 #[.pointer none] W fun e w' => e = .returned (.int .i64 0) ∧ (NN w w' ba bn kd fr tt pl tx ∧ w'.cell? ⟨ba, 1, none⟩ = some (.int .i64 fr) ∧ w'.cell? ⟨ba, 2, none⟩ = some (.int .i64 tt) ∧ w'.cell? ⟨ba, 3, none⟩ = some (.int .i64 pl) ∧ w'.cell? ⟨ba, 4, none⟩ = some (.string tx))) := fun W hS => (total_nil W).mono fun e w' h => ⟨h.1, hTo _ (hS.1.calm h.2)⟩
  have H86 : Hid (∀ W : World, (NN w W ba bn kd fr tt pl tx ∧ W.cell? ⟨ba, 1, none⟩ = some (.int .i64 fr) ∧ W.cell? ⟨ba, 2, none⟩ = some (.int .i64 tt) ∧ W.cell? ⟨ba, 3, none⟩ = some (.int .i64 pl) ∧ W.cell? ⟨ba, 4, none⟩ = some (.string tx)) → Calls Try.prog 34 #[.pointer (some ⟨bn, 0, none⟩)] W fun e w' => e = .returned (.int .i64 0) ∧ (NN w w' ba bn kd fr tt pl tx ∧ w'.cell? ⟨ba, 1, none⟩ = some (.int .i64 fr) ∧ w'.cell? ⟨ba, 2, none⟩ = some (.int .i64 tt) ∧ w'.cell? ⟨ba, 3, none⟩ = some (.int .i64 pl) ∧ w'.cell? ⟨ba, 4, none⟩ = some (.string tx))) := fun W hS => (total_ok W bn 0 L0 hS.1.hn).mono fun e w' h => ⟨h.1, hTo _ (hS.1.calm h.2)⟩
  have H89 : Hid (∀ W : World, (NN w W ba bn kd fr tt pl tx ∧ W.cell? ⟨ba, 1, none⟩ = some (.int .i64 fr) ∧ W.cell? ⟨ba, 2, none⟩ = some (.int .i64 tt) ∧ W.cell? ⟨ba, 3, none⟩ = some (.int .i64 pl) ∧ W.cell? ⟨ba, 4, none⟩ = some (.string tx)) → Calls Try.prog 37 #[.pointer none] W fun e w' => e = .returned (.slice none 0 0) ∧ (NN w w' ba bn kd fr tt pl tx ∧ w'.cell? ⟨ba, 1, none⟩ = some (.int .i64 fr) ∧ w'.cell? ⟨ba, 2, none⟩ = some (.int .i64 tt) ∧ w'.cell? ⟨ba, 3, none⟩ = some (.int .i64 pl) ∧ w'.cell? ⟨ba, 4, none⟩ = some (.string tx))) := fun W hS => (links_nil W).mono fun e w' h => ⟨h.1, hTo _ (hS.1.calm h.2)⟩
  have H99 : Hid (∀ W : World, (NN w W ba bn kd fr tt pl tx ∧ W.cell? ⟨ba, 1, none⟩ = some (.int .i64 fr) ∧ W.cell? ⟨ba, 2, none⟩ = some (.int .i64 tt) ∧ W.cell? ⟨ba, 3, none⟩ = some (.int .i64 pl) ∧ W.cell? ⟨ba, 4, none⟩ = some (.string tx)) → Calls Try.prog 23 #[] W fun e w' => e = .returned (.bool true) ∧ (NN w w' ba bn kd fr tt pl tx ∧ w'.cell? ⟨ba, 1, none⟩ = some (.int .i64 fr) ∧ w'.cell? ⟨ba, 2, none⟩ = some (.int .i64 tt) ∧ w'.cell? ⟨ba, 3, none⟩ = some (.int .i64 pl) ∧ w'.cell? ⟨ba, 4, none⟩ = some (.string tx))) := fun W hS => (awake37 W).mono fun e w' h => ⟨h.1, hTo _ (hS.1.calm h.2)⟩
  have H93 : Hid (∀ W : World, (NN w W ba bn kd fr tt pl tx ∧ W.cell? ⟨ba, 1, none⟩ = some (.int .i64 fr) ∧ W.cell? ⟨ba, 2, none⟩ = some (.int .i64 tt) ∧ W.cell? ⟨ba, 3, none⟩ = some (.int .i64 pl) ∧ W.cell? ⟨ba, 4, none⟩ = some (.string tx)) → Calls Try.prog 37 #[.pointer (some ⟨bn, 0, none⟩)] W fun e w' => (∃ A c, e = .returned (.slice A 0 c)) ∧ (NN w w' ba bn kd fr tt pl tx ∧ w'.cell? ⟨ba, 1, none⟩ = some (.int .i64 fr) ∧ w'.cell? ⟨ba, 2, none⟩ = some (.int .i64 tt) ∧ w'.cell? ⟨ba, 3, none⟩ = some (.int .i64 pl) ∧ w'.cell? ⟨ba, 4, none⟩ = some (.string tx))) := fun W hS => (links_ok W bn 0 L0 hS.1.hn).mono fun e w' h => by
    obtain ⟨u, rfl, hown, hB⟩ := h
    rw [show (busy 0 L0 (allL 0)).length = 0 from rfl] at hown
    obtain ⟨A, c, rfl⟩ := own_slice hown
    exact ⟨⟨A, c, rfl⟩, hTo _ (hS.1.calm hB)⟩
  have hSd : NN w w1.drew ba bn kd fr tt pl tx ∧ w1.drew.cell? ⟨ba, 1, none⟩ = some (.int .i64 fr) ∧ w1.drew.cell? ⟨ba, 2, none⟩ = some (.int .i64 tt) ∧ w1.drew.cell? ⟨ba, 3, none⟩ = some (.int .i64 pl) ∧ w1.drew.cell? ⟨ba, 4, none⟩ = some (.string tx) := hTo _ (HN.out.calm (Below.refl w1.heap.size w1).drew)
  clear HN hTo
  refine wp_region_held_drew (S := fun W : World => NN w W ba bn kd fr tt pl tx ∧ W.cell? ⟨ba, 1, none⟩ = some (.int .i64 fr) ∧ W.cell? ⟨ba, 2, none⟩ = some (.int .i64 tt) ∧ W.cell? ⟨ba, 3, none⟩ = some (.int .i64 pl) ∧ W.cell? ⟨ba, 4, none⟩ = some (.string tx)) (by kernel_rfl) hSd (fun hHeld => ?_)
  clear hSd
  as_aux_lemma =>
    refine wpAnyH_take (i := 0) (v := .int .i64 7) (by simp only [List.getElem?_toArray]; exact rfl) (by kernel_rfl) (by kernel_rfl) (by kernel_rfl) (by intro c a w h; exact h) (Or.inl ⟨by rfl, ?_⟩) (by assumption) ?_
    · intro W hSw
      go_simp
    try simp only [Act.put, List.setIfInBounds_toArray, List.set_cons_zero, List.set_cons_succ]
    refine wpAnyH_take (i := 1) (v := .bool true) (by simp only [List.getElem?_toArray]; exact rfl) (by kernel_rfl) (by kernel_rfl) (by kernel_rfl) (by intro c a w h; exact h) (Or.inl ⟨by rfl, ?_⟩) (by assumption) ?_
    · intro W hSw
      go_simp
    try simp only [Act.put, List.setIfInBounds_toArray, List.set_cons_zero, List.set_cons_succ]
    refine wpAnyH_take (i := 2) (v := .bool true) (by simp only [List.getElem?_toArray]; exact rfl) (by kernel_rfl) (by kernel_rfl) (by kernel_rfl) (by intro c a w h; exact h) (Or.inl ⟨by rfl, ?_⟩) (by assumption) ?_
    · intro W hSw
      go_simp
    try simp only [Act.put, List.setIfInBounds_toArray, List.set_cons_zero, List.set_cons_succ]
    refine wpAnyH_take (i := 3) (v := .int .i64 7) (by simp only [List.getElem?_toArray]; exact rfl) (by kernel_rfl) (by kernel_rfl) (by kernel_rfl) (by intro c a w h; exact h) (Or.inl ⟨by rfl, ?_⟩) (by assumption) ?_
    · intro W hSw
      go_simp
    try simp only [Act.put, List.setIfInBounds_toArray, List.set_cons_zero, List.set_cons_succ]
    refine wpAnyH_take (i := 4) (v := .bool true) (by simp only [List.getElem?_toArray]; exact rfl) (by kernel_rfl) (by kernel_rfl) (by kernel_rfl) (by intro c a w h; exact h) (Or.inl ⟨by rfl, ?_⟩) (by assumption) ?_
    · intro W hSw
      go_simp
    try simp only [Act.put, List.setIfInBounds_toArray, List.set_cons_zero, List.set_cons_succ]
    refine wpAnyH_take (i := 5) (v := .bool true) (by simp only [List.getElem?_toArray]; exact rfl) (by kernel_rfl) (by kernel_rfl) (by kernel_rfl) (by intro c a w h; exact h) (Or.inl ⟨by rfl, ?_⟩) (by assumption) ?_
    · intro W hSw
      go_simp
    try simp only [Act.put, List.setIfInBounds_toArray, List.set_cons_zero, List.set_cons_succ]
    refine wpAnyH_take (i := 6) (v := .bool true) (by simp only [List.getElem?_toArray]; exact rfl) (by kernel_rfl) (by kernel_rfl) (by kernel_rfl) (by intro c a w h; exact h) (Or.inl ⟨by rfl, ?_⟩) (by assumption) ?_
    · intro W hSw
      go_simp
    try simp only [Act.put, List.setIfInBounds_toArray, List.set_cons_zero, List.set_cons_succ]
    refine wpAnyH_take (i := 7) (v := .pointer none) (by simp only [List.getElem?_toArray]; exact rfl) (by kernel_rfl) (by kernel_rfl) (by kernel_rfl) (by intro c a w h; exact h) (Or.inl ⟨by rfl, ?_⟩) (by assumption) ?_
    · intro W hSw
      go_simp
    try simp only [Act.put, List.setIfInBounds_toArray, List.set_cons_zero, List.set_cons_succ]
    refine wpAnyH_take (i := 8) (v := .pointer (some ⟨ba, 1, none⟩)) (by simp only [List.getElem?_toArray]; exact rfl) (by kernel_rfl) (by kernel_rfl) (by kernel_rfl) (by intro c a w h; exact h) (Or.inl ⟨by rfl, ?_⟩) (by assumption) ?_
    · intro W hSw
      go_simp
    try simp only [Act.put, List.setIfInBounds_toArray, List.set_cons_zero, List.set_cons_succ]
    refine wpAnyH_take (i := 9) (v := .int .i64 fr) (by simp only [List.getElem?_toArray]; exact rfl) (by kernel_rfl) (by kernel_rfl) (by kernel_rfl) (by intro c a w h; exact h) (Or.inl ⟨by rfl, ?_⟩) (by assumption) ?_
    · intro W hSw
      go_simp
    try simp only [Act.put, List.setIfInBounds_toArray, List.set_cons_zero, List.set_cons_succ]
    refine wpAnyH_take (i := 10) (v := .pointer (some ⟨ba, 2, none⟩)) (by simp only [List.getElem?_toArray]; exact rfl) (by kernel_rfl) (by kernel_rfl) (by kernel_rfl) (by intro c a w h; exact h) (Or.inl ⟨by rfl, ?_⟩) (by assumption) ?_
    · intro W hSw
      go_simp
    try simp only [Act.put, List.setIfInBounds_toArray, List.set_cons_zero, List.set_cons_succ]
    refine wpAnyH_take (i := 11) (v := .int .i64 tt) (by simp only [List.getElem?_toArray]; exact rfl) (by kernel_rfl) (by kernel_rfl) (by kernel_rfl) (by intro c a w h; exact h) (Or.inl ⟨by rfl, ?_⟩) (by assumption) ?_
    · intro W hSw
      go_simp
    try simp only [Act.put, List.setIfInBounds_toArray, List.set_cons_zero, List.set_cons_succ]
    refine wpAnyH_ready (rs := [12]) (by kernel_rfl) (by simp) ?_
    refine AllReadyH.cons (by simp only [List.getElem?_toArray]; exact rfl) (fun K9 hK9 => ?_) AllReadyH.nil
    go_simp
    go_at_call 36
    refine (H12.out _ (by assumption)).mono ?_
    rintro e u12 ⟨rfl, hN9⟩
    clear hHeld
    go_simp
    refine hK9.out _ _ hN9 (fun hHeld => ?_)
    clear hK9 K9 hN9
    try simp only [Act.put, List.setIfInBounds_toArray, List.set_cons_zero, List.set_cons_succ]
    refine wpAnyH_take (i := 13) (v := .bool true) (by simp only [List.getElem?_toArray]; exact rfl) (by kernel_rfl) (by kernel_rfl) (by kernel_rfl) (by intro c a w h; exact h) (Or.inl ⟨by rfl, ?_⟩) (by assumption) ?_
    · intro W hSw
      go_simp
    try simp only [Act.put, List.setIfInBounds_toArray, List.set_cons_zero, List.set_cons_succ]
    refine wpAnyH_take (i := 14) (v := .bool true) (by simp only [List.getElem?_toArray]; exact rfl) (by kernel_rfl) (by kernel_rfl) (by kernel_rfl) (by intro c a w h; exact h) (Or.inl ⟨by rfl, ?_⟩) (by assumption) ?_
    · intro W hSw
      go_simp
    try simp only [Act.put, List.setIfInBounds_toArray, List.set_cons_zero, List.set_cons_succ]
    refine wpAnyH_take (i := 15) (v := .bool true) (by simp only [List.getElem?_toArray]; exact rfl) (by kernel_rfl) (by kernel_rfl) (by kernel_rfl) (by intro c a w h; exact h) (Or.inl ⟨by rfl, ?_⟩) (by assumption) ?_
    · intro W hSw
      go_simp
    try simp only [Act.put, List.setIfInBounds_toArray, List.set_cons_zero, List.set_cons_succ]
    refine wpAnyH_take (i := 16) (v := .pointer (some ⟨bn, 0, none⟩)) (by simp only [List.getElem?_toArray]; exact rfl) (by kernel_rfl) (by kernel_rfl) (by kernel_rfl) (by intro c a w h; exact h) (Or.inl ⟨by rfl, ?_⟩) (by assumption) ?_
    · intro W hSw
      go_simp
    try simp only [Act.put, List.setIfInBounds_toArray, List.set_cons_zero, List.set_cons_succ]
    as_aux_lemma =>
      refine wpAnyH_take (i := 17) (v := .pointer (some ⟨ba, 1, none⟩)) (by simp only [List.getElem?_toArray]; exact rfl) (by kernel_rfl) (by kernel_rfl) (by kernel_rfl) (by intro c a w h; exact h) (Or.inl ⟨by rfl, ?_⟩) (by assumption) ?_
      · intro W hSw
        go_simp
      try simp only [Act.put, List.setIfInBounds_toArray, List.set_cons_zero, List.set_cons_succ]
      refine wpAnyH_take (i := 18) (v := .int .i64 fr) (by simp only [List.getElem?_toArray]; exact rfl) (by kernel_rfl) (by kernel_rfl) (by kernel_rfl) (by intro c a w h; exact h) (Or.inl ⟨by rfl, ?_⟩) (by assumption) ?_
      · intro W hSw
        go_simp
      try simp only [Act.put, List.setIfInBounds_toArray, List.set_cons_zero, List.set_cons_succ]
      refine wpAnyH_take (i := 19) (v := .pointer (some ⟨ba, 2, none⟩)) (by simp only [List.getElem?_toArray]; exact rfl) (by kernel_rfl) (by kernel_rfl) (by kernel_rfl) (by intro c a w h; exact h) (Or.inl ⟨by rfl, ?_⟩) (by assumption) ?_
      · intro W hSw
        go_simp
      try simp only [Act.put, List.setIfInBounds_toArray, List.set_cons_zero, List.set_cons_succ]
      refine wpAnyH_take (i := 20) (v := .int .i64 tt) (by simp only [List.getElem?_toArray]; exact rfl) (by kernel_rfl) (by kernel_rfl) (by kernel_rfl) (by intro c a w h; exact h) (Or.inl ⟨by rfl, ?_⟩) (by assumption) ?_
      · intro W hSw
        go_simp
      try simp only [Act.put, List.setIfInBounds_toArray, List.set_cons_zero, List.set_cons_succ]
      refine wpAnyH_ready (rs := [21]) (by kernel_rfl) (by simp) ?_
      refine AllReadyH.cons (by simp only [List.getElem?_toArray]; exact rfl) (fun K9 hK9 => ?_) AllReadyH.nil
      go_simp
      go_at_call 36
      refine (H21.out _ (by assumption)).mono ?_
      rintro e u21 ⟨rfl, hN9⟩
      clear hHeld
      go_simp
      refine hK9.out _ _ hN9 (fun hHeld => ?_)
      clear hK9 K9 hN9
      try simp only [Act.put, List.setIfInBounds_toArray, List.set_cons_zero, List.set_cons_succ]
      refine wpAnyH_take (i := 22) (v := .bool true) (by simp only [List.getElem?_toArray]; exact rfl) (by kernel_rfl) (by kernel_rfl) (by kernel_rfl) (by intro c a w h; exact h) (Or.inl ⟨by rfl, ?_⟩) (by assumption) ?_
      · intro W hSw
        go_simp
      try simp only [Act.put, List.setIfInBounds_toArray, List.set_cons_zero, List.set_cons_succ]
      refine wpAnyH_take (i := 23) (v := .bool true) (by simp only [List.getElem?_toArray]; exact rfl) (by kernel_rfl) (by kernel_rfl) (by kernel_rfl) (by intro c a w h; exact h) (Or.inl ⟨by rfl, ?_⟩) (by assumption) ?_
      · intro W hSw
        go_simp
      try simp only [Act.put, List.setIfInBounds_toArray, List.set_cons_zero, List.set_cons_succ]
      refine wpAnyH_take (i := 24) (v := .bool true) (by simp only [List.getElem?_toArray]; exact rfl) (by kernel_rfl) (by kernel_rfl) (by kernel_rfl) (by intro c a w h; exact h) (Or.inl ⟨by rfl, ?_⟩) (by assumption) ?_
      · intro W hSw
        go_simp
      try simp only [Act.put, List.setIfInBounds_toArray, List.set_cons_zero, List.set_cons_succ]
      refine wpAnyH_take (i := 25) (v := .pointer none) (by simp only [List.getElem?_toArray]; exact rfl) (by kernel_rfl) (by kernel_rfl) (by kernel_rfl) (by intro c a w h; exact h) (Or.inl ⟨by rfl, ?_⟩) (by assumption) ?_
      · intro W hSw
        go_simp
      try simp only [Act.put, List.setIfInBounds_toArray, List.set_cons_zero, List.set_cons_succ]
      refine wpAnyH_take (i := 26) (v := .pointer (some ⟨ba, 1, none⟩)) (by simp only [List.getElem?_toArray]; exact rfl) (by kernel_rfl) (by kernel_rfl) (by kernel_rfl) (by intro c a w h; exact h) (Or.inl ⟨by rfl, ?_⟩) (by assumption) ?_
      · intro W hSw
        go_simp
      try simp only [Act.put, List.setIfInBounds_toArray, List.set_cons_zero, List.set_cons_succ]
      refine wpAnyH_take (i := 27) (v := .int .i64 fr) (by simp only [List.getElem?_toArray]; exact rfl) (by kernel_rfl) (by kernel_rfl) (by kernel_rfl) (by intro c a w h; exact h) (Or.inl ⟨by rfl, ?_⟩) (by assumption) ?_
      · intro W hSw
        go_simp
      try simp only [Act.put, List.setIfInBounds_toArray, List.set_cons_zero, List.set_cons_succ]
      refine wpAnyH_take (i := 28) (v := .pointer (some ⟨ba, 2, none⟩)) (by simp only [List.getElem?_toArray]; exact rfl) (by kernel_rfl) (by kernel_rfl) (by kernel_rfl) (by intro c a w h; exact h) (Or.inl ⟨by rfl, ?_⟩) (by assumption) ?_
      · intro W hSw
        go_simp
      try simp only [Act.put, List.setIfInBounds_toArray, List.set_cons_zero, List.set_cons_succ]
      refine wpAnyH_take (i := 29) (v := .int .i64 tt) (by simp only [List.getElem?_toArray]; exact rfl) (by kernel_rfl) (by kernel_rfl) (by kernel_rfl) (by intro c a w h; exact h) (Or.inl ⟨by rfl, ?_⟩) (by assumption) ?_
      · intro W hSw
        go_simp
      try simp only [Act.put, List.setIfInBounds_toArray, List.set_cons_zero, List.set_cons_succ]
      refine wpAnyH_take (i := 30) (v := .pointer (some ⟨ba, 4, none⟩)) (by simp only [List.getElem?_toArray]; exact rfl) (by kernel_rfl) (by kernel_rfl) (by kernel_rfl) (by intro c a w h; exact h) (Or.inl ⟨by rfl, ?_⟩) (by assumption) ?_
      · intro W hSw
        go_simp
      try simp only [Act.put, List.setIfInBounds_toArray, List.set_cons_zero, List.set_cons_succ]
      refine wpAnyH_take (i := 31) (v := .string tx) (by simp only [List.getElem?_toArray]; exact rfl) (by kernel_rfl) (by kernel_rfl) (by kernel_rfl) (by intro c a w h; exact h) (Or.inl ⟨by rfl, ?_⟩) (by assumption) ?_
      · intro W hSw
        go_simp
      try simp only [Act.put, List.setIfInBounds_toArray, List.set_cons_zero, List.set_cons_succ]
      refine wpAnyH_ready (rs := [32]) (by kernel_rfl) (by simp) ?_
      refine AllReadyH.cons (by simp only [List.getElem?_toArray]; exact rfl) (fun K9 hK9 => ?_) AllReadyH.nil
      go_simp
      go_at_call 26
      refine (H32.out _ (by assumption)).mono ?_
      rintro e u32 ⟨rfl, hN9⟩
      clear hHeld
      go_simp
      refine hK9.out _ _ hN9 (fun hHeld => ?_)
      clear hK9 K9 hN9
      try simp only [Act.put, List.setIfInBounds_toArray, List.set_cons_zero, List.set_cons_succ]
      refine wpAnyH_take (i := 33) (v := .bool true) (by simp only [List.getElem?_toArray]; exact rfl) (by kernel_rfl) (by kernel_rfl) (by kernel_rfl) (by intro c a w h; exact h) (Or.inl ⟨by rfl, ?_⟩) (by assumption) ?_
      · intro W hSw
        go_simp
      try simp only [Act.put, List.setIfInBounds_toArray, List.set_cons_zero, List.set_cons_succ]
      as_aux_lemma =>
        refine wpAnyH_take (i := 34) (v := .bool true) (by simp only [List.getElem?_toArray]; exact rfl) (by kernel_rfl) (by kernel_rfl) (by kernel_rfl) (by intro c a w h; exact h) (Or.inl ⟨by rfl, ?_⟩) (by assumption) ?_
        · intro W hSw
          go_simp
        try simp only [Act.put, List.setIfInBounds_toArray, List.set_cons_zero, List.set_cons_succ]
        refine wpAnyH_take (i := 35) (v := .bool true) (by simp only [List.getElem?_toArray]; exact rfl) (by kernel_rfl) (by kernel_rfl) (by kernel_rfl) (by intro c a w h; exact h) (Or.inl ⟨by rfl, ?_⟩) (by assumption) ?_
        · intro W hSw
          go_simp
        try simp only [Act.put, List.setIfInBounds_toArray, List.set_cons_zero, List.set_cons_succ]
        refine wpAnyH_take (i := 36) (v := .pointer (some ⟨bn, 0, none⟩)) (by simp only [List.getElem?_toArray]; exact rfl) (by kernel_rfl) (by kernel_rfl) (by kernel_rfl) (by intro c a w h; exact h) (Or.inl ⟨by rfl, ?_⟩) (by assumption) ?_
        · intro W hSw
          go_simp
        try simp only [Act.put, List.setIfInBounds_toArray, List.set_cons_zero, List.set_cons_succ]
        refine wpAnyH_take (i := 37) (v := .pointer (some ⟨ba, 1, none⟩)) (by simp only [List.getElem?_toArray]; exact rfl) (by kernel_rfl) (by kernel_rfl) (by kernel_rfl) (by intro c a w h; exact h) (Or.inl ⟨by rfl, ?_⟩) (by assumption) ?_
        · intro W hSw
          go_simp
        try simp only [Act.put, List.setIfInBounds_toArray, List.set_cons_zero, List.set_cons_succ]
        refine wpAnyH_take (i := 38) (v := .int .i64 fr) (by simp only [List.getElem?_toArray]; exact rfl) (by kernel_rfl) (by kernel_rfl) (by kernel_rfl) (by intro c a w h; exact h) (Or.inl ⟨by rfl, ?_⟩) (by assumption) ?_
        · intro W hSw
          go_simp
        try simp only [Act.put, List.setIfInBounds_toArray, List.set_cons_zero, List.set_cons_succ]
        refine wpAnyH_take (i := 39) (v := .pointer (some ⟨ba, 2, none⟩)) (by simp only [List.getElem?_toArray]; exact rfl) (by kernel_rfl) (by kernel_rfl) (by kernel_rfl) (by intro c a w h; exact h) (Or.inl ⟨by rfl, ?_⟩) (by assumption) ?_
        · intro W hSw
          go_simp
        try simp only [Act.put, List.setIfInBounds_toArray, List.set_cons_zero, List.set_cons_succ]
        refine wpAnyH_take (i := 40) (v := .int .i64 tt) (by simp only [List.getElem?_toArray]; exact rfl) (by kernel_rfl) (by kernel_rfl) (by kernel_rfl) (by intro c a w h; exact h) (Or.inl ⟨by rfl, ?_⟩) (by assumption) ?_
        · intro W hSw
          go_simp
        try simp only [Act.put, List.setIfInBounds_toArray, List.set_cons_zero, List.set_cons_succ]
        refine wpAnyH_take (i := 41) (v := .pointer (some ⟨ba, 4, none⟩)) (by simp only [List.getElem?_toArray]; exact rfl) (by kernel_rfl) (by kernel_rfl) (by kernel_rfl) (by intro c a w h; exact h) (Or.inl ⟨by rfl, ?_⟩) (by assumption) ?_
        · intro W hSw
          go_simp
        try simp only [Act.put, List.setIfInBounds_toArray, List.set_cons_zero, List.set_cons_succ]
        refine wpAnyH_take (i := 42) (v := .string tx) (by simp only [List.getElem?_toArray]; exact rfl) (by kernel_rfl) (by kernel_rfl) (by kernel_rfl) (by intro c a w h; exact h) (Or.inl ⟨by rfl, ?_⟩) (by assumption) ?_
        · intro W hSw
          go_simp
        try simp only [Act.put, List.setIfInBounds_toArray, List.set_cons_zero, List.set_cons_succ]
        refine wpAnyH_ready (rs := [43]) (by kernel_rfl) (by simp) ?_
        refine AllReadyH.cons (by simp only [List.getElem?_toArray]; exact rfl) (fun K9 hK9 => ?_) AllReadyH.nil
        go_simp
        go_at_call 26
        refine (H43.out _ (by assumption)).mono ?_
        rintro e u43 ⟨rfl, hN9⟩
        clear hHeld
        go_simp
        refine hK9.out _ _ hN9 (fun hHeld => ?_)
        clear hK9 K9 hN9
        try simp only [Act.put, List.setIfInBounds_toArray, List.set_cons_zero, List.set_cons_succ]
        refine wpAnyH_take (i := 44) (v := .bool true) (by simp only [List.getElem?_toArray]; exact rfl) (by kernel_rfl) (by kernel_rfl) (by kernel_rfl) (by intro c a w h; exact h) (Or.inl ⟨by rfl, ?_⟩) (by assumption) ?_
        · intro W hSw
          go_simp
        try simp only [Act.put, List.setIfInBounds_toArray, List.set_cons_zero, List.set_cons_succ]
        refine wpAnyH_take (i := 45) (v := .bool true) (by simp only [List.getElem?_toArray]; exact rfl) (by kernel_rfl) (by kernel_rfl) (by kernel_rfl) (by intro c a w h; exact h) (Or.inl ⟨by rfl, ?_⟩) (by assumption) ?_
        · intro W hSw
          go_simp
        try simp only [Act.put, List.setIfInBounds_toArray, List.set_cons_zero, List.set_cons_succ]
        refine wpAnyH_take (i := 46) (v := .bool true) (by simp only [List.getElem?_toArray]; exact rfl) (by kernel_rfl) (by kernel_rfl) (by kernel_rfl) (by intro c a w h; exact h) (Or.inl ⟨by rfl, ?_⟩) (by assumption) ?_
        · intro W hSw
          go_simp
        try simp only [Act.put, List.setIfInBounds_toArray, List.set_cons_zero, List.set_cons_succ]
        refine wpAnyH_take (i := 47) (v := .pointer none) (by simp only [List.getElem?_toArray]; exact rfl) (by kernel_rfl) (by kernel_rfl) (by kernel_rfl) (by intro c a w h; exact h) (Or.inl ⟨by rfl, ?_⟩) (by assumption) ?_
        · intro W hSw
          go_simp
        try simp only [Act.put, List.setIfInBounds_toArray, List.set_cons_zero, List.set_cons_succ]
        refine wpAnyH_take (i := 48) (v := .pointer (some ⟨ba, 1, none⟩)) (by simp only [List.getElem?_toArray]; exact rfl) (by kernel_rfl) (by kernel_rfl) (by kernel_rfl) (by intro c a w h; exact h) (Or.inl ⟨by rfl, ?_⟩) (by assumption) ?_
        · intro W hSw
          go_simp
        try simp only [Act.put, List.setIfInBounds_toArray, List.set_cons_zero, List.set_cons_succ]
        refine wpAnyH_take (i := 49) (v := .int .i64 fr) (by simp only [List.getElem?_toArray]; exact rfl) (by kernel_rfl) (by kernel_rfl) (by kernel_rfl) (by intro c a w h; exact h) (Or.inl ⟨by rfl, ?_⟩) (by assumption) ?_
        · intro W hSw
          go_simp
        try simp only [Act.put, List.setIfInBounds_toArray, List.set_cons_zero, List.set_cons_succ]
        refine wpAnyH_take (i := 50) (v := .pointer (some ⟨ba, 2, none⟩)) (by simp only [List.getElem?_toArray]; exact rfl) (by kernel_rfl) (by kernel_rfl) (by kernel_rfl) (by intro c a w h; exact h) (Or.inl ⟨by rfl, ?_⟩) (by assumption) ?_
        · intro W hSw
          go_simp
        try simp only [Act.put, List.setIfInBounds_toArray, List.set_cons_zero, List.set_cons_succ]
        as_aux_lemma =>
          refine wpAnyH_take (i := 51) (v := .int .i64 tt) (by simp only [List.getElem?_toArray]; exact rfl) (by kernel_rfl) (by kernel_rfl) (by kernel_rfl) (by intro c a w h; exact h) (Or.inl ⟨by rfl, ?_⟩) (by assumption) ?_
          · intro W hSw
            go_simp
          try simp only [Act.put, List.setIfInBounds_toArray, List.set_cons_zero, List.set_cons_succ]
          refine wpAnyH_take (i := 52) (v := .pointer (some ⟨ba, 3, none⟩)) (by simp only [List.getElem?_toArray]; exact rfl) (by kernel_rfl) (by kernel_rfl) (by kernel_rfl) (by intro c a w h; exact h) (Or.inl ⟨by rfl, ?_⟩) (by assumption) ?_
          · intro W hSw
            go_simp
          try simp only [Act.put, List.setIfInBounds_toArray, List.set_cons_zero, List.set_cons_succ]
          refine wpAnyH_take (i := 53) (v := .int .i64 pl) (by simp only [List.getElem?_toArray]; exact rfl) (by kernel_rfl) (by kernel_rfl) (by kernel_rfl) (by intro c a w h; exact h) (Or.inl ⟨by rfl, ?_⟩) (by assumption) ?_
          · intro W hSw
            go_simp
          try simp only [Act.put, List.setIfInBounds_toArray, List.set_cons_zero, List.set_cons_succ]
          refine wpAnyH_ready (rs := [54]) (by kernel_rfl) (by simp) ?_
          refine AllReadyH.cons (by simp only [List.getElem?_toArray]; exact rfl) (fun K9 hK9 => ?_) AllReadyH.nil
          go_simp
          go_at_call 30
          refine (H54.out _ (by assumption)).mono ?_
          rintro e u54 ⟨rfl, hN9⟩
          clear hHeld
          go_simp
          refine hK9.out _ _ hN9 (fun hHeld => ?_)
          clear hK9 K9 hN9
          try simp only [Act.put, List.setIfInBounds_toArray, List.set_cons_zero, List.set_cons_succ]
          refine wpAnyH_take (i := 55) (v := .bool true) (by simp only [List.getElem?_toArray]; exact rfl) (by kernel_rfl) (by kernel_rfl) (by kernel_rfl) (by intro c a w h; exact h) (Or.inl ⟨by rfl, ?_⟩) (by assumption) ?_
          · intro W hSw
            go_simp
          try simp only [Act.put, List.setIfInBounds_toArray, List.set_cons_zero, List.set_cons_succ]
          refine wpAnyH_take (i := 56) (v := .bool true) (by simp only [List.getElem?_toArray]; exact rfl) (by kernel_rfl) (by kernel_rfl) (by kernel_rfl) (by intro c a w h; exact h) (Or.inl ⟨by rfl, ?_⟩) (by assumption) ?_
          · intro W hSw
            go_simp
          try simp only [Act.put, List.setIfInBounds_toArray, List.set_cons_zero, List.set_cons_succ]
          refine wpAnyH_take (i := 57) (v := .bool true) (by simp only [List.getElem?_toArray]; exact rfl) (by kernel_rfl) (by kernel_rfl) (by kernel_rfl) (by intro c a w h; exact h) (Or.inl ⟨by rfl, ?_⟩) (by assumption) ?_
          · intro W hSw
            go_simp
          try simp only [Act.put, List.setIfInBounds_toArray, List.set_cons_zero, List.set_cons_succ]
          refine wpAnyH_take (i := 58) (v := .pointer (some ⟨bn, 0, none⟩)) (by simp only [List.getElem?_toArray]; exact rfl) (by kernel_rfl) (by kernel_rfl) (by kernel_rfl) (by intro c a w h; exact h) (Or.inl ⟨by rfl, ?_⟩) (by assumption) ?_
          · intro W hSw
            go_simp
          try simp only [Act.put, List.setIfInBounds_toArray, List.set_cons_zero, List.set_cons_succ]
          refine wpAnyH_take (i := 59) (v := .pointer (some ⟨ba, 1, none⟩)) (by simp only [List.getElem?_toArray]; exact rfl) (by kernel_rfl) (by kernel_rfl) (by kernel_rfl) (by intro c a w h; exact h) (Or.inl ⟨by rfl, ?_⟩) (by assumption) ?_
          · intro W hSw
            go_simp
          try simp only [Act.put, List.setIfInBounds_toArray, List.set_cons_zero, List.set_cons_succ]
          refine wpAnyH_take (i := 60) (v := .int .i64 fr) (by simp only [List.getElem?_toArray]; exact rfl) (by kernel_rfl) (by kernel_rfl) (by kernel_rfl) (by intro c a w h; exact h) (Or.inl ⟨by rfl, ?_⟩) (by assumption) ?_
          · intro W hSw
            go_simp
          try simp only [Act.put, List.setIfInBounds_toArray, List.set_cons_zero, List.set_cons_succ]
          refine wpAnyH_take (i := 61) (v := .pointer (some ⟨ba, 2, none⟩)) (by simp only [List.getElem?_toArray]; exact rfl) (by kernel_rfl) (by kernel_rfl) (by kernel_rfl) (by intro c a w h; exact h) (Or.inl ⟨by rfl, ?_⟩) (by assumption) ?_
          · intro W hSw
            go_simp
          try simp only [Act.put, List.setIfInBounds_toArray, List.set_cons_zero, List.set_cons_succ]
          refine wpAnyH_take (i := 62) (v := .int .i64 tt) (by simp only [List.getElem?_toArray]; exact rfl) (by kernel_rfl) (by kernel_rfl) (by kernel_rfl) (by intro c a w h; exact h) (Or.inl ⟨by rfl, ?_⟩) (by assumption) ?_
          · intro W hSw
            go_simp
          try simp only [Act.put, List.setIfInBounds_toArray, List.set_cons_zero, List.set_cons_succ]
          refine wpAnyH_take (i := 63) (v := .pointer (some ⟨ba, 3, none⟩)) (by simp only [List.getElem?_toArray]; exact rfl) (by kernel_rfl) (by kernel_rfl) (by kernel_rfl) (by intro c a w h; exact h) (Or.inl ⟨by rfl, ?_⟩) (by assumption) ?_
          · intro W hSw
            go_simp
          try simp only [Act.put, List.setIfInBounds_toArray, List.set_cons_zero, List.set_cons_succ]
          refine wpAnyH_take (i := 64) (v := .int .i64 pl) (by simp only [List.getElem?_toArray]; exact rfl) (by kernel_rfl) (by kernel_rfl) (by kernel_rfl) (by intro c a w h; exact h) (Or.inl ⟨by rfl, ?_⟩) (by assumption) ?_
          · intro W hSw
            go_simp
          try simp only [Act.put, List.setIfInBounds_toArray, List.set_cons_zero, List.set_cons_succ]
          refine wpAnyH_ready (rs := [65]) (by kernel_rfl) (by simp) ?_
          refine AllReadyH.cons (by simp only [List.getElem?_toArray]; exact rfl) (fun K9 hK9 => ?_) AllReadyH.nil
          go_simp
          go_at_call 30
          refine (H65.out _ (by assumption)).mono ?_
          rintro e u65 ⟨rfl, hN9⟩
          clear hHeld
          go_simp
          refine hK9.out _ _ hN9 (fun hHeld => ?_)
          clear hK9 K9 hN9
          try simp only [Act.put, List.setIfInBounds_toArray, List.set_cons_zero, List.set_cons_succ]
          refine wpAnyH_take (i := 66) (v := .bool true) (by simp only [List.getElem?_toArray]; exact rfl) (by kernel_rfl) (by kernel_rfl) (by kernel_rfl) (by intro c a w h; exact h) (Or.inl ⟨by rfl, ?_⟩) (by assumption) ?_
          · intro W hSw
            go_simp
          try simp only [Act.put, List.setIfInBounds_toArray, List.set_cons_zero, List.set_cons_succ]
          refine wpAnyH_take (i := 67) (v := .bool true) (by simp only [List.getElem?_toArray]; exact rfl) (by kernel_rfl) (by kernel_rfl) (by kernel_rfl) (by intro c a w h; exact h) (Or.inl ⟨by rfl, ?_⟩) (by assumption) ?_
          · intro W hSw
            go_simp
          try simp only [Act.put, List.setIfInBounds_toArray, List.set_cons_zero, List.set_cons_succ]
          as_aux_lemma =>
            refine wpAnyH_take (i := 68) (v := .bool true) (by simp only [List.getElem?_toArray]; exact rfl) (by kernel_rfl) (by kernel_rfl) (by kernel_rfl) (by intro c a w h; exact h) (Or.inl ⟨by rfl, ?_⟩) (by assumption) ?_
            · intro W hSw
              go_simp
            try simp only [Act.put, List.setIfInBounds_toArray, List.set_cons_zero, List.set_cons_succ]
            refine wpAnyH_take (i := 69) (v := .pointer none) (by simp only [List.getElem?_toArray]; exact rfl) (by kernel_rfl) (by kernel_rfl) (by kernel_rfl) (by intro c a w h; exact h) (Or.inl ⟨by rfl, ?_⟩) (by assumption) ?_
            · intro W hSw
              go_simp
            try simp only [Act.put, List.setIfInBounds_toArray, List.set_cons_zero, List.set_cons_succ]
            refine wpAnyH_take (i := 70) (v := .pointer (some ⟨ba, 1, none⟩)) (by simp only [List.getElem?_toArray]; exact rfl) (by kernel_rfl) (by kernel_rfl) (by kernel_rfl) (by intro c a w h; exact h) (Or.inl ⟨by rfl, ?_⟩) (by assumption) ?_
            · intro W hSw
              go_simp
            try simp only [Act.put, List.setIfInBounds_toArray, List.set_cons_zero, List.set_cons_succ]
            refine wpAnyH_take (i := 71) (v := .int .i64 fr) (by simp only [List.getElem?_toArray]; exact rfl) (by kernel_rfl) (by kernel_rfl) (by kernel_rfl) (by intro c a w h; exact h) (Or.inl ⟨by rfl, ?_⟩) (by assumption) ?_
            · intro W hSw
              go_simp
            try simp only [Act.put, List.setIfInBounds_toArray, List.set_cons_zero, List.set_cons_succ]
            refine wpAnyH_take (i := 72) (v := .pointer (some ⟨ba, 2, none⟩)) (by simp only [List.getElem?_toArray]; exact rfl) (by kernel_rfl) (by kernel_rfl) (by kernel_rfl) (by intro c a w h; exact h) (Or.inl ⟨by rfl, ?_⟩) (by assumption) ?_
            · intro W hSw
              go_simp
            try simp only [Act.put, List.setIfInBounds_toArray, List.set_cons_zero, List.set_cons_succ]
            refine wpAnyH_take (i := 73) (v := .int .i64 tt) (by simp only [List.getElem?_toArray]; exact rfl) (by kernel_rfl) (by kernel_rfl) (by kernel_rfl) (by intro c a w h; exact h) (Or.inl ⟨by rfl, ?_⟩) (by assumption) ?_
            · intro W hSw
              go_simp
            try simp only [Act.put, List.setIfInBounds_toArray, List.set_cons_zero, List.set_cons_succ]
            refine wpAnyH_take (i := 75) (v := .pointer (some ⟨bn, 0, none⟩)) (by simp only [List.getElem?_toArray]; exact rfl) (by kernel_rfl) (by kernel_rfl) (by kernel_rfl) (by intro c a w h; exact h) (Or.inl ⟨by rfl, ?_⟩) (by assumption) ?_
            · intro W hSw
              go_simp
            try simp only [Act.put, List.setIfInBounds_toArray, List.set_cons_zero, List.set_cons_succ]
            refine wpAnyH_take (i := 76) (v := .pointer (some ⟨ba, 1, none⟩)) (by simp only [List.getElem?_toArray]; exact rfl) (by kernel_rfl) (by kernel_rfl) (by kernel_rfl) (by intro c a w h; exact h) (Or.inl ⟨by rfl, ?_⟩) (by assumption) ?_
            · intro W hSw
              go_simp
            try simp only [Act.put, List.setIfInBounds_toArray, List.set_cons_zero, List.set_cons_succ]
            refine wpAnyH_take (i := 77) (v := .int .i64 fr) (by simp only [List.getElem?_toArray]; exact rfl) (by kernel_rfl) (by kernel_rfl) (by kernel_rfl) (by intro c a w h; exact h) (Or.inl ⟨by rfl, ?_⟩) (by assumption) ?_
            · intro W hSw
              go_simp
            try simp only [Act.put, List.setIfInBounds_toArray, List.set_cons_zero, List.set_cons_succ]
            refine wpAnyH_take (i := 78) (v := .pointer (some ⟨ba, 2, none⟩)) (by simp only [List.getElem?_toArray]; exact rfl) (by kernel_rfl) (by kernel_rfl) (by kernel_rfl) (by intro c a w h; exact h) (Or.inl ⟨by rfl, ?_⟩) (by assumption) ?_
            · intro W hSw
              go_simp
            try simp only [Act.put, List.setIfInBounds_toArray, List.set_cons_zero, List.set_cons_succ]
            refine wpAnyH_take (i := 79) (v := .int .i64 tt) (by simp only [List.getElem?_toArray]; exact rfl) (by kernel_rfl) (by kernel_rfl) (by kernel_rfl) (by intro c a w h; exact h) (Or.inl ⟨by rfl, ?_⟩) (by assumption) ?_
            · intro W hSw
              go_simp
            try simp only [Act.put, List.setIfInBounds_toArray, List.set_cons_zero, List.set_cons_succ]
            refine wpAnyH_take (i := 82) (v := .pointer none) (by simp only [List.getElem?_toArray]; exact rfl) (by kernel_rfl) (by kernel_rfl) (by kernel_rfl) (by intro c a w h; exact h) (Or.inl ⟨by rfl, ?_⟩) (by assumption) ?_
            · intro W hSw
              go_simp
            try simp only [Act.put, List.setIfInBounds_toArray, List.set_cons_zero, List.set_cons_succ]
            refine wpAnyH_take (i := 85) (v := .pointer (some ⟨bn, 0, none⟩)) (by simp only [List.getElem?_toArray]; exact rfl) (by kernel_rfl) (by kernel_rfl) (by kernel_rfl) (by intro c a w h; exact h) (Or.inl ⟨by rfl, ?_⟩) (by assumption) ?_
            · intro W hSw
              go_simp
            try simp only [Act.put, List.setIfInBounds_toArray, List.set_cons_zero, List.set_cons_succ]
            refine wpAnyH_take (i := 88) (v := .pointer none) (by simp only [List.getElem?_toArray]; exact rfl) (by kernel_rfl) (by kernel_rfl) (by kernel_rfl) (by intro c a w h; exact h) (Or.inl ⟨by rfl, ?_⟩) (by assumption) ?_
            · intro W hSw
              go_simp
            try simp only [Act.put, List.setIfInBounds_toArray, List.set_cons_zero, List.set_cons_succ]
            refine wpAnyH_take (i := 92) (v := .pointer (some ⟨bn, 0, none⟩)) (by simp only [List.getElem?_toArray]; exact rfl) (by kernel_rfl) (by kernel_rfl) (by kernel_rfl) (by intro c a w h; exact h) (Or.inl ⟨by rfl, ?_⟩) (by assumption) ?_
            · intro W hSw
              go_simp
            try simp only [Act.put, List.setIfInBounds_toArray, List.set_cons_zero, List.set_cons_succ]
            refine wpAnyH_ready (rs := [74]) (by kernel_rfl) (by simp) ?_
            refine AllReadyH.cons (by simp only [List.getElem?_toArray]; exact rfl) (fun K9 hK9 => ?_) AllReadyH.nil
            go_simp
            go_at_call 33
            refine (H74.out _ (by assumption)).mono ?_
            rintro e u74 ⟨rfl, hN9⟩
            clear hHeld
            go_simp
            refine hK9.out _ _ hN9 (fun hHeld => ?_)
            clear hK9 K9 hN9
            try simp only [Act.put, List.setIfInBounds_toArray, List.set_cons_zero, List.set_cons_succ]
            refine wpAnyH_ready (rs := [80]) (by kernel_rfl) (by simp) ?_
            refine AllReadyH.cons (by simp only [List.getElem?_toArray]; exact rfl) (fun K9 hK9 => ?_) AllReadyH.nil
            go_simp
            go_at_call 33
            refine (H80.out _ (by assumption)).mono ?_
            rintro e u80 ⟨rfl, hN9⟩
            clear hHeld
            go_simp
            refine hK9.out _ _ hN9 (fun hHeld => ?_)
            clear hK9 K9 hN9
            try simp only [Act.put, List.setIfInBounds_toArray, List.set_cons_zero, List.set_cons_succ]
            as_aux_lemma =>
              refine wpAnyH_take (i := 81) (v := .int .i64 0) (by simp only [List.getElem?_toArray]; exact rfl) (by kernel_rfl) (by kernel_rfl) (by kernel_rfl) (by intro c a w h; exact h) (Or.inl ⟨by rfl, ?_⟩) (by assumption) ?_
              · intro W hSw
                go_simp
                rfl
              try simp only [Act.put, List.setIfInBounds_toArray, List.set_cons_zero, List.set_cons_succ]
              refine wpAnyH_ready (rs := [83]) (by kernel_rfl) (by simp) ?_
              refine AllReadyH.cons (by simp only [List.getElem?_toArray]; exact rfl) (fun K9 hK9 => ?_) AllReadyH.nil
              go_simp
              go_at_call 34
              refine (H83.out _ (by assumption)).mono ?_
              rintro e u83 ⟨rfl, hN9⟩
              clear hHeld
              go_simp
              refine hK9.out _ _ hN9 (fun hHeld => ?_)
              clear hK9 K9 hN9
              try simp only [Act.put, List.setIfInBounds_toArray, List.set_cons_zero, List.set_cons_succ]
              refine wpAnyH_take (i := 84) (v := .int .i64 0) (by simp only [List.getElem?_toArray]; exact rfl) (by kernel_rfl) (by kernel_rfl) (by kernel_rfl) (by intro c a w h; exact h) (Or.inl ⟨by rfl, ?_⟩) (by assumption) ?_
              · intro W hSw
                go_simp
                rfl
              try simp only [Act.put, List.setIfInBounds_toArray, List.set_cons_zero, List.set_cons_succ]
              refine wpAnyH_ready (rs := [86]) (by kernel_rfl) (by simp) ?_
              refine AllReadyH.cons (by simp only [List.getElem?_toArray]; exact rfl) (fun K9 hK9 => ?_) AllReadyH.nil
              go_simp
              go_at_call 34
              refine (H86.out _ (by assumption)).mono ?_
              rintro e u86 ⟨rfl, hN9⟩
              clear hHeld
              go_simp
              refine hK9.out _ _ hN9 (fun hHeld => ?_)
              clear hK9 K9 hN9
              try simp only [Act.put, List.setIfInBounds_toArray, List.set_cons_zero, List.set_cons_succ]
              refine wpAnyH_take (i := 87) (v := .int .i64 0) (by simp only [List.getElem?_toArray]; exact rfl) (by kernel_rfl) (by kernel_rfl) (by kernel_rfl) (by intro c a w h; exact h) (Or.inl ⟨by rfl, ?_⟩) (by assumption) ?_
              · intro W hSw
                go_simp
                rfl
              try simp only [Act.put, List.setIfInBounds_toArray, List.set_cons_zero, List.set_cons_succ]
              refine wpAnyH_ready (rs := [89]) (by kernel_rfl) (by simp) ?_
              refine AllReadyH.cons (by simp only [List.getElem?_toArray]; exact rfl) (fun K9 hK9 => ?_) AllReadyH.nil
              go_simp
              go_at_call 37
              refine (H89.out _ (by assumption)).mono ?_
              rintro e u89 ⟨rfl, hN9⟩
              clear hHeld
              go_simp
              refine hK9.out _ _ hN9 (fun hHeld => ?_)
              clear hK9 K9 hN9
              try simp only [Act.put, List.setIfInBounds_toArray, List.set_cons_zero, List.set_cons_succ]
              refine wpAnyH_take (i := 90) (v := .int .i64 0) (by simp only [List.getElem?_toArray]; exact rfl) (by kernel_rfl) (by kernel_rfl) (by kernel_rfl) (by intro c a w h; exact h) (Or.inl ⟨by rfl, ?_⟩) (by assumption) ?_
              · intro W hSw
                go_simp
              try simp only [Act.put, List.setIfInBounds_toArray, List.set_cons_zero, List.set_cons_succ]
              refine wpAnyH_take (i := 91) (v := .int .i64 0) (by simp only [List.getElem?_toArray]; exact rfl) (by kernel_rfl) (by kernel_rfl) (by kernel_rfl) (by intro c a w h; exact h) (Or.inl ⟨by rfl, ?_⟩) (by assumption) ?_
              · intro W hSw
                go_simp
                rfl
              try simp only [Act.put, List.setIfInBounds_toArray, List.set_cons_zero, List.set_cons_succ]
              refine wpAnyH_ready (rs := [93]) (by kernel_rfl) (by simp) ?_
              refine AllReadyH.cons (by simp only [List.getElem?_toArray]; exact rfl) (fun K9 hK9 => ?_) AllReadyH.nil
              go_simp
              go_at_call 37
              refine (H93.out _ (by assumption)).mono ?_
              rintro e u93 ⟨⟨A93, c93, rfl⟩, hN9⟩
              clear hHeld
              go_simp
              refine hK9.out _ _ hN9 (fun hHeld => ?_)
              clear hK9 K9 hN9
              try simp only [Act.put, List.setIfInBounds_toArray, List.set_cons_zero, List.set_cons_succ]
              refine wpAnyH_take (i := 94) (v := .int .i64 0) (by simp only [List.getElem?_toArray]; exact rfl) (by kernel_rfl) (by kernel_rfl) (by kernel_rfl) (by intro c a w h; exact h) (Or.inl ⟨by rfl, ?_⟩) (by assumption) ?_
              · intro W hSw
                go_simp
              try simp only [Act.put, List.setIfInBounds_toArray, List.set_cons_zero, List.set_cons_succ]
              refine wpAnyH_take (i := 95) (v := .int .i64 0) (by simp only [List.getElem?_toArray]; exact rfl) (by kernel_rfl) (by kernel_rfl) (by kernel_rfl) (by intro c a w h; exact h) (Or.inl ⟨by rfl, ?_⟩) (by assumption) ?_
              · intro W hSw
                go_simp
                rfl
              try simp only [Act.put, List.setIfInBounds_toArray, List.set_cons_zero, List.set_cons_succ]
              refine wpAnyH_take (i := 96) (v := .bool true) (by simp only [List.getElem?_toArray]; exact rfl) (by kernel_rfl) (by kernel_rfl) (by kernel_rfl) (by intro c a w h; exact h) (Or.inl ⟨by rfl, ?_⟩) (by assumption) ?_
              · intro W hSw
                go_simp
              try simp only [Act.put, List.setIfInBounds_toArray, List.set_cons_zero, List.set_cons_succ]
              refine wpAnyH_take (i := 97) (v := .bool true) (by simp only [List.getElem?_toArray]; exact rfl) (by kernel_rfl) (by kernel_rfl) (by kernel_rfl) (by intro c a w h; exact h) (Or.inl ⟨by rfl, ?_⟩) (by assumption) ?_
              · intro W hSw
                go_simp
              try simp only [Act.put, List.setIfInBounds_toArray, List.set_cons_zero, List.set_cons_succ]
              refine wpAnyH_take (i := 98) (v := .bool true) (by simp only [List.getElem?_toArray]; exact rfl) (by kernel_rfl) (by kernel_rfl) (by kernel_rfl) (by intro c a w h; exact h) (Or.inl ⟨by rfl, ?_⟩) (by assumption) ?_
              · intro W hSw
                go_simp
              try simp only [Act.put, List.setIfInBounds_toArray, List.set_cons_zero, List.set_cons_succ]
              refine wpAnyH_ready (rs := [99]) (by kernel_rfl) (by simp) ?_
              refine AllReadyH.cons (by simp only [List.getElem?_toArray]; exact rfl) (fun K9 hK9 => ?_) AllReadyH.nil
              go_simp
              go_at_call 23
              refine (H99.out _ (by assumption)).mono ?_
              rintro e u99 ⟨rfl, hN9⟩
              clear hHeld
              go_simp
              refine hK9.out _ _ hN9 (fun hHeld => ?_)
              clear hK9 K9 hN9
              try simp only [Act.put, List.setIfInBounds_toArray, List.set_cons_zero, List.set_cons_succ]
              refine wpAnyH_take (i := 100) (v := .bool true) (by simp only [List.getElem?_toArray]; exact rfl) (by kernel_rfl) (by kernel_rfl) (by kernel_rfl) (by intro c a w h; exact h) (Or.inl ⟨by rfl, ?_⟩) (by assumption) ?_
              · intro W hSw
                go_simp
              try simp only [Act.put, List.setIfInBounds_toArray, List.set_cons_zero, List.set_cons_succ]
              refine wpAnyH_take (i := 101) (v := .bool true) (by simp only [List.getElem?_toArray]; exact rfl) (by kernel_rfl) (by kernel_rfl) (by kernel_rfl) (by intro c a w h; exact h) (Or.inl ⟨by rfl, ?_⟩) (by assumption) ?_
              · intro W hSw
                go_simp
              try simp only [Act.put, List.setIfInBounds_toArray, List.set_cons_zero, List.set_cons_succ]
              refine wpAnyH_done (by kernel_rfl) ?_ _
              have hfin := hHeld.1.hb
              clear hHeld H12 H21 H32 H43 H54 H65 H74 H80 H83 H86 H89 H93 H99
              go_wp2_with fail
              go_ret
              subst hba
              exact ⟨rfl, hfin⟩
end Go.Proofs.Ytlhlnaengedfgaa
