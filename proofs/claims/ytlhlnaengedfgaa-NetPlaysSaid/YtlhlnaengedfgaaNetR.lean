/- The document's net: what holds of it, and what one store turns. No condition. -/
import Derived.Test.YtlhlnaengedfgaaNetQ
namespace Go.Proofs.Ytlhlnaengedfgaa
open Go.RowKit Go.Lk

theorem place_lt {n i j : Nat} (hi : i < n) (hj : j < n) : i * n + j < n * n := by
  have h1 : (i + 1) * n ≤ n * n := Nat.mul_le_mul_right n hi
  rw [Nat.add_mul, Nat.one_mul] at h1
  omega
theorem place_div {n i j : Nat} (hj : j < n) : (i * n + j) / n = i ∧ (i * n + j) % n = j := by
  refine ⟨?_, ?_⟩
  · rw [Nat.mul_comm, Nat.mul_add_div (by omega), Nat.div_eq_of_lt hj]; rfl
  · rw [Nat.mul_comm, Nat.mul_add_mod, Nat.mod_eq_of_lt hj]
theorem place_inj {n i j i' j' : Nat} (hj : j < n) (hj' : j' < n) (h : i * n + j = i' * n + j') : i = i' ∧ j = j' := by
  have h1 := place_div (i := i) hj
  have h2 := place_div (i := i') hj'
  rw [h] at h1
  exact ⟨h1.1.symm.trans h2.1, h1.2.symm.trans h2.2⟩

structure DocIs (Q : Nat → Prop) (w : World) (bx gr sv : Nat) (U : Nat → Nat → Value) (L : Nat → Nat → List ByteArray) : Prop where
  small : sv ≤ 8
  head : w.heap[bx]? = some (.cells #[.int .i64 (sv : Int), .slice (some ⟨gr, 0, none⟩) ((sv + 1) * (sv + 1)) ((sv + 1) * (sv + 1))] 82 (0, 0))
  row : ∃ cs, w.heap[gr]? = some (.cells cs 29 (0, 0)) ∧ ∀ i j, i ≤ sv → j ≤ sv → cs[i * (sv + 1) + j]? = some (U i j)
  qx : Q bx
  qg : Q gr
  ne : bx ≠ gr
  rows : ∀ i j, Lk sv i j → Tx w 9 (U i j) (L i j).length (strs (L i j)) ∧ (L i j).length ≤ 64
  diag : ∀ i, i ≤ sv → U i i = .slice none 0 0
  own : ∀ i j, Lk sv i j → ∀ k, (U i j).ownBlock = some k → Q k ∧ k ≠ gr

section
variable {Q : Nat → Prop} {w w' : World} {bx gr sv : Nat} {U : Nat → Nat → Value} {L : Nat → Nat → List ByteArray}
theorem DocIs.c0 (h : DocIs Q w bx gr sv U L) : w.cell? ⟨bx, 0, none⟩ = some (.int .i64 (sv : Int)) := by rw [cell_of_row w bx 0 _ _ _ h.head]; rfl
theorem DocIs.c1 (h : DocIs Q w bx gr sv U L) : w.cell? ⟨bx, 1, none⟩ = some (.slice (some ⟨gr, 0, none⟩) ((sv + 1) * (sv + 1)) ((sv + 1) * (sv + 1))) := by rw [cell_of_row w bx 1 _ _ _ h.head]; rfl
theorem DocIs.cp (h : DocIs Q w bx gr sv U L) {i j : Nat} (hi : i ≤ sv) (hj : j ≤ sv) : w.cell? ⟨gr, i * (sv + 1) + j, none⟩ = some (U i j) := by
  obtain ⟨cs, h1, h2⟩ := h.row
  rw [cell_of_row w gr _ _ _ _ h1]; exact h2 i j hi hj
theorem DocIs.fz (h : DocIs Q w bx gr sv U L) (p : Nat) : w.frozen? ⟨gr, p, none⟩ = false := by
  obtain ⟨cs, h1, _⟩ := h.row
  simp [World.frozen?, h1]
theorem DocIs.lx (h : DocIs Q w bx gr sv U L) : bx < w.heap.size := heap_lt h.head
theorem DocIs.lg (h : DocIs Q w bx gr sv U L) : gr < w.heap.size := by obtain ⟨cs, h1, _⟩ := h.row; exact heap_lt h1
/-- What turned elsewhere leaves a document's net. -/
theorem DocIs.off {R : Nat → Prop} (h : DocIs Q w bx gr sv U L) (ho : Off R w w') (hR : ∀ k, Q k → k < w.heap.size → ¬ R k) : DocIs Q w' bx gr sv U L := by
  refine ⟨h.small, (ho.block bx h.lx (hR bx h.qx h.lx)).trans h.head, ?_, h.qx, h.qg, h.ne, fun i j hij => ⟨?_, (h.rows i j hij).2⟩, h.diag, h.own⟩
  · obtain ⟨cs, h1, h2⟩ := h.row
    exact ⟨cs, (ho.block gr (heap_lt h1) (hR gr h.qg (heap_lt h1))).trans h1, h2⟩
  · have ht := (h.rows i j hij).1
    exact Tx.same ht fun k hk => ho.block k (ht.lt k hk) (hR k (h.own i j hij k hk).1 (ht.lt k hk))
theorem DocIs.below (h : DocIs Q w bx gr sv U L) (hb : Below w.heap.size w w') : DocIs Q w' bx gr sv U L :=
  h.off (Off.of_below (fun _ => False) hb) (fun _ _ _ h => h)
theorem DocIs.mono {Q' : Nat → Prop} (h : DocIs Q w bx gr sv U L) (hQ : ∀ k, Q k → Q' k) : DocIs Q' w bx gr sv U L :=
  ⟨h.small, h.head, h.row, hQ _ h.qx, hQ _ h.qg, h.ne, h.rows, h.diag, fun i j hij k hk => ⟨hQ k (h.own i j hij k hk).1, (h.own i j hij k hk).2⟩⟩
theorem DocIs.bounded (h : DocIs Q w bx gr sv U L) : DocIs (fun k => Q k ∧ k < w.heap.size) w bx gr sv U L :=
  ⟨h.small, h.head, h.row, ⟨h.qx, h.lx⟩, ⟨h.qg, h.lg⟩, h.ne, h.rows, h.diag, fun i j hij k hk => ⟨⟨(h.own i j hij k hk).1, (h.rows i j hij).1.lt k hk⟩, (h.own i j hij k hk).2⟩⟩
/-- One row is put in the place of another. -/
theorem DocIs.set (h : DocIs Q w bx gr sv U L) {i j : Nat} (hij : Lk sv i j) {u' : Value} {l' : List ByteArray} (ht : Tx w 9 u' l'.length (strs l')) (hl : l'.length ≤ 64) (hn : ∀ k, u'.ownBlock = some k → Q k ∧ k ≠ gr) :
    DocIs Q (w.setCell ⟨gr, i * (sv + 1) + j, none⟩ u') bx gr sv (upd U i j u') (upd L i j l') ∧ Off Q w (w.setCell ⟨gr, i * (sv + 1) + j, none⟩ u') := by
  have ho : OnlyIn [gr] w (w.setCell ⟨gr, i * (sv + 1) + j, none⟩ u') := (OnlyIn.refl [gr] w).setCell (p := ⟨gr, i * (sv + 1) + j, none⟩) (by simp) u'
  refine ⟨⟨h.small, (ho.block bx h.lx (by simp; exact h.ne)).trans h.head, ?_, h.qx, h.qg, h.ne, fun a b hab => ?_, fun a ha => ?_, fun a b hab => ?_⟩, Off.of_only ho fun k hk => by simp at hk; rw [hk]; exact h.qg⟩
  · obtain ⟨cs, h1, h2⟩ := h.row
    refine ⟨_, heap_set1 h1 _ _, fun a b ha hb => ?_⟩
    rw [Array.getElem?_setIfInBounds]
    split
    · rename_i he
      obtain ⟨rfl, rfl⟩ := place_inj (by have := hij.2.1; omega) (by omega) he
      rw [upd_same, if_pos]
      exact (Array.getElem?_eq_some_iff.1 (h2 _ _ hij.1 hij.2.1)).1
    · rename_i he
      rw [upd_other _ _ _ _ (by
        rcases Decidable.em (a = i ∧ b = j) with e | e
        · obtain ⟨rfl, rfl⟩ := e; exact absurd rfl he
        · omega)]
      exact h2 a b ha hb
  · by_cases he : a = i ∧ b = j
    · obtain ⟨rfl, rfl⟩ := he
      rw [upd_same, upd_same]
      exact ⟨ht.only ho fun k hk => by simp; exact (hn k hk).2, hl⟩
    · rw [upd_other _ _ _ _ (by omega), upd_other _ _ _ _ (by omega)]
      exact ⟨(h.rows a b hab).1.only ho fun k hk => by simp; exact (h.own a b hab k hk).2, (h.rows a b hab).2⟩
  · rw [upd_other _ _ _ _ (by have := hij.2.2; omega)]
    exact h.diag a ha
  · by_cases he : a = i ∧ b = j
    · obtain ⟨rfl, rfl⟩ := he
      rw [upd_same]; exact hn
    · rw [upd_other _ _ _ _ (by omega)]
      exact h.own a b hab
end

/-- A document's net, with its rows left untold. -/
def Dt (Q : Nat → Prop) (w : World) (bx sv : Nat) (L : Nat → Nat → List ByteArray) : Prop := ∃ gr U, DocIs Q w bx gr sv U L
def Dx (Q : Nat → Prop) (w w' : World) (bx sv : Nat) (L' : Nat → Nat → List ByteArray) : Prop := ∃ Q' : Nat → Prop, (∀ k, Q' k → Q k ∨ w.heap.size ≤ k) ∧ Dt Q' w' bx sv L' ∧ Off Q w w'
section
variable {Q : Nat → Prop} {w w' w1 : World} {bx gr sv : Nat} {U : Nat → Nat → Value} {L : Nat → Nat → List ByteArray}
theorem Dt.off {R : Nat → Prop} (h : Dt Q w bx sv L) (ho : Off R w w') (hR : ∀ k, Q k → k < w.heap.size → ¬ R k) : Dt Q w' bx sv L := let ⟨gr, U, h⟩ := h; ⟨gr, U, h.off ho hR⟩
theorem Dt.below (h : Dt Q w bx sv L) (hb : Below w.heap.size w w') : Dt Q w' bx sv L := let ⟨gr, U, h⟩ := h; ⟨gr, U, h.below hb⟩
theorem Dt.mono {Q' : Nat → Prop} (h : Dt Q w bx sv L) (hQ : ∀ k, Q k → Q' k) : Dt Q' w bx sv L := let ⟨gr, U, h⟩ := h; ⟨gr, U, h.mono hQ⟩
theorem Dt.bounded (h : Dt Q w bx sv L) : Dt (fun k => Q k ∧ k < w.heap.size) w bx sv L := let ⟨gr, U, h⟩ := h; ⟨gr, U, h.bounded⟩
theorem Dt.c0 (h : Dt Q w bx sv L) : w.cell? ⟨bx, 0, none⟩ = some (.int .i64 (sv : Int)) := let ⟨_, _, h⟩ := h; h.c0
theorem Dx.calm (h : Dt Q w bx sv L) (hb : Below w.heap.size w w') : Dx Q w w' bx sv L := ⟨Q, fun _ h => .inl h, h.below hb, Off.of_below Q hb⟩
/-- The step: calm, one store, calm. -/
theorem Dx.step (h : DocIs Q w bx gr sv U L) (hb : Below w.heap.size w w1) {i j : Nat} (hij : Lk sv i j) {u' : Value} {l' : List ByteArray} (ht : Tx w1 9 u' l'.length (strs l')) (hl : l'.length ≤ 64) (hn : ∀ k, u'.ownBlock = some k → w.heap.size ≤ k)
    (hc : Below w1.heap.size (w1.setCell ⟨gr, i * (sv + 1) + j, none⟩ u') w') : Dx Q w w' bx sv (upd L i j l') := by
  have h1 : DocIs (fun k => Q k ∨ w.heap.size ≤ k) w1 bx gr sv U L := (h.below hb).mono fun k hk => .inl hk
  have hsz : (w1.setCell ⟨gr, i * (sv + 1) + j, none⟩ u').heap.size = w1.heap.size := by simp [World.setCell]
  obtain ⟨h2, h3⟩ := h1.set hij ht hl (fun k hk => ⟨.inr (hn k hk), by have := h.lg; have := hn k hk; omega⟩)
  refine ⟨_, fun _ h => h, ⟨_, _, h2.below (by rw [hsz]; exact hc)⟩, ?_⟩
  have h4 : Off Q w1 (w1.setCell ⟨gr, i * (sv + 1) + j, none⟩ u') := Off.of_only ((OnlyIn.refl [gr] w1).setCell (p := ⟨gr, i * (sv + 1) + j, none⟩) (by simp) u') fun k hk => by simp at hk; rw [hk]; exact h.qg
  exact ((Off.of_below Q hb).trans h4 fun k hk => .inl hk).trans (Off.of_below Q (by rw [hsz]; exact hc)) fun k hk => .inl hk
end
end Go.Proofs.Ytlhlnaengedfgaa
