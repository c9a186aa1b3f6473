/- The document's net: New, Total. Condition: it is well made (DocIs). -/
import Derived.Test.YtlhlnaengedfgaaNetU
import Derived.Test.YtlhlnaengedfgaaNetG
namespace Go.Proofs.Ytlhlnaengedfgaa
open Go.RowKit Go.Lk

theorem Try.info29 : (Try.prog.info? 29).map (fun i => (i.zero, i.size, i.bytes)) = some (some (.slice none 0 0), 1, 24) := by kernel_rfl

theorem lenN_of (sv : Nat) (L : Nat → Nat → List ByteArray) (a b : Int) : (ofN sv L a b).length = lenN sv L a b := by
  unfold ofN lenN
  split <;> rfl
theorem lenX_of (sv : Nat) (L : Nat → Nat → List ByteArray) (i j : Nat) : lenX sv L (i, j) = (ofN sv L ((i : Int) - 1) ((j : Int) - 1)).length := (lenN_of sv L _ _).symm
theorem lenX_diag (sv : Nat) (L : Nat → Nat → List ByteArray) (i : Nat) : lenX sv L (i, i) = 0 := by
  have hh : hasL (sv : Int) ((i : Int) - 1) ((i : Int) - 1) = false := by unfold hasL; simp
  rw [lenX_of, ofN_no L hh]; rfl
theorem hasL_lk {sv i j : Nat} (h : Lk sv i j) : hasL (sv : Int) ((i : Int) - 1) ((j : Int) - 1) = true := by
  obtain ⟨h1, h2, h3⟩ := h
  unfold hasL; simp; omega
theorem lenX_link {sv i j : Nat} (L : Nat → Nat → List ByteArray) (h : Lk sv i j) : lenX sv L (i, j) = (L i j).length := by rw [lenX_of, ofN_yes L (hasL_lk h)]
/-- A grid's sum, cell by cell. -/
theorem sum_app {α : Type} (f : α → Nat) (a b : List α) : ((a ++ b).map f).sum = (a.map f).sum + (b.map f).sum := by simp
theorem sum_grid (f : Nat → Nat → Nat) (n : Nat) (_hn : 0 < n) : ∀ m, ((List.range (m * n)).map fun p => f (p / n) (p % n)).sum = ((List.range m).map fun i => ((List.range n).map (f i)).sum).sum
  | 0 => by simp
  | m + 1 => by
    have ih := sum_grid f n _hn m
    rw [Nat.add_mul, Nat.one_mul, List.range_add, sum_app, ih, List.range_succ, sum_app, List.map_map]
    simp only [List.map_cons, List.map_nil, List.sum_cons, List.sum_nil, Nat.add_zero]
    congr 2
    apply List.map_congr_left
    intro j hj
    rw [List.mem_range] at hj
    have h := place_div (i := m) hj
    show f ((m * n + j) / n) ((m * n + j) % n) = f m j
    rw [h.1, h.2]
theorem sum_flat {α β : Type} (g : α → List β) (f : β → Nat) : ∀ l : List α, ((l.flatMap g).map f).sum = (l.map fun a => ((g a).map f).sum).sum
  | [] => rfl
  | a :: l => by
    rw [List.flatMap_cons, sum_app, sum_flat g f l]
    simp
theorem sum_row (f : Nat × Nat → Nat) (i : Nat) (h0 : f (i, i) = 0) : ∀ l : List Nat, ((l.filterMap fun j => if i = j then none else some (i, j)).map f).sum = (l.map fun j => f (i, j)).sum
  | [] => rfl
  | j :: l => by
    have ih := sum_row f i h0 l
    by_cases hij : i = j
    · subst hij
      rw [List.filterMap_cons, if_pos rfl]
      simp only [List.map_cons, List.sum_cons, h0, Nat.zero_add]
      exact ih
    · rw [List.filterMap_cons, if_neg hij]
      simp only [List.map_cons, List.sum_cons]
      rw [ih]
/-- The length of the row at a place. -/
def lenP (sv : Nat) (L : Nat → Nat → List ByteArray) (p : Nat) : Nat := lenX sv L (p / (sv + 1), p % (sv + 1))
def totP (sv : Nat) (L : Nat → Nat → List ByteArray) (k : Nat) : Nat := ((List.range k).map (lenP sv L)).sum
theorem totP_succ (sv : Nat) (L : Nat → Nat → List ByteArray) (k : Nat) : totP sv L (k + 1) = totP sv L k + lenP sv L k := by
  unfold totP; rw [List.range_succ, sum_app]; simp
theorem totP_all (sv : Nat) (L : Nat → Nat → List ByteArray) : totP sv L ((sv + 1) * (sv + 1)) = sumL sv L (allL sv) := by
  unfold totP sumL allL
  rw [sum_flat]
  refine (sum_grid (fun i j => lenX sv L (i, j)) (sv + 1) (by omega) (sv + 1)).trans ?_
  congr 1
  apply List.map_congr_left
  intro i _
  exact (sum_row (lenX sv L) i (lenX_diag sv L i) _).symm

section
variable {Q : Nat → Prop} (w : World) (bx gr sv : Nat) (U : Nat → Nat → Value) (L : Nat → Nat → List ByteArray)
theorem DocIs.at_ {w : World} {bx gr sv : Nat} {U : Nat → Nat → Value} {L : Nat → Nat → List ByteArray} (h : DocIs Q w bx gr sv U L) (p : Nat) (hp : p < (sv + 1) * (sv + 1)) : ∃ A c, w.cell? ⟨gr, p, none⟩ = some (.slice A (lenP sv L p) c) ∧ lenP sv L p ≤ 64 := by
  have hi : p / (sv + 1) < sv + 1 := Nat.div_lt_of_lt_mul hp
  have hj : p % (sv + 1) < sv + 1 := Nat.mod_lt _ (by omega)
  have he : p = p / (sv + 1) * (sv + 1) + p % (sv + 1) := by rw [Nat.mul_comm]; exact (Nat.div_add_mod p (sv + 1)).symm
  have hc := h.cp (i := p / (sv + 1)) (j := p % (sv + 1)) (by omega) (by omega)
  rw [← he] at hc
  by_cases hd : p / (sv + 1) = p % (sv + 1)
  · have h0 : lenP sv L p = 0 := by unfold lenP; rw [← hd]; exact lenX_diag sv L _
    rw [← hd, h.diag _ (by omega)] at hc
    rw [h0]
    exact ⟨none, 0, hc, by omega⟩
  · have hk : Lk sv (p / (sv + 1)) (p % (sv + 1)) := ⟨by omega, by omega, hd⟩
    have h1 : lenP sv L p = (L (p / (sv + 1)) (p % (sv + 1))).length := lenX_link L hk
    obtain ⟨h2, h3⟩ := h.rows _ _ hk
    obtain ⟨A, c, h4, _⟩ := h2.form
    rw [h4, ← h1] at hc
    rw [← h1] at h3
    exact ⟨A, c, hc, h3⟩
theorem totP_le {w : World} {bx gr sv : Nat} {U : Nat → Nat → Value} {L : Nat → Nat → List ByteArray} (h : DocIs Q w bx gr sv U L) : ∀ k, k ≤ (sv + 1) * (sv + 1) → totP sv L k ≤ k * 64
  | 0, _ => by simp [totP]
  | k + 1, hk => by
    have ih := totP_le h k (by omega)
    obtain ⟨_, _, _, h1⟩ := h.at_ k (by omega)
    rw [totP_succ]; omega
set_option maxHeartbeats 1000000 in
theorem d_total (h : DocIs Q w bx gr sv U L) :
    Calls Try.prog 45 #[.pointer (some ⟨bx, 0, none⟩)] w fun e w' => e = .returned (.int .i64 (sumL sv L (allL sv) : Int)) ∧ w = w' := by
  have e1 := totP_all sv L
  rw [← e1]
  have c1 := h.c1
  have HA : Hid (∀ p, p < (sv + 1) * (sv + 1) → ∃ A c, w.cell? ⟨gr, p, none⟩ = some (.slice A (lenP sv L p) c) ∧ lenP sv L p ≤ 64) := fun p hp => h.at_ p hp
  have HT : Hid (∀ k, k ≤ (sv + 1) * (sv + 1) → totP sv L k ≤ k * 64) := fun k hk => totP_le h k hk
  have hn : (sv + 1) * (sv + 1) ≤ 81 := by have := h.small; exact Nat.mul_le_mul (show sv + 1 ≤ 9 by omega) (show sv + 1 ≤ 9 by omega)
  generalize (sv + 1) * (sv + 1) = n at *
  clear h e1
  go_enter Try.func45, Try.ntmps45
  go_wp2_with fail
  go_loopw [3, 4] (fun s i wr => ∃ k : Nat, k ≤ n ∧ s = .int .i64 (totP sv L k : Int) ∧ i = .int .i64 k ∧ wr = w) (fun _ i _ => n - (intOf i).toNat)
  case atStart => exact ⟨0, by omega, rfl, rfl, rfl⟩
  case round =>
    obtain ⟨k, hk, rfl, rfl, rfl⟩ := hrel
    by_cases hlt : k < n
    · obtain ⟨A, c, hc, hl⟩ := HA.out k hlt
      have ht := HT.out k hk
      have hs := totP_succ sv L k
      obtain ⟨t1, ht1⟩ : ∃ t1, totP sv L (k + 1) = t1 := ⟨_, rfl⟩
      rw [ht1] at hs
      have HT1 := Lib.hid ht1
      clear ht1
      generalize totP sv L k = t0 at *
      generalize lenP sv L k = l0 at *
      have hd : decide ((k : Int) < (n : Int)) = true := by simp; omega
      have he : IntKind.i64.wrap ((t0 : Int) + (l0 : Int)) = (t1 : Int) := by rw [IntKind.wrap_i64]; omega
      have he2 : (t0 : Int) + (l0 : Int) = (t1 : Int) := by omega
      clear hs
      go_wp2_with fail
      exact ⟨⟨k + 1, by omega, by rw [HT1.out], by go_num, trivial⟩, by simp [intOf]; omega⟩
    · have : k = n := by omega
      subst this
      go_wp2_with fail
      go_ret
      exact ⟨rfl, rfl⟩

set_option maxHeartbeats 1000000 in
theorem d_new (h8 : sv ≤ 8) :
    Calls Try.prog 25 #[.int .i64 (sv : Int)] w fun e w' => ∃ bx, e = .returned (.pointer (some ⟨bx, 0, none⟩)) ∧ Dt (fun k => w.heap.size ≤ k) w' bx sv (fun _ _ => []) ∧ Below w.heap.size w w' := by
  obtain ⟨i0, hi0, hz0, hz1, hz2⟩ := info_parts Try.info29
  obtain ⟨n, hn⟩ : ∃ n, (sv + 1) * (sv + 1) = n := ⟨_, rfl⟩
  have hn81 : n ≤ 81 := by rw [← hn]; exact Nat.mul_le_mul (show sv + 1 ≤ 9 by omega) (show sv + 1 ≤ 9 by omega)
  have hni : ((sv : Int) + 1) * ((sv : Int) + 1) = (n : Int) := by rw [← hn]; simp
  have hmk := make_n (P := Try.prog) 80 29 i0 (.slice none 0 0) Try.underlying80 hi0 hz0 rfl hz1 (by omega) n (by omega) w
  have HN := Lib.hid hn
  obtain ⟨zs, ezs⟩ : ∃ zs, zs = (List.replicate n (Value.slice none 0 0)).toArray := ⟨_, rfl⟩
  rw [← ezs] at hmk
  have EZ := Lib.hid ezs
  clear hn ezs
  go_enter Try.func25, Try.ntmps25
  go_wp2_with fail
  go_ret
  refine ⟨w.heap.size + 1, rfl, ⟨w.heap.size, fun _ _ => .slice none 0 0, h8, ?_, ⟨zs, ?_, fun i j hi hj => ?_⟩, by omega, by omega, by omega, fun _ _ _ => ⟨Tx.nil _ _, by simp⟩, fun _ _ => rfl, fun _ _ _ k hk => by simp [Value.ownBlock] at hk⟩, ((Below.refl _ w).alloc (Nat.le_refl _) _).alloc (by simp) _⟩
  · rw [HN.out]
    have := heap_alloc_new (w.alloc (.cells zs 29)) (.cells #[.int .i64 (sv : Int), .slice (some ⟨w.heap.size, 0, none⟩) n n] 82)
    simpa using this
  · exact (((Below.refl _ (w.alloc (.cells zs 29))).alloc (Nat.le_refl _) _).block w.heap.size (by simp)).trans (heap_alloc_new w _)
  · rw [EZ.out, List.getElem?_toArray, List.getElem?_replicate, if_pos]
    rw [← HN.out]
    exact place_lt (by omega) (by omega)
end
end Go.Proofs.Ytlhlnaengedfgaa
