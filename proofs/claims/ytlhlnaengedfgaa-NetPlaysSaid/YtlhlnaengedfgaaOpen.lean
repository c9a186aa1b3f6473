/- Slices of structs that come in: their cells as rows. Over any program; no condition. -/
import Derived.Test.YtlhlnaengedfgaaWords
import Derived.Deep.Slices
namespace Go.Lk
open Go.WideShapes Go.ChangeShapes Go.Deep Go.RowKit

theorem flat_get {K : Nat} : ∀ (R : List (List Value)), (∀ r ∈ R, r.length = K) → ∀ i j, j < K → R.flatten[i * K + j]? = (R[i]?).bind (·[j]?)
  | [], _, i, j, _ => by simp
  | r :: R, h, 0, j, hj => by
    have hr : r.length = K := h r (by simp)
    simp only [List.flatten_cons, Nat.zero_mul, Nat.zero_add, List.getElem?_cons_zero, Option.bind_some]
    rw [List.getElem?_append_left (by omega)]
  | r :: R, h, i + 1, j, hj => by
    have hr : r.length = K := h r (by simp)
    have ih := flat_get R (fun r' hr' => h r' (by simp [hr'])) i j hj
    simp only [List.flatten_cons, List.getElem?_cons_succ]
    rw [List.getElem?_append_right (by rw [hr, Nat.add_mul]; omega), hr, ← ih]
    congr 1
    rw [Nat.add_mul]; omega
theorem flat_length {K : Nat} : ∀ (R : List (List Value)), (∀ r ∈ R, r.length = K) → R.flatten.length = R.length * K
  | [], _ => by simp
  | r :: R, h => by
    simp only [List.flatten_cons, List.length_append, List.length_cons]
    rw [h r (by simp), flat_length R (fun r' hr' => h r' (by simp [hr'])), Nat.add_mul]
    omega

section
variable {H : Type} {enc : TypeId × Value → H} {P : Program} {W : World} {base : Nat} {sp : Nat → Bool} {r : Reach}
theorem choose_rows {p : Nat → List Value → Prop} : ∀ len : Nat, (∀ i, i < len → ∃ cs, p i cs) → ∃ R : List (List Value), R.length = len ∧ ∀ i cs, R[i]? = some cs → p i cs
  | 0, _ => ⟨[], rfl, by simp⟩
  | len + 1, h => by
    obtain ⟨R, hl, hR⟩ := choose_rows len (fun i hi => h i (by omega))
    obtain ⟨cs, hcs⟩ := h len (by omega)
    refine ⟨R ++ [cs], by simp [hl], fun i c hc => ?_⟩
    rcases Nat.lt_or_ge i R.length with hi | hi
    · rw [List.getElem?_append_left hi] at hc; exact hR i c hc
    · rw [List.getElem?_append_right hi] at hc
      have hi0 : i - R.length = 0 := by
        have := (List.getElem?_eq_some_iff.1 hc).1
        simp at this; omega
      rw [hi0] at hc
      simp at hc
      subst hc
      have : i = len := by omega
      subst this
      exact hcs

theorem open_rows {t e : TypeId} {K : Nat} {v : Value} {d : DataW H} {p : List MemPlace} (ht : P.underlying t = some (.slice e)) (hK : P.cellsOf e = K) (hK0 : 0 < K)
    (hv : Value.okWide P W r base t v) (h : DataW.Trod enc P W 0 sp true t v d p) :
    ∃ (A : Option Addr) (c : Nat) (R : List (List Value)), v = .slice A R.length c ∧ Sl W W.heap.size A R.flatten ∧ (∀ r ∈ R, r.length = K ∧ ∃ n y, DataW.trod enc P W 0 sp true n e r = some y) ∧ R.length ≤ maxLen := by
  obtain ⟨a0, l0, c0, rfl⟩ := okWide_slice ht hv
  obtain ⟨fuel, hf⟩ := h
  rcases open_slice ht hf with ⟨hcs, _⟩ | ⟨a, len, cap, m, n, D, Pl, hcs, _, hl, hm, hmm, _, hx⟩
  · have e1 : Value.slice a0 l0 c0 = .slice none 0 0 := by simpa [Value.cells] using hcs
    rw [e1]
    exact ⟨none, 0, [], rfl, Sl.nil _ _ _, by simp, by simp⟩
  · have e1 : Value.slice a0 l0 c0 = .slice (some a) len cap := by simpa [Value.cells] using hcs
    rw [e1]
    have hlm : len ≤ m := by rw [hmm]; split <;> omega
    rw [hK] at hx
    obtain ⟨R, hRl, hR⟩ := choose_rows (p := fun i cs' => W.cells? 0 (a.add (i * K)) K = some cs' ∧ DataW.trod enc P W 0 sp true n e cs' = some (D i, Pl i)) len (fun i hi => hx i (by omega))
    have hrow : ∀ r ∈ R, r.length = K := by
      intro r hr
      obtain ⟨i, hi⟩ := List.mem_iff_getElem?.1 hr
      exact (World.cells?_some (hR i r hi).1).2.1
    refine ⟨some a, cap, R, by rw [hRl], ?_, ?_, by omega⟩
    · intro q u hq
      have hql : q < R.length * K := by rw [← flat_length R hrow]; exact (List.getElem?_eq_some_iff.1 hq).1
      have hqe : q = q / K * K + q % K := by rw [Nat.mul_comm]; exact (Nat.div_add_mod q K).symm
      have hj : q % K < K := Nat.mod_lt _ hK0
      rw [hqe, flat_get R hrow _ _ hj] at hq
      cases hRi : R[q / K]? with
      | none => rw [hRi] at hq; simp at hq
      | some cs =>
        rw [hRi] at hq
        simp only [Option.bind_some] at hq
        have h1 := (World.cells?_some (hR _ cs hRi).1).2.2 (q % K) hj
        rw [hq, add_add, ← hqe] at h1
        refine ⟨a, rfl, ?_, h1⟩
        have := World.block_lt_of_cell? W _ h1
        rwa [add_block] at this
    · intro r hr
      obtain ⟨i, hi⟩ := List.mem_iff_getElem?.1 hr
      exact ⟨hrow r hr, n, _, (hR i r hi).2⟩
end
end Go.Lk
