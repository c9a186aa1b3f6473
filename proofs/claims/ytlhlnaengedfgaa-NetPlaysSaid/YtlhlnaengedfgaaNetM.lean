/- The acts' cells, few, and two nets side by side. Condition: the arguments fit their types. -/
import Derived.Test.YtlhlnaengedfgaaNetL
import Derived.Test.YtlhlnaengedfgaaOpen
namespace Go.Proofs.Ytlhlnaengedfgaa
open Go.RowKit Go.Lk

abbrev Act5 := Int × Int × Int × Int × ByteArray
def arow (p : Act5) : List Value := [.int .i64 p.1, .int .i64 p.2.1, .int .i64 p.2.2.1, .int .i64 p.2.2.2.1, .string p.2.2.2.2]
def acts5 (l : List Act5) : List Value := (l.map arow).flatten
theorem acts5_at (l : List Act5) (k : Nat) (p : Act5) (h : l[k]? = some p) (i : Nat) (hi : i < 5) : (acts5 l)[k * 5 + i]? = (arow p)[i]? := by
  unfold acts5
  rw [flat_get (K := 5) _ (by intro r hr; obtain ⟨q, _, rfl⟩ := List.mem_map.1 hr; rfl) k i hi, List.getElem?_map, h]
  rfl
theorem acts5_length (l : List Act5) : (acts5 l).length = l.length * 5 := by
  unfold acts5
  rw [flat_length (K := 5) _ (by intro r hr; obtain ⟨q, _, rfl⟩ := List.mem_map.1 hr; rfl), List.length_map]

set_option maxHeartbeats 400000 in
theorem few37 (A : Option Addr) (c : Nat) (acts : List Act5) (n : Nat) (hn : acts.length = n) (hn2 : n ≤ 9223372036854775807) (w : World) (ha : Sl w w.heap.size A (acts5 acts)) :
    Calls Try.prog 22 #[.slice A n c] w fun e w' => (∃ b, e = .returned (.bool b) ∧ (b = true → n ≤ 60)) ∧ w = w' := by
  have HN := Lib.hid hn
  have HA := Lib.hid ha
  clear ha hn
  go_enter Try.func22, Try.ntmps22
  go_wp2
  go_loopw [3] (fun i wr => ∃ k : Nat, k ≤ n ∧ k ≤ 60 ∧ i = .int .i64 k ∧ wr = w) (fun i _ => n - (intOf i).toNat)
  case atStart => exact ⟨0, by omega, by omega, rfl, rfl⟩
  case round =>
    obtain ⟨k, hk, hk2, rfl, rfl⟩ := hrel
    by_cases hlt : k < n
    · by_cases hlt2 : k < 60
      · have hkx : k < acts.length := by rw [HN.out]; exact hlt
        obtain ⟨p, hp⟩ : ∃ p, acts[k]? = some p := ⟨_, List.getElem?_eq_getElem hkx⟩
        obtain ⟨b, o, rfl, _, hcell⟩ := HA.out.plain (by rw [acts5_length]; omega)
        have c2 := hcell _ _ ((acts5_at acts k p hp 4 (by omega)).trans rfl)
        clear hcell hp hkx
        obtain ⟨kd, fr, tt, pl, s⟩ := p
        rw [← Nat.add_assoc] at c2
        simp only at c2
        obtain ⟨z, hz⟩ : ∃ z, s.size = z := ⟨_, rfl⟩
        by_cases hs : 50 < z
        · have hd : decide (50 < (z : Int)) = true := by simp; omega
          go_wp2_with fail
          go_ret
          exact ⟨⟨false, rfl, fun h => by cases h⟩, rfl⟩
        · have hd : decide (50 < (z : Int)) = false := by simp; omega
          go_wp2_with fail
          exact ⟨⟨k + 1, by omega, by omega, by go_num, trivial⟩, by simp [intOf]; omega⟩
      · have hk100 : k = 60 := by omega
        subst hk100
        have hd : decide ((n : Int) ≤ 60) = false := by simp; omega
        go_wp2_with fail
        go_ret
        exact ⟨⟨false, rfl, fun h => by cases h⟩, rfl⟩
    · have hkn : k = n := by omega
      subst hkn
      have hd : decide ((k : Int) ≤ 60) = true := by simp; omega
      go_wp2_with fail
      go_ret
      exact ⟨⟨true, rfl, fun _ => hk2⟩, rfl⟩

theorem NetIs.bounded {P : Nat → Prop} {w : World} {bn sv : Nat} {B : Nat → Nat → Nat} {V : Nat → Nat → Value} {L : Nat → Nat → List ByteArray} (h : NetIs P w bn sv B V L) : NetIs (fun k => P k ∧ k < w.heap.size) w bn sv B V L :=
  ⟨h.small, h.row, ⟨h.pn, h.lt⟩, h.bag, fun i j hij => ⟨⟨(h.pb i j hij).1, heap_lt (h.bag i j hij).s⟩, fun k hk => ⟨(h.pb i j hij).2 k hk, (h.bag i j hij).t.lt k hk⟩⟩, h.nb, h.two⟩
theorem Nt.bounded {P : Nat → Prop} {w : World} {bn sv : Nat} {L : Nat → Nat → List ByteArray} (h : Nt P w bn sv L) : Nt (fun k => P k ∧ k < w.heap.size) w bn sv L := let ⟨B, V, h⟩ := h; ⟨B, V, h.bounded⟩
/-- Two nets apart from one another, and from the blocks that R names. -/
def Pr (base : Nat) (w : World) (bn bm : Nat) (Ln Lm : Nat → Nat → List ByteArray) (R : Nat → Prop) : Prop :=
  ∃ P Q : Nat → Prop, Nt P w bn 8 Ln ∧ Nt Q w bm 8 Lm ∧ (∀ k, P k → ¬ Q k) ∧ (∀ k, P k → base ≤ k ∧ k < w.heap.size ∧ ¬ R k) ∧ ∀ k, Q k → base ≤ k ∧ k < w.heap.size ∧ ¬ R k
section
variable {base : Nat} {w w' : World} {bn bm : Nat} {Ln Lm L' : Nat → Nat → List ByteArray} {R : Nat → Prop}
theorem Pr.swap (h : Pr base w bn bm Ln Lm R) : Pr base w bm bn Lm Ln R := let ⟨P, Q, h1, h2, h3, h4, h5⟩ := h; ⟨Q, P, h2, h1, fun k hq hp => h3 k hp hq, h5, h4⟩
theorem Pr.calm (h : Pr base w bn bm Ln Lm R) (hb : Below w.heap.size w w') : Pr base w' bn bm Ln Lm R := by
  obtain ⟨P, Q, h1, h2, h3, h4, h5⟩ := h
  exact ⟨P, Q, h1.below hb, h2.below hb, h3, fun k hk => ⟨(h4 k hk).1, Nat.lt_of_lt_of_le (h4 k hk).2.1 hb.size, (h4 k hk).2.2⟩, fun k hk => ⟨(h5 k hk).1, Nat.lt_of_lt_of_le (h5 k hk).2.1 hb.size, (h5 k hk).2.2⟩⟩
theorem Pr.made (h : Pr base w bn bm Ln Lm fun _ => False) (o : Obj) : Pr base (w.alloc o) bn bm Ln Lm fun k => k = w.heap.size := by
  obtain ⟨P, Q, h1, h2, h3, h4, h5⟩ := h.calm ((Below.refl w.heap.size w).alloc (Nat.le_refl _) o)
  obtain ⟨P0, Q0, g1, g2, g3, g4, g5⟩ := h
  have hb := (Below.refl w.heap.size w).alloc (Nat.le_refl _) o
  exact ⟨P0, Q0, g1.below hb, g2.below hb, g3, fun k hk => ⟨(g4 k hk).1, Nat.lt_of_lt_of_le (g4 k hk).2.1 hb.size, by have := (g4 k hk).2.1; omega⟩, fun k hk => ⟨(g5 k hk).1, Nat.lt_of_lt_of_le (g5 k hk).2.1 hb.size, by have := (g5 k hk).2.1; omega⟩⟩
theorem Pr.drop (h : Pr base w bn bm Ln Lm R) : Pr base w bn bm Ln Lm fun _ => False := by
  obtain ⟨P, Q, h1, h2, h3, h4, h5⟩ := h
  exact ⟨P, Q, h1, h2, h3, fun k hk => ⟨(h4 k hk).1, (h4 k hk).2.1, fun h => h⟩, fun k hk => ⟨(h5 k hk).1, (h5 k hk).2.1, fun h => h⟩⟩
theorem Pr.nt (h : Pr base w bn bm Ln Lm R) : ∃ P, Nt P w bn 8 Ln := let ⟨P, _, h1, _⟩ := h; ⟨P, h1⟩
/-- An act with the first net. -/
theorem Pr.act (h : Pr base w bn bm Ln Lm R) (hb : base ≤ w.heap.size) (hR : ∀ k, R k → k < w.heap.size) {f : FuncId} {args : Array Value} {Z : Ending → Prop}
    (hx : ∀ P, Nt P w bn 8 Ln → Calls Try.prog f args w fun e w' => Z e ∧ Nx P w w' bn 8 L') :
    Calls Try.prog f args w fun e w' => Z e ∧ Pr base w' bn bm L' Lm R ∧ Below base w w' ∧ w.heap.size ≤ w'.heap.size ∧ ∀ k, R k → w'.heap[k]? = w.heap[k]? := by
  obtain ⟨P, Q, h1, h2, h3, h4, h5⟩ := h
  refine (hx P h1).mono ?_
  rintro e w' ⟨hz, P', g1, g2, g3⟩
  refine ⟨hz, ⟨_, Q, g2.bounded, h2.off g3 fun k hq _ hp => h3 k hp hq, fun k hk hq => ?_, fun k hk => ?_, fun k hk => ?_⟩, g3.to_below hb fun k hk => (h4 k hk).1, g3.size, fun k hk => g3.block k (hR k hk) fun hp => (h4 k hp).2.2 hk⟩
  · rcases g1 k hk.1 with e | e
    · exact h3 k e hq
    · have := (h5 k hq).2.1; omega
  · rcases g1 k hk.1 with e | e
    · exact ⟨(h4 k e).1, hk.2, (h4 k e).2.2⟩
    · exact ⟨by omega, hk.2, fun hr => by have := hR k hr; omega⟩
  · exact ⟨(h5 k hk).1, Nat.lt_of_lt_of_le (h5 k hk).2.1 g3.size, (h5 k hk).2.2⟩
end
end Go.Proofs.Ytlhlnaengedfgaa
