/- net.New of a number that may not be; a net and the document's net side by side. No condition. -/
import Derived.Test.YtlhlnaengedfgaaNetX
namespace Go.Proofs.Ytlhlnaengedfgaa
open Go.RowKit Go.Lk
theorem n_new_bad (w : World) (m : Int) (h : m < 1 ∨ 8 < m) : Calls Try.prog 24 #[.int .i64 m] w fun e w' => e = .returned (.tuple #[.pointer none, .int .i64 1]) ∧ w = w' := by
  rcases h with h | h
  · go_enter Try.func24, Try.ntmps24
    go_wp2_with fail
    go_ret2
    exact ⟨rfl, rfl⟩
  · have h1 : ¬ m < 1 := by omega
    go_enter Try.func24, Try.ntmps24
    go_wp2_with fail
    go_ret2
    exact ⟨rfl, rfl⟩

/-- A net and the document's, apart from one another, and from the blocks that R names. -/
def Pd (base : Nat) (w : World) (bn bx sv : Nat) (Ln Lx : Nat → Nat → List ByteArray) (R : Nat → Prop) : Prop :=
  ∃ P Q : Nat → Prop, Nt P w bn sv Ln ∧ Dt Q w bx sv Lx ∧ (∀ k, P k → ¬ Q k) ∧ (∀ k, P k → base ≤ k ∧ k < w.heap.size ∧ ¬ R k) ∧ ∀ k, Q k → base ≤ k ∧ k < w.heap.size ∧ ¬ R k
section
variable {base : Nat} {w w' : World} {bn bx sv : Nat} {Ln Lx L' : Nat → Nat → List ByteArray} {R : Nat → Prop}
theorem Pd.calm (h : Pd base w bn bx sv Ln Lx R) (hb : Below w.heap.size w w') : Pd base w' bn bx sv Ln Lx R := by
  obtain ⟨P, Q, h1, h2, h3, h4, h5⟩ := h
  exact ⟨P, Q, h1.below hb, h2.below hb, h3, fun k hk => ⟨(h4 k hk).1, Nat.lt_of_lt_of_le (h4 k hk).2.1 hb.size, (h4 k hk).2.2⟩, fun k hk => ⟨(h5 k hk).1, Nat.lt_of_lt_of_le (h5 k hk).2.1 hb.size, (h5 k hk).2.2⟩⟩
theorem Pd.made (h : Pd base w bn bx sv Ln Lx fun _ => False) (o : Obj) : Pd base (w.alloc o) bn bx sv Ln Lx fun k => k = w.heap.size := by
  obtain ⟨P0, Q0, g1, g2, g3, g4, g5⟩ := h
  have hb := (Below.refl w.heap.size w).alloc (Nat.le_refl _) o
  exact ⟨P0, Q0, g1.below hb, g2.below hb, g3, fun k hk => ⟨(g4 k hk).1, Nat.lt_of_lt_of_le (g4 k hk).2.1 hb.size, by have := (g4 k hk).2.1; omega⟩, fun k hk => ⟨(g5 k hk).1, Nat.lt_of_lt_of_le (g5 k hk).2.1 hb.size, by have := (g5 k hk).2.1; omega⟩⟩
theorem Pd.drop (h : Pd base w bn bx sv Ln Lx R) : Pd base w bn bx sv Ln Lx fun _ => False := by
  obtain ⟨P, Q, h1, h2, h3, h4, h5⟩ := h
  exact ⟨P, Q, h1, h2, h3, fun k hk => ⟨(h4 k hk).1, (h4 k hk).2.1, fun h => h⟩, fun k hk => ⟨(h5 k hk).1, (h5 k hk).2.1, fun h => h⟩⟩
/-- An act with the net. -/
theorem Pd.n (h : Pd base w bn bx sv Ln Lx R) (hb : base ≤ w.heap.size) (hR : ∀ k, R k → k < w.heap.size) {f : FuncId} {args : Array Value} {Z : Ending → Prop}
    (hx : ∀ P, Nt P w bn sv Ln → Calls Try.prog f args w fun e w' => Z e ∧ Nx P w w' bn sv L') :
    Calls Try.prog f args w fun e w' => Z e ∧ Pd base w' bn bx sv L' Lx R ∧ Below base w w' ∧ w.heap.size ≤ w'.heap.size ∧ ∀ k, R k → w'.heap[k]? = w.heap[k]? := by
  obtain ⟨P, Q, h1, h2, h3, h4, h5⟩ := h
  refine (hx P h1).mono ?_
  rintro e w' ⟨hz, P', g1, g2, g3⟩
  refine ⟨hz, ⟨_, Q, g2.bounded, h2.off g3 fun k hq _ hp => h3 k hp hq, fun k hk hq => ?_, fun k hk => ?_, fun k hk => ?_⟩, g3.to_below hb fun k hk => (h4 k hk).1, g3.size, fun k hk => g3.block k (hR k hk) fun hp => (h4 k hp).2.2 hk⟩
  · rcases g1 k hk.1 with e | e
    · exact h3 k e hq
    · have := (h5 k hq).2.1; omega
  · rcases g1 k hk.1 with e | e
    · exact ⟨(h4 k e).1, hk.2, (h4 k e).2.2⟩
    · exact ⟨by omega, hk.2, fun hr => by have := hR k hr; omega⟩
  · exact ⟨(h5 k hk).1, Nat.lt_of_lt_of_le (h5 k hk).2.1 g3.size, (h5 k hk).2.2⟩
/-- An act with the document's net. -/
theorem Pd.d (h : Pd base w bn bx sv Ln Lx R) (hb : base ≤ w.heap.size) (hR : ∀ k, R k → k < w.heap.size) {f : FuncId} {args : Array Value} {Z : Ending → Prop}
    (hx : ∀ Q, Dt Q w bx sv Lx → Calls Try.prog f args w fun e w' => Z e ∧ Dx Q w w' bx sv L') :
    Calls Try.prog f args w fun e w' => Z e ∧ Pd base w' bn bx sv Ln L' R ∧ Below base w w' ∧ w.heap.size ≤ w'.heap.size ∧ ∀ k, R k → w'.heap[k]? = w.heap[k]? := by
  obtain ⟨P, Q, h1, h2, h3, h4, h5⟩ := h
  refine (hx Q h2).mono ?_
  rintro e w' ⟨hz, Q', g1, g2, g3⟩
  refine ⟨hz, ⟨P, _, h1.off g3 fun k hp _ hq => h3 k hp hq, g2.bounded, fun k hp hk => ?_, fun k hk => ?_, fun k hk => ?_⟩, g3.to_below hb fun k hk => (h5 k hk).1, g3.size, fun k hk => g3.block k (hR k hk) fun hq => (h5 k hq).2.2 hk⟩
  · rcases g1 k hk.1 with e | e
    · exact h3 k hp e
    · have := (h4 k hp).2.1; omega
  · exact ⟨(h4 k hk).1, Nat.lt_of_lt_of_le (h4 k hk).2.1 g3.size, (h4 k hk).2.2⟩
  · rcases g1 k hk.1 with e | e
    · exact ⟨(h5 k e).1, hk.2, (h5 k e).2.2⟩
    · exact ⟨by omega, hk.2, fun hr => by have := hR k hr; omega⟩
end
/-- .. and the act that is being done. -/
structure Ad (w wx : World) (bn bx ba sv : Nat) (Ln Lx : Nat → Nat → List ByteArray) (p : Act5) : Prop where
  pd : Pd w.heap.size wx bn bx sv Ln Lx (fun k => k = ba)
  act : wx.heap[ba]? = some (.cells (arow p).toArray 58 (0, 0))
  below : Below w.heap.size w wx
section
variable {w wx wy : World} {bn bx ba sv : Nat} {Ln Lx L' : Nat → Nat → List ByteArray} {p : Act5}
theorem Ad.n (h : Ad w wx bn bx ba sv Ln Lx p) {f : FuncId} {args : Array Value} {Z : Ending → Prop}
    (hx : ∀ P, Nt P wx bn sv Ln → Calls Try.prog f args wx fun e w' => Z e ∧ Nx P wx w' bn sv L') : Calls Try.prog f args wx fun e w' => Z e ∧ Ad w w' bn bx ba sv L' Lx p :=
  (h.pd.n h.below.size (fun k hk => by rw [hk]; exact heap_lt h.act) hx).mono fun _ _ ⟨hz, hp, hb, _, hr⟩ => ⟨hz, hp, (hr ba rfl).trans h.act, h.below.trans hb⟩
theorem Ad.d (h : Ad w wx bn bx ba sv Ln Lx p) {f : FuncId} {args : Array Value} {Z : Ending → Prop}
    (hx : ∀ gr U Q, DocIs Q wx bx gr sv U Lx → Calls Try.prog f args wx fun e w' => Z e ∧ Dx Q wx w' bx sv L') : Calls Try.prog f args wx fun e w' => Z e ∧ Ad w w' bn bx ba sv Ln L' p :=
  (h.pd.d h.below.size (fun k hk => by rw [hk]; exact heap_lt h.act) fun Q ⟨gr, U, hD⟩ => hx gr U Q hD).mono fun _ _ ⟨hz, hp, hb, _, hr⟩ => ⟨hz, hp, (hr ba rfl).trans h.act, h.below.trans hb⟩
theorem Ad.calm (h : Ad w wx bn bx ba sv Ln Lx p) (hb : Below wx.heap.size wx wy) : Ad w wy bn bx ba sv Ln Lx p :=
  ⟨h.pd.calm hb, (hb.block _ (heap_lt h.act)).trans h.act, h.below.trans (hb.mono h.below.size)⟩
theorem Ad.cells (h : Ad w wx bn bx ba sv Ln Lx p) : wx.cell? ⟨ba, 0, none⟩ = some (.int .i64 p.1) ∧ wx.cell? ⟨ba, 1, none⟩ = some (.int .i64 p.2.1) ∧ wx.cell? ⟨ba, 2, none⟩ = some (.int .i64 p.2.2.1) ∧ wx.cell? ⟨ba, 3, none⟩ = some (.int .i64 p.2.2.2.1) ∧ wx.cell? ⟨ba, 4, none⟩ = some (.string p.2.2.2.2) := by
  refine ⟨?_, ?_, ?_, ?_, ?_⟩ <;> (rw [cell_of_row wx ba _ _ _ _ h.act]; rfl)
/-- same upon the two. -/
theorem Ad.same {L : Nat → Nat → List ByteArray} (h : Ad w wx bn bx ba sv L L p) (kd af at_ pl : Int) (tx : ByteArray) :
    Calls Try.prog 32 #[.pointer (some ⟨bn, 0, none⟩), .pointer (some ⟨bx, 0, none⟩), .agg #[.int .i64 kd, .int .i64 af, .int .i64 at_, .int .i64 pl, .string tx]] wx fun e w' => e = .returned (.bool true) ∧ Ad w w' bn bx ba sv L L p := by
  obtain ⟨P, Q, h1, h2, _⟩ := h.pd
  exact (same_ok wx bn bx sv L h1 h2 kd af at_ pl tx).mono fun _ _ ⟨he, hb⟩ => ⟨he, h.calm hb⟩
end
/-- What holds at the head of each round. -/
def HD (w : World) (bn bx sv : Nat) (wr : World) : Prop := ∃ L, Pd w.heap.size wr bn bx sv L L (fun _ => False) ∧ Below w.heap.size w wr
end Go.Proofs.Ytlhlnaengedfgaa
