/- Nets: what holds of one, and what an act with one link turns. Over the bag's words; no condition. -/
import Derived.Test.YtlhlnaengedfgaaBagD
namespace Go.Proofs.Ytlhlnaengedfgaa
open Go.RowKit Go.Lk

/-- Of the blocks that were there only those that P names may have turned. -/
structure Off (P : Nat → Prop) (w w' : World) : Prop where
  os : w'.os = w.os
  tape : w'.tape = w.tape
  output : w'.output = w.output
  size : w.heap.size ≤ w'.heap.size
  block : ∀ k, k < w.heap.size → ¬ P k → w'.heap[k]? = w.heap[k]?
section
variable {P Q : Nat → Prop} {a b c w w' : World}
theorem Off.refl (P : Nat → Prop) (w : World) : Off P w w := ⟨rfl, rfl, rfl, Nat.le_refl _, fun _ _ _ => rfl⟩
theorem Off.trans (h : Off P a b) (k : Off Q b c) (hQ : ∀ k, Q k → P k ∨ a.heap.size ≤ k) : Off P a c :=
  ⟨k.os.trans h.os, k.tape.trans h.tape, k.output.trans h.output, Nat.le_trans h.size k.size, fun i hi hp =>
    (k.block i (Nat.lt_of_lt_of_le hi h.size) (fun hq => by rcases hQ i hq with h1 | h1; exact hp h1; omega)).trans (h.block i hi hp)⟩
theorem Off.mono (h : Off P a b) (hP : ∀ k, P k → Q k) : Off Q a b := ⟨h.os, h.tape, h.output, h.size, fun k hk hn => h.block k hk fun hp => hn (hP k hp)⟩
theorem Off.of_only {S : List Nat} (h : OnlyIn S a b) (hS : ∀ k ∈ S, P k) : Off P a b := ⟨h.os, h.tape, h.output, h.size, fun k hk hn => h.block k hk fun hp => hn (hS k hp)⟩
theorem Off.of_below (P : Nat → Prop) (h : Below a.heap.size a b) : Off P a b := ⟨h.os, h.tape, h.output, h.size, fun k hk _ => h.block k hk⟩
theorem Off.to_below (h : Off P a b) {B : Nat} (hB : B ≤ a.heap.size) (hP : ∀ k, P k → B ≤ k) : Below B a b :=
  ⟨h.os, h.tape, h.output, h.size, fun k hk => h.block k (by omega) (fun hp => by have := hP k hp; omega)⟩
end
theorem Tx.same {w w' : World} {e : TypeId} {v : Value} {n : Nat} {xs : List Value} (h : Tx w e v n xs) (hv : ∀ k, v.ownBlock = some k → w'.heap[k]? = w.heap[k]?) : Tx w' e v n xs := by
  rcases h with h | ⟨hl, g, cur, rfl, hg, hx⟩
  · refine .inl ⟨h.1, ?_⟩
    rcases h.2 with hn | ⟨g, cap, cur, rfl, hb, hg, rest⟩
    · exact .inl hn
    · exact .inr ⟨g, cap, cur, rfl, hb, (hv g rfl).trans hg, rest⟩
  · exact .inr ⟨hl, g, cur, rfl, (hv g rfl).trans hg, hx⟩
theorem BagIs.same {w w' : World} {bs most : Nat} {v : Value} {l : List ByteArray} (h : BagIs w bs most v l) (hs : w'.heap[bs]? = w.heap[bs]?) (hv : ∀ k, v.ownBlock = some k → w'.heap[k]? = w.heap[k]?) : BagIs w' bs most v l :=
  ⟨hs.trans h.s, Tx.same h.t hv, h.le, h.small, h.apart⟩

/-- There is a link. -/
def Lk (sv i j : Nat) : Prop := i ≤ sv ∧ j ≤ sv ∧ i ≠ j
structure NetIs (P : Nat → Prop) (w : World) (bn sv : Nat) (B : Nat → Nat → Nat) (V : Nat → Nat → Value) (L : Nat → Nat → List ByteArray) : Prop where
  small : sv ≤ 8
  row : ∃ cs T, w.heap[bn]? = some (.cells cs T (0, 0)) ∧ cs[0]? = some (.int .i64 (sv : Int)) ∧ ∀ i j, Lk sv i j → cs[1 + i * 9 + j]? = some (.pointer (some ⟨B i j, 0, none⟩))
  pn : P bn
  bag : ∀ i j, Lk sv i j → BagIs w (B i j) 64 (V i j) (L i j)
  pb : ∀ i j, Lk sv i j → P (B i j) ∧ ∀ k, (V i j).ownBlock = some k → P k
  nb : ∀ i j, Lk sv i j → B i j ≠ bn ∧ ∀ k, (V i j).ownBlock = some k → k ≠ bn
  two : ∀ i j i' j', Lk sv i j → Lk sv i' j' → (i ≠ i' ∨ j ≠ j') → B i j ≠ B i' j' ∧ (∀ k, (V i j).ownBlock = some k → k ≠ B i' j') ∧ ∀ k, (V i j).ownBlock = some k → (V i' j').ownBlock ≠ some k
def upd {α : Type} (f : Nat → Nat → α) (i j : Nat) (x : α) : Nat → Nat → α := fun a b => if a = i ∧ b = j then x else f a b
theorem upd_same {α : Type} (f : Nat → Nat → α) (i j : Nat) (x : α) : upd f i j x i j = x := by simp [upd]
theorem upd_other {α : Type} (f : Nat → Nat → α) (i j : Nat) (x : α) {a b : Nat} (h : a ≠ i ∨ b ≠ j) : upd f i j x a b = f a b := by unfold upd; rw [if_neg (by omega)]
theorem upd_id {α : Type} (f : Nat → Nat → α) (i j : Nat) : upd f i j (f i j) = f := by
  funext a b
  unfold upd
  split
  · rename_i h; rw [h.1, h.2]
  · rfl

section
variable {P : Nat → Prop} {w w' : World} {bn sv : Nat} {B : Nat → Nat → Nat} {V : Nat → Nat → Value} {L : Nat → Nat → List ByteArray}
theorem NetIs.c0 (h : NetIs P w bn sv B V L) : w.cell? ⟨bn, 0, none⟩ = some (.int .i64 (sv : Int)) := by
  obtain ⟨cs, T, h1, h2, _⟩ := h.row
  rw [cell_of_row w bn 0 _ _ _ h1]; exact h2
theorem NetIs.cp (h : NetIs P w bn sv B V L) {i j : Nat} (hij : Lk sv i j) : w.cell? ⟨bn, 1 + i * 9 + j, none⟩ = some (.pointer (some ⟨B i j, 0, none⟩)) := by
  obtain ⟨cs, T, h1, _, h3⟩ := h.row
  rw [cell_of_row w bn _ _ _ _ h1]; exact h3 i j hij
theorem NetIs.lt (h : NetIs P w bn sv B V L) : bn < w.heap.size := by
  obtain ⟨cs, T, h1, _⟩ := h.row
  exact heap_lt h1
/-- What turned elsewhere leaves a net. -/
theorem NetIs.off {Q : Nat → Prop} (h : NetIs P w bn sv B V L) (ho : Off Q w w') (hQ : ∀ k, P k → k < w.heap.size → ¬ Q k) : NetIs P w' bn sv B V L := by
  refine ⟨h.small, ?_, h.pn, fun i j hij => ?_, h.pb, h.nb, h.two⟩
  · obtain ⟨cs, T, h1, h2⟩ := h.row
    exact ⟨cs, T, (ho.block bn (heap_lt h1) (hQ bn h.pn (heap_lt h1))).trans h1, h2⟩
  · have hb := h.bag i j hij
    obtain ⟨p1, p2⟩ := h.pb i j hij
    exact hb.same (ho.block _ (heap_lt hb.s) (hQ _ p1 (heap_lt hb.s))) fun k hk => ho.block k (hb.t.lt k hk) (hQ k (p2 k hk) (hb.t.lt k hk))
theorem NetIs.below (h : NetIs P w bn sv B V L) (hb : Below w.heap.size w w') : NetIs P w' bn sv B V L :=
  h.off (Off.of_below (fun _ => False) hb) (fun _ _ _ h => h)
theorem NetIs.mono {P' : Nat → Prop} (h : NetIs P w bn sv B V L) (hP : ∀ k, P k → P' k) : NetIs P' w bn sv B V L :=
  ⟨h.small, h.row, hP _ h.pn, h.bag, fun i j hij => ⟨hP _ (h.pb i j hij).1, fun k hk => hP k ((h.pb i j hij).2 k hk)⟩, h.nb, h.two⟩
/-- One bag has turned. -/
theorem NetIs.step (h : NetIs P w bn sv B V L) {i j : Nat} (hij : Lk sv i j) {v' : Value} {l' : List ByteArray} {S : List Nat} (hb : BagIs w' (B i j) 64 v' l') (ho : OnlyIn S w w')
    (hS : ∀ k ∈ S, k = B i j ∨ (V i j).ownBlock = some k) (hn : ∀ k, v'.ownBlock = some k → (V i j).ownBlock = some k ∨ w.heap.size ≤ k) :
    NetIs (fun k => P k ∨ w.heap.size ≤ k) w' bn sv B (upd V i j v') (upd L i j l') ∧ Off P w w' := by
  obtain ⟨pb1, pb2⟩ := h.pb i j hij
  have hoff : Off P w w' := Off.of_only ho fun k hk => by rcases hS k hk with e | e; exact e ▸ pb1; exact pb2 k e
  refine ⟨⟨h.small, ?_, .inl h.pn, fun a b hab => ?_, fun a b hab => ?_, fun a b hab => ?_, fun a b a' b' hab hab' hne => ?_⟩, hoff⟩
  · obtain ⟨cs, T, h1, h2⟩ := h.row
    refine ⟨cs, T, (ho.block bn (heap_lt h1) fun hk => ?_).trans h1, h2⟩
    rcases hS bn hk with e | e
    · exact (h.nb i j hij).1 e.symm
    · exact (h.nb i j hij).2 bn e rfl
  · by_cases he : a = i ∧ b = j
    · obtain ⟨rfl, rfl⟩ := he
      rw [upd_same, upd_same]; exact hb
    · rw [upd_other _ _ _ _ (by omega), upd_other _ _ _ _ (by omega)]
      have hab0 := h.bag a b hab
      obtain ⟨t1, t2, t3⟩ := h.two i j a b hij hab (by omega)
      obtain ⟨s1, s2, s3⟩ := h.two a b i j hab hij (by omega)
      refine hab0.same (ho.block _ (heap_lt hab0.s) fun hk => ?_) fun k hk => ho.block k (hab0.t.lt k hk) fun hkS => ?_
      · rcases hS _ hk with e | e
        · exact s1 e
        · exact t2 _ e rfl
      · rcases hS k hkS with e | e
        · exact s2 k hk e
        · exact s3 k hk e
  · refine ⟨.inl (h.pb a b hab).1, fun k hk => ?_⟩
    by_cases he : a = i ∧ b = j
    · obtain ⟨rfl, rfl⟩ := he
      rw [upd_same] at hk
      rcases hn k hk with e | e
      · exact .inl (pb2 k e)
      · exact .inr e
    · rw [upd_other _ _ _ _ (by omega)] at hk
      exact .inl ((h.pb a b hab).2 k hk)
  · refine ⟨(h.nb a b hab).1, fun k hk => ?_⟩
    by_cases he : a = i ∧ b = j
    · obtain ⟨rfl, rfl⟩ := he
      rw [upd_same] at hk
      rcases hn k hk with e | e
      · exact (h.nb a b hab).2 k e
      · have := h.lt; omega
    · rw [upd_other _ _ _ _ (by omega)] at hk
      exact (h.nb a b hab).2 k hk
  · obtain ⟨t1, t2, t3⟩ := h.two a b a' b' hab hab' hne
    obtain ⟨s1, s2, s3⟩ := h.two a' b' a b hab' hab (by omega)
    refine ⟨t1, fun k hk => ?_, fun k hk => ?_⟩
    · by_cases he : a = i ∧ b = j
      · obtain ⟨rfl, rfl⟩ := he
        rw [upd_same] at hk
        rcases hn k hk with e | e
        · exact t2 k e
        · have := heap_lt (h.bag a' b' hab').s; omega
      · rw [upd_other _ _ _ _ (by omega)] at hk
        exact t2 k hk
    · by_cases he : a = i ∧ b = j
      · obtain ⟨rfl, rfl⟩ := he
        rw [upd_same] at hk
        rw [upd_other _ _ _ _ (by omega)]
        rcases hn k hk with e | e
        · exact t3 k e
        · intro e2; have := (h.bag a' b' hab').t.lt k e2; omega
      · rw [upd_other _ _ _ _ (by omega)] at hk
        by_cases he' : a' = i ∧ b' = j
        · obtain ⟨rfl, rfl⟩ := he'
          rw [upd_same]
          intro e2
          rcases hn k e2 with e | e
          · exact t3 k hk e
          · have := (h.bag a b hab).t.lt k hk; omega
        · rw [upd_other _ _ _ _ (by omega)]
          exact t3 k hk
end

/-- A net: its block, how many services, and what is on its way. -/
def Nt (P : Nat → Prop) (w : World) (bn sv : Nat) (L : Nat → Nat → List ByteArray) : Prop := ∃ B V, NetIs P w bn sv B V L
section
variable {P : Nat → Prop} {w w' : World} {bn sv : Nat} {L : Nat → Nat → List ByteArray}
theorem Nt.off {Q : Nat → Prop} (h : Nt P w bn sv L) (ho : Off Q w w') (hQ : ∀ k, P k → k < w.heap.size → ¬ Q k) : Nt P w' bn sv L := let ⟨B, V, h⟩ := h; ⟨B, V, h.off ho hQ⟩
theorem Nt.below (h : Nt P w bn sv L) (hb : Below w.heap.size w w') : Nt P w' bn sv L := let ⟨B, V, h⟩ := h; ⟨B, V, h.below hb⟩
theorem Nt.mono {P' : Nat → Prop} (h : Nt P w bn sv L) (hP : ∀ k, P k → P' k) : Nt P' w bn sv L := let ⟨B, V, h⟩ := h; ⟨B, V, h.mono hP⟩
theorem Nt.c0 (h : Nt P w bn sv L) : w.cell? ⟨bn, 0, none⟩ = some (.int .i64 (sv : Int)) := let ⟨_, _, h⟩ := h; h.c0
theorem Nt.lt (h : Nt P w bn sv L) : bn < w.heap.size := let ⟨_, _, h⟩ := h; h.lt
theorem Nt.small (h : Nt P w bn sv L) : sv ≤ 8 := let ⟨_, _, h⟩ := h; h.small
theorem Nt.len (h : Nt P w bn sv L) {i j : Nat} (hij : Lk sv i j) : (L i j).length ≤ 64 := let ⟨_, _, h⟩ := h; (h.bag i j hij).le
end
end Go.Proofs.Ytlhlnaengedfgaa
