/- What is done with one link changes nothing of others: the lists alone. No condition. -/
import Derived.Test.YtlhlnaengedfgaaNetI
namespace Go.Proofs.Ytlhlnaengedfgaa
open Go.RowKit Go.Lk

/-- The second net holds what the first holds at one link, and nothing else. -/
structure Ap (fr tt : Int) (Ln Lm : Nat → Nat → List ByteArray) : Prop where
  same : hasL 8 fr tt = true → Lm (ix fr) (ix tt) = Ln (ix fr) (ix tt)
  none : ∀ a b, Lk 8 a b → ¬ (hasL 8 fr tt = true ∧ a = ix fr ∧ b = ix tt) → Lm a b = []
theorem hasL_ix {a b : Int} (h : hasL 8 a b = true) : Lk 8 (ix a) (ix b) := by
  obtain ⟨i, j, rfl, rfl, hk, _⟩ := hasL_yes (sv := 8) h
  rw [ix_nat, ix_nat]; exact hk
theorem ix_ne {a b fr tt : Int} (h1 : hasL 8 a b = true) (h2 : hasL 8 fr tt = true) (hne : ¬ (a = fr ∧ b = tt)) : ix a ≠ ix fr ∨ ix b ≠ ix tt := by
  obtain ⟨i, j, rfl, rfl, _, _⟩ := hasL_yes (sv := 8) h1
  obtain ⟨i', j', rfl, rfl, _, _⟩ := hasL_yes (sv := 8) h2
  rw [ix_nat, ix_nat, ix_nat, ix_nat]
  omega
section
variable {fr tt : Int} {Ln Lm : Nat → Nat → List ByteArray}
theorem Ap.start (fr tt : Int) : Ap fr tt (fun _ _ => []) (fun _ _ => []) := ⟨fun _ => rfl, fun _ _ _ _ => rfl⟩
theorem Ap.len (h : Ap fr tt Ln Lm) : lenN 8 Lm fr tt = lenN 8 Ln fr tt := by
  unfold lenN
  cases hh : hasL 8 fr tt with
  | false => rfl
  | true => simp only [if_true]; rw [h.same hh]
theorem Ap.at_ (h : Ap fr tt Ln Lm) (p : Int) : atN 8 Lm fr tt p = atN 8 Ln fr tt p := by
  unfold atN
  cases hh : hasL 8 fr tt with
  | false => rfl
  | true => rw [h.same hh]
theorem Ap.upd_both (h : Ap fr tt Ln Lm) (hh : hasL 8 fr tt = true) (l : List ByteArray) : Ap fr tt (upd Ln (ix fr) (ix tt) l) (upd Lm (ix fr) (ix tt) l) := by
  refine ⟨fun _ => by rw [upd_same, upd_same], fun a b hab hn => ?_⟩
  have hne : a ≠ ix fr ∨ b ≠ ix tt := by
    rcases Decidable.em (a = ix fr) with e | e
    · exact .inr fun e2 => hn ⟨hh, e, e2⟩
    · exact .inl e
  rw [Ytlhlnaengedfgaa.upd_other _ _ _ _ hne]
  exact h.none a b hab hn
theorem Ap.upd_other (h : Ap fr tt Ln Lm) {a b : Int} (hab : hasL 8 a b = true) (hne : ¬ (a = fr ∧ b = tt)) (l : List ByteArray) : Ap fr tt (upd Ln (ix a) (ix b) l) Lm :=
  ⟨fun hh => by rw [Ytlhlnaengedfgaa.upd_other _ _ _ _ (by have := ix_ne hab hh hne; omega)]; exact h.same hh, h.none⟩
theorem Ap.put_mine (h : Ap fr tt Ln Lm) (s : ByteArray) : (putN 8 Lm fr tt s).2 = (putN 8 Ln fr tt s).2 ∧ Ap fr tt (putN 8 Ln fr tt s).1 (putN 8 Lm fr tt s).1 := by
  unfold putN
  cases hh : hasL 8 fr tt with
  | false => exact ⟨rfl, h⟩
  | true =>
    simp only [if_true]
    rw [h.same hh]
    split
    · exact ⟨rfl, h.upd_both hh _⟩
    · exact ⟨rfl, h⟩
theorem Ap.put_other (h : Ap fr tt Ln Lm) {a b : Int} (hne : ¬ (a = fr ∧ b = tt)) (s : ByteArray) : Ap fr tt (putN 8 Ln a b s).1 Lm := by
  unfold putN
  cases hh : hasL 8 a b with
  | false => exact h
  | true =>
    simp only [if_true]
    split
    · exact h.upd_other hh hne _
    · exact h
theorem Ap.twin_mine (h : Ap fr tt Ln Lm) (p : Int) : (twinN 8 Lm fr tt p).2 = (twinN 8 Ln fr tt p).2 ∧ Ap fr tt (twinN 8 Ln fr tt p).1 (twinN 8 Lm fr tt p).1 := by
  unfold twinN
  cases hh : hasL 8 fr tt with
  | false => exact ⟨rfl, h⟩
  | true =>
    rw [h.same hh]
    split
    · split
      · exact ⟨rfl, h.upd_both hh _⟩
      · exact ⟨rfl, h⟩
    · exact ⟨rfl, h⟩
theorem Ap.twin_other (h : Ap fr tt Ln Lm) {a b : Int} (hne : ¬ (a = fr ∧ b = tt)) (p : Int) : Ap fr tt (twinN 8 Ln a b p).1 Lm := by
  unfold twinN
  cases hh : hasL 8 a b with
  | false => exact h
  | true =>
    split
    · split
      · exact h.upd_other hh hne _
      · exact h
    · exact h
theorem Ap.take_mine (h : Ap fr tt Ln Lm) (p : Int) : (takeN 8 Lm fr tt p).2 = (takeN 8 Ln fr tt p).2 ∧ Ap fr tt (takeN 8 Ln fr tt p).1 (takeN 8 Lm fr tt p).1 := by
  unfold takeN
  cases hh : hasL 8 fr tt with
  | false => exact ⟨rfl, h⟩
  | true =>
    rw [h.same hh]
    split
    · exact ⟨rfl, h.upd_both hh _⟩
    · exact ⟨rfl, h⟩
theorem Ap.take_other (h : Ap fr tt Ln Lm) {a b : Int} (hne : ¬ (a = fr ∧ b = tt)) (p : Int) : (takeN 8 Lm a b p).1 = Lm ∧ Ap fr tt (takeN 8 Ln a b p).1 Lm := by
  unfold takeN
  cases hh : hasL 8 a b with
  | false => exact ⟨rfl, h⟩
  | true =>
    have h0 : Lm (ix a) (ix b) = [] := h.none _ _ (hasL_ix hh) fun ⟨h1, h2, h3⟩ => by
      rcases ix_ne hh h1 hne with e | e
      · exact e h2
      · exact e h3
    have hi : inR (Lm (ix a) (ix b)) p = false := by rw [h0]; unfold inR; simp
    rw [hi]
    refine ⟨rfl, ?_⟩
    split
    · exact h.upd_other hh hne _
    · exact h
end
/-- Each link is told once. -/
theorem allL_nodup : (allL 8).Nodup := by decide +kernel
theorem allL_lk : ∀ x ∈ allL 8, Lk 8 x.1 x.2 := by
  intro x hx
  unfold allL rowL at hx
  rw [List.mem_flatMap] at hx
  obtain ⟨i, hi, hx⟩ := hx
  rw [List.mem_filterMap] at hx
  obtain ⟨j, hj, he⟩ := hx
  rw [List.mem_range] at hi hj
  split at he
  · cases he
  · injection he with he
    subst he
    exact ⟨by show i ≤ 8; omega, by show j ≤ 8; omega, by assumption⟩
theorem lenX_lk {L : Nat → Nat → List ByteArray} {x : Nat × Nat} (h : Lk 8 x.1 x.2) : lenX 8 L x = (L x.1 x.2).length := by
  obtain ⟨h1, h2, h3⟩ := h
  have hh : hasL ((8 : Nat) : Int) ((x.1 : Int) - 1) ((x.2 : Int) - 1) = true := by unfold hasL; simp; omega
  unfold lenX lenN
  rw [hh, ix_nat, ix_nat]
  rfl
/-- A sum of which all but one are 0. -/
theorem sum_none {α : Type} (f : α → Nat) (t : α) : ∀ l : List α, t ∉ l → (∀ x ∈ l, x ≠ t → f x = 0) → (l.map f).sum = 0
  | [], _, _ => rfl
  | x :: l, hn, hz => by
    simp only [List.map_cons, List.sum_cons]
    rw [hz x (by simp) (fun e => hn (by rw [e]; simp)), sum_none f t l (fun h => hn (List.mem_cons_of_mem _ h)) fun y hy => hz y (List.mem_cons_of_mem _ hy)]
theorem sum_one {α : Type} (f : α → Nat) (t : α) : ∀ l : List α, l.Nodup → t ∈ l → (∀ x ∈ l, x ≠ t → f x = 0) → (l.map f).sum = f t
  | [], _, ht, _ => by cases ht
  | x :: l, hn, ht, hz => by
    rw [List.nodup_cons] at hn
    simp only [List.map_cons, List.sum_cons]
    rcases List.mem_cons.1 ht with e | e
    · subst e
      rw [sum_none f t l hn.1 fun y hy => hz y (List.mem_cons_of_mem _ hy)]; omega
    · rw [hz x (by simp) (fun e2 => hn.1 (e2 ▸ e)), sum_one f t l hn.2 e fun y hy => hz y (List.mem_cons_of_mem _ hy)]; omega
theorem sum_zero {α : Type} (f : α → Nat) : ∀ l : List α, (∀ x ∈ l, f x = 0) → (l.map f).sum = 0
  | [], _ => rfl
  | x :: l, h => by
    simp only [List.map_cons, List.sum_cons]
    rw [h x (by simp), sum_zero f l fun y hy => h y (List.mem_cons_of_mem _ hy)]
theorem Ap.sum {fr tt : Int} {Ln Lm : Nat → Nat → List ByteArray} (h : Ap fr tt Ln Lm) : sumL 8 Lm (allL 8) = lenN 8 Lm fr tt := by
  unfold sumL
  cases hh : hasL 8 fr tt with
  | false =>
    have e1 : lenN 8 Lm fr tt = 0 := by unfold lenN; rw [show hasL ((8 : Nat) : Int) fr tt = false from hh]; rfl
    rw [e1]
    refine sum_zero _ _ fun x hx => ?_
    rw [lenX_lk (allL_lk x hx), h.none _ _ (allL_lk x hx) (by rw [hh]; simp)]
    rfl
  | true =>
    have hk := hasL_ix hh
    have e1 : lenN 8 Lm fr tt = (Lm (ix fr) (ix tt)).length := by unfold lenN; rw [show hasL ((8 : Nat) : Int) fr tt = true from hh]; rfl
    rw [sum_one (lenX 8 Lm) (ix fr, ix tt) (allL 8) allL_nodup (mem_allL hk) fun x hx hne => by
      rw [lenX_lk (allL_lk x hx), h.none _ _ (allL_lk x hx) fun ⟨_, h2, h3⟩ => hne (Prod.ext h2 h3)]
      rfl, lenX_lk (x := (ix fr, ix tt)) hk, e1]
end Go.Proofs.Ytlhlnaengedfgaa
