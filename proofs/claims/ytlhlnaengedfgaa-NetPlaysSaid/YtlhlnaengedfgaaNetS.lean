/- The document's net: Of. Condition: it is well made (DocIs). -/
import Derived.Test.YtlhlnaengedfgaaNetR
namespace Go.Proofs.Ytlhlnaengedfgaa
open Go.RowKit Go.Lk

/-- What is on its way behind a link. -/
def ofN (sv : Nat) (L : Nat → Nat → List ByteArray) (a b : Int) : List ByteArray := if hasL sv a b then L (ix a) (ix b) else []
theorem ofN_yes {sv : Nat} (L : Nat → Nat → List ByteArray) {i j : Nat} (hh : hasL sv ((i : Int) - 1) ((j : Int) - 1) = true) : ofN sv L ((i : Int) - 1) ((j : Int) - 1) = L i j := by
  unfold ofN; rw [hh, ix_nat, ix_nat]; rfl
theorem ofN_no {sv : Nat} (L : Nat → Nat → List ByteArray) {a b : Int} (hh : hasL sv a b = false) : ofN sv L a b = [] := by
  unfold ofN; rw [hh]; rfl
/-- A row of the document's, as it is read. -/
structure Rd (Q : Nat → Prop) (w : World) (u : Value) (l : List ByteArray) : Prop where
  row : Tx w 9 u l.length (strs l)
  le : l.length ≤ 64
  own : ∀ k, u.ownBlock = some k → Q k
section
variable {Q : Nat → Prop} (w : World) (bx gr sv : Nat) (U : Nat → Nat → Value) (L : Nat → Nat → List ByteArray)
set_option maxHeartbeats 1000000 in
theorem d_of (h : DocIs Q w bx gr sv U L) (a b : Int) :
    Calls Try.prog 42 #[.pointer (some ⟨bx, 0, none⟩), .int .i64 a, .int .i64 b] w fun e w' => ∃ u, (e = .returned u ∧ Rd Q w u (ofN sv L a b)) ∧ ∃ m, w' = w.drewN m := by
  cases hh : hasL sv a b with
  | false =>
    rw [ofN_no L hh]
    have HH := Lib.hid (d_has w bx sv h.c0 a b)
    rw [hh] at HH
    clear hh h
    go_enter Try.func42, Try.ntmps42
    go_wp2_with fail
    refine HH.out.mono ?_
    rintro e w1 ⟨rfl, hw⟩
    subst hw
    go_wp2_with fail
    go_ret
    exact ⟨_, ⟨rfl, Tx.nil _ _, by simp, by simp [Value.ownBlock]⟩, 0, rfl⟩
  | true =>
    obtain ⟨i, j, rfl, rfl, hk, _⟩ := hasL_yes hh
    rw [ofN_yes L hh]
    have HH := Lib.hid (d_has w bx sv h.c0 ((i : Int) - 1) ((j : Int) - 1))
    rw [hh] at HH
    have HP := Lib.hid (fun m => d_place (w.drewN m) bx sv h.small h.c0 i j (by have := hk.1; have := h.small; omega) (by have := hk.2.1; have := h.small; omega))
    have c1 := h.c1
    have c2 := h.cp hk.1 hk.2.1
    have hq := place_lt (n := sv + 1) (i := i) (j := j) (by have := hk.1; omega) (by have := hk.2.1; omega)
    have FIN : Hid (Rd Q w (U i j) (L i j)) := ⟨(h.rows i j hk).1, (h.rows i j hk).2, fun k hk2 => (h.own i j hk k hk2).1⟩
    generalize i * (sv + 1) + j = q at *
    generalize (sv + 1) * (sv + 1) = n at *
    generalize U i j = u at *
    have hd : decide ((q : Int) < (n : Int)) = true := by simp; omega
    obtain ⟨A, c, rfl, _, _, _⟩ := FIN.out.row.form
    clear hh h hk
    go_enter Try.func42, Try.ntmps42
    go_wp2_with fail
    refine HH.out.mono ?_
    rintro e w1 ⟨rfl, hw⟩
    subst hw
    go_wp2_with fail
    go_quiet ((go_at_call 43; exact quiet_l (HP.out _)))
    go_wp2_with fail
    go_ret
    exact ⟨_, ⟨rfl, FIN.out⟩, _, rfl⟩
end
end Go.Proofs.Ytlhlnaengedfgaa
