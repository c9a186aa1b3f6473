/- Contracts of the net's small methods: Has, bag, found, Put, At, Take, Twin, Len. Condition: the net is well made (Nt), or nil. -/
import Derived.Test.YtlhlnaengedfgaaNetA
namespace Go.Proofs.Ytlhlnaengedfgaa
open Go.RowKit Go.Lk

/-- Is there a link between two numbers? -/
def hasL (sv a b : Int) : Bool := decide (-1 ≤ a ∧ a < sv ∧ -1 ≤ b ∧ b < sv ∧ a ≠ b)
theorem hasL_yes {sv : Nat} {a b : Int} (h : hasL sv a b = true) : ∃ i j : Nat, a = (i : Int) - 1 ∧ b = (j : Int) - 1 ∧ Lk sv i j ∧ 1 ≤ sv := by
  have h := of_decide_eq_true h
  refine ⟨(a + 1).toNat, (b + 1).toNat, by omega, by omega, ⟨by omega, by omega, by omega⟩, by omega⟩

section
variable {P : Nat → Prop} (w : World) (bn sv : Nat) (L : Nat → Nat → List ByteArray)
set_option maxHeartbeats 1000000 in
theorem n_has_yes (c0 : w.cell? ⟨bn, 0, none⟩ = some (.int .i64 (sv : Int))) (i j : Nat) (hk : Lk sv i j) (h1 : 1 ≤ sv) :
    Calls Try.prog 36 #[.pointer (some ⟨bn, 0, none⟩), .int .i64 ((i : Int) - 1), .int .i64 ((j : Int) - 1)] w fun e w' => e = .returned (.bool true) ∧ w = w' := by
  obtain ⟨k1, k2, k3⟩ := hk
  have e1 : ((sv : Int) == 0) = false := by rw [beq_eq_false_iff_ne]; omega
  have e2 : (((i : Int) - 1) == ((j : Int) - 1)) = false := by rw [beq_eq_false_iff_ne]; omega
  have e3 : (-1 : Int) ≤ (i : Int) - 1 := by omega
  have e4 : (i : Int) - 1 < (sv : Int) := by omega
  have e5 : (-1 : Int) ≤ (j : Int) - 1 := by omega
  have e6 : (j : Int) - 1 < (sv : Int) := by omega
  clear k3
  go_enter Try.func36, Try.ntmps36
  go_wp2_with fail
  go_ret
  exact ⟨rfl, rfl⟩
theorem n_has (c0 : w.cell? ⟨bn, 0, none⟩ = some (.int .i64 (sv : Int))) (a b : Int) :
    Calls Try.prog 36 #[.pointer (some ⟨bn, 0, none⟩), .int .i64 a, .int .i64 b] w fun e w' => e = .returned (.bool (hasL sv a b)) ∧ w = w' := by
  cases hh : hasL sv a b with
  | true =>
    obtain ⟨i, j, rfl, rfl, hk, h1⟩ := hasL_yes hh
    exact n_has_yes w bn sv c0 i j hk h1
  | false =>
    have hn := of_decide_eq_false hh
    clear hh
    by_cases h0 : sv = 0
    · subst h0
      clear hn
      go_enter Try.func36, Try.ntmps36
      go_wp2_with fail
      go_ret
      exact ⟨rfl, rfl⟩
    · have e1 : ((sv : Int) == 0) = false := by rw [beq_eq_false_iff_ne]; omega
      by_cases hab : a = b
      · subst hab
        clear hn h0
        go_enter Try.func36, Try.ntmps36
        go_wp2_with fail
        go_ret
        exact ⟨rfl, rfl⟩
      · have e2 : (a == b) = false := by rw [beq_eq_false_iff_ne]; exact hab
        by_cases ha1 : -1 ≤ a
        · by_cases ha2 : a < (sv : Int)
          · by_cases hb1 : -1 ≤ b
            · have hb2 : ¬ b < (sv : Int) := by omega
              clear hn h0 hab
              go_enter Try.func36, Try.ntmps36
              go_wp2_with fail
              go_ret
              exact ⟨rfl, rfl⟩
            · clear hn h0 hab
              go_enter Try.func36, Try.ntmps36
              go_wp2_with fail
              go_ret
              exact ⟨rfl, rfl⟩
          · clear hn h0 hab
            go_enter Try.func36, Try.ntmps36
            go_wp2_with fail
            go_ret
            exact ⟨rfl, rfl⟩
        · clear hn h0 hab
          go_enter Try.func36, Try.ntmps36
          go_wp2_with fail
          go_ret
          exact ⟨rfl, rfl⟩
theorem n_has_nil (a b : Int) : Calls Try.prog 36 #[.pointer none, .int .i64 a, .int .i64 b] w fun e w' => e = .returned (.bool false) ∧ w = w' := by
  go_enter Try.func36, Try.ntmps36
  go_wp2_with fail
  go_ret
  exact ⟨rfl, rfl⟩
theorem n_bag_nil (a b : Int) : Calls Try.prog 40 #[.pointer none, .int .i64 a, .int .i64 b] w fun e w' => e = .returned (.pointer none) ∧ w = w' := by
  have HH := Lib.hid (n_has_nil w a b)
  go_enter Try.func40, Try.ntmps40
  go_wp2_with fail
  refine HH.out.mono ?_
  rintro e w1 ⟨rfl, hw⟩
  subst hw
  go_wp2_with fail
  go_ret
  exact ⟨rfl, rfl⟩
theorem n_bag_no (c0 : w.cell? ⟨bn, 0, none⟩ = some (.int .i64 (sv : Int))) (a b : Int) (h : hasL sv a b = false) :
    Calls Try.prog 40 #[.pointer (some ⟨bn, 0, none⟩), .int .i64 a, .int .i64 b] w fun e w' => e = .returned (.pointer none) ∧ w = w' := by
  have HH := Lib.hid (n_has w bn sv c0 a b)
  rw [h] at HH
  clear h
  go_enter Try.func40, Try.ntmps40
  go_wp2_with fail
  refine HH.out.mono ?_
  rintro e w1 ⟨rfl, hw⟩
  subst hw
  go_wp2_with fail
  go_ret
  exact ⟨rfl, rfl⟩
set_option maxHeartbeats 1000000 in
theorem n_bag_yes {B : Nat → Nat → Nat} {V : Nat → Nat → Value} (h : NetIs P w bn sv B V L) (i j : Nat) (hk : Lk sv i j) (h1 : 1 ≤ sv) :
    Calls Try.prog 40 #[.pointer (some ⟨bn, 0, none⟩), .int .i64 ((i : Int) - 1), .int .i64 ((j : Int) - 1)] w fun e w' => e = .returned (.pointer (some ⟨B i j, 0, none⟩)) ∧ w = w' := by
  have HH := Lib.hid (n_has_yes w bn sv h.c0 i j hk h1)
  have cp := h.cp hk
  have hs := h.small
  obtain ⟨k1, k2, k3⟩ := hk
  have i9 : i < 9 := by omega
  have j9 : j < 9 := by omega
  clear h k3
  have ew : IntKind.i64.wrap ((i : Int) - 1 + 1) = (i : Int) := by rw [IntKind.wrap_i64]; omega
  have ew2 : IntKind.i64.wrap ((j : Int) - 1 + 1) = (j : Int) := by rw [IntKind.wrap_i64]; omega
  have ei : (i : Int) - 1 + 1 = (i : Int) := by omega
  have ej : (j : Int) - 1 + 1 = (j : Int) := by omega
  go_enter Try.func40, Try.ntmps40
  go_wp2_with fail
  refine HH.out.mono ?_
  rintro e w1 ⟨rfl, hw⟩
  subst hw
  go_wp2_with fail
  go_ret
  exact ⟨rfl, rfl⟩
theorem found_yes (s : ByteArray) : Calls Try.prog 44 #[.string s, .bool true] w fun e w' => e = .returned (.tuple #[.string s, .int .i64 0]) ∧ w = w' := by
  go_enter Try.func44, Try.ntmps44
  go_wp2_with fail
  go_ret2
  exact ⟨rfl, rfl⟩
theorem found_no (s : ByteArray) : Calls Try.prog 44 #[.string s, .bool false] w fun e w' => e = .returned (.tuple #[.string ⟨#[]⟩, .int .i64 7]) ∧ w = w' := by
  go_enter Try.func44, Try.ntmps44
  go_wp2_with fail
  go_ret2
  exact ⟨rfl, rfl⟩
end
end Go.Proofs.Ytlhlnaengedfgaa
