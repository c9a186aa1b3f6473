/- The document's net: Has and place. Condition: the cell that holds the number of services. -/
import Derived.Test.YtlhlnaengedfgaaNetC
namespace Go.Proofs.Ytlhlnaengedfgaa
open Go.RowKit Go.Lk

section
variable (w : World) (bx sv : Nat)
theorem d_has (c0 : w.cell? ⟨bx, 0, none⟩ = some (.int .i64 (sv : Int))) (a b : Int) :
    Calls Try.prog 41 #[.pointer (some ⟨bx, 0, none⟩), .int .i64 a, .int .i64 b] w fun e w' => e = .returned (.bool (hasL sv a b)) ∧ w = w' := by
  cases hh : hasL sv a b with
  | true =>
    obtain ⟨h1, h2, h3, h4, h5⟩ : -1 ≤ a ∧ a < (sv : Int) ∧ -1 ≤ b ∧ b < (sv : Int) ∧ a ≠ b := of_decide_eq_true hh
    have e2 : (a != b) = true := by rw [bne_iff_ne]; exact h5
    clear hh h5
    go_enter Try.func41, Try.ntmps41
    go_wp2_with fail
    go_ret
    exact ⟨rfl, rfl⟩
  | false =>
    have hn : ¬ (-1 ≤ a ∧ a < (sv : Int) ∧ -1 ≤ b ∧ b < (sv : Int) ∧ a ≠ b) := of_decide_eq_false hh
    clear hh
    by_cases ha1 : -1 ≤ a
    · by_cases ha2 : a < (sv : Int)
      · by_cases hb1 : -1 ≤ b
        · by_cases hb2 : b < (sv : Int)
          · have e : a = b := by omega
            subst e
            clear hn
            go_enter Try.func41, Try.ntmps41
            go_wp2_with fail
            go_ret
            exact ⟨rfl, rfl⟩
          · clear hn
            go_enter Try.func41, Try.ntmps41
            go_wp2_with fail
            go_ret
            exact ⟨rfl, rfl⟩
        · clear hn
          go_enter Try.func41, Try.ntmps41
          go_wp2_with fail
          go_ret
          exact ⟨rfl, rfl⟩
      · clear hn
        go_enter Try.func41, Try.ntmps41
        go_wp2_with fail
        go_ret
        exact ⟨rfl, rfl⟩
    · clear hn
      go_enter Try.func41, Try.ntmps41
      go_wp2_with fail
      go_ret
      exact ⟨rfl, rfl⟩
end
end Go.Proofs.Ytlhlnaengedfgaa
