/- The document's net: place. Condition: the cell that holds the number of services; a link within the bounds. -/
import Derived.Test.YtlhlnaengedfgaaNetP
namespace Go.Proofs.Ytlhlnaengedfgaa
open Go.RowKit Go.Lk

section
variable (w : World) (bx sv : Nat)
theorem d_place (hs : sv ≤ 8) (c0 : w.cell? ⟨bx, 0, none⟩ = some (.int .i64 (sv : Int))) (i j : Nat) (hi : i ≤ 8) (hj : j ≤ 8) :
    Calls Try.prog 43 #[.pointer (some ⟨bx, 0, none⟩), .int .i64 ((i : Int) - 1), .int .i64 ((j : Int) - 1)] w fun e w' => e = .returned (.int .i64 ((i * (sv + 1) + j : Nat) : Int)) ∧ w = w' := by
  obtain ⟨q, hq⟩ : ∃ q : Nat, i * (sv + 1) = q := ⟨_, rfl⟩
  have hq8 : q ≤ 72 := by
    rw [← hq]
    have h9 : sv + 1 ≤ 9 := by omega
    exact Nat.mul_le_mul hi h9
  have hqi : (i : Int) * ((sv : Int) + 1) = (q : Int) := by rw [← hq]; simp
  rw [hq]
  have HQ := Lib.hid hq
  clear hq
  go_enter Try.func43, Try.ntmps43
  go_wp2_with fail
  go_ret
  have e9 : (q : Int) + ((j : Int) - 1) + 1 = ((q + j : Nat) : Int) := by omega
  exact ⟨congrArg (fun z => Ending.returned (.int .i64 z)) e9, rfl⟩
end
end Go.Proofs.Ytlhlnaengedfgaa
