/- The iterator over a net's links: all, and its closure. Condition: the net's number of services is known. -/
import Derived.RangeFuncNested
import Derived.RangeFuncBound
import Derived.RangeFuncCalls
import Derived.RangeFuncLeaves
import Derived.RangeFuncBox
import Derived.Shelf.Abstract
import Derived.WalkKit
import Derived.OwnWalkIn
import Derived.TacticsInMore
import Derived.LoopNIn
import Derived.LoopIn
import Derived.Maps.AppendAt
import Derived.Test.YtlhlnaengedfgaaNetD
namespace Go.Proofs.Ytlhlnaengedfgaa
open Go.RowKit Go.Lk Go.Shelf
attribute [local go_sem] Oper.semAt_some

/-- The links of a row, of whose ends the second is below m. -/
def rowL (i m : Nat) : List (Nat × Nat) := (List.range m).filterMap fun j => if i = j then none else some (i, j)
def upTo (sv i j : Nat) : List (Nat × Nat) := ((List.range i).flatMap fun a => rowL a (sv + 1)) ++ rowL i j
def allL (sv : Nat) : List (Nat × Nat) := (List.range (sv + 1)).flatMap fun a => rowL a (sv + 1)
theorem rowL_same (i : Nat) : rowL i (i + 1) = rowL i i := by
  unfold rowL
  rw [List.range_succ, List.filterMap_append]
  simp
theorem rowL_other {i j : Nat} (h : i ≠ j) : rowL i (j + 1) = rowL i j ++ [(i, j)] := by
  unfold rowL
  rw [List.range_succ, List.filterMap_append]
  simp [h]
theorem upTo_same (sv i : Nat) : upTo sv i (i + 1) = upTo sv i i := by unfold upTo; rw [rowL_same]
theorem upTo_other (sv : Nat) {i j : Nat} (h : i ≠ j) : upTo sv i (j + 1) = upTo sv i j ++ [(i, j)] := by unfold upTo; rw [rowL_other h, List.append_assoc]
theorem upTo_next (sv i : Nat) : upTo sv (i + 1) 0 = upTo sv i (sv + 1) := by
  unfold upTo
  rw [List.range_succ, List.flatMap_append]
  simp [rowL]
theorem upTo_zero (sv : Nat) : upTo sv 0 0 = [] := rfl
theorem upTo_end (sv : Nat) : upTo sv (sv + 1) 0 = allL sv := by
  unfold upTo allL
  simp [rowL]
theorem rowL_length (i m : Nat) : (rowL i m).length ≤ m := Nat.le_trans (List.length_filterMap_le _ _) (by simp)
theorem upTo_length (sv : Nat) : ∀ i j : Nat, (upTo sv i j).length ≤ i * (sv + 1) + j
  | 0, j => by unfold upTo; simp; exact rowL_length 0 j
  | i + 1, j => by
    have h1 := upTo_length sv i (sv + 1)
    have h2 := upTo_next sv i
    have h3 : upTo sv (i + 1) j = upTo sv (i + 1) 0 ++ rowL (i + 1) j := by unfold upTo; simp [rowL]
    have h4 := rowL_length (i + 1) j
    rw [h3, h2, List.length_append, Nat.add_mul]
    omega
/-- What a round must keep: how many services there are, and the box of the net. -/
def KN (bn Bs : Nat) (A B : World) : Prop := B.cell? ⟨bn, 0, none⟩ = A.cell? ⟨bn, 0, none⟩ ∧ B.cell? ⟨Bs, 0, none⟩ = A.cell? ⟨Bs, 0, none⟩
theorem KN.trans {bn Bs : Nat} {A B C : World} (h : KN bn Bs A B) (k : KN bn Bs B C) : KN bn Bs A C := ⟨k.1.trans h.1, k.2.trans h.2⟩

set_option maxRecDepth 100000 in
set_option maxHeartbeats 4000000 in
theorem all1_in (n : Nat) (hn : 1 ≤ n) (l bn Bs sv : Nat) (hsv : sv ≤ 8) (J Jx : List (Nat × Nat) → World → Prop)
    (hY : ∀ (pre : List (Nat × Nat)) (x : Nat × Nat) W, x.1 ≤ 8 → x.2 ≤ 8 → J pre W → pre.length < 81 → YieldAt Fence.wide (n - 1) Try.prog l #[.int .i64 ((x.1 : Int) - 1), .int .i64 ((x.2 : Int) - 1)] W fun e W' =>
      (e = .returned (.bool true) ∧ J (pre ++ [x]) W' ∧ KN bn Bs W W') ∨ (e = .returned (.bool false) ∧ Jx (pre ++ [x]) W'))
    (W : World) (hc : W.cell? ⟨bn, 0, none⟩ = some (.int .i64 (sv : Int))) (hBs : W.cell? ⟨Bs, 0, none⟩ = some (.pointer (some ⟨bn, 0, none⟩))) (h0 : J [] W) :
    CallsIn Fence.wide n Try.prog 47 #[.func (.yield l) #[] #[], .pointer (some ⟨Bs, 0, none⟩)] W fun e W' => (∃ v, e = .returned v) ∧
      ((∃ ys, ys = allL sv ∧ J ys W') ∨ (∃ pre, True ∧ Jx pre W')) := by
  refine callsIn_of_wp Try.func47 rfl trivial ?_ rfl
  simp only [Try.ntmps47, List.size_toArray, List.length_cons, List.length_nil, Nat.reduceAdd, Nat.reduceSub, Array.replicate_succ, Array.replicate_zero, List.push_toArray, List.append_toArray, List.nil_append, List.cons_append]
  gi_wp2
  gi_loopw [3] (fun v wr => ∃ i : Nat, i ≤ sv + 1 ∧ v = .int .i64 ((i : Int) - 1) ∧ J (upTo sv i 0) wr ∧ wr.cell? ⟨bn, 0, none⟩ = some (.int .i64 (sv : Int)) ∧ wr.cell? ⟨Bs, 0, none⟩ = some (.pointer (some ⟨bn, 0, none⟩)))
    (fun v _ => sv + 1 - (intOf v + 1).toNat)
  case atStart => exact ⟨0, by omega, rfl, h0, hc, hBs⟩
  case round =>
    obtain ⟨i, hi, rfl, hJ, hcr, hBr⟩ := hrel
    by_cases hlt : i < sv + 1
    · have hil : (i : Int) - 1 < (sv : Int) := by omega
      have HJ := Lib.hid hJ
      clear hJ
      gi_wp2
      gi_loopw [4] (fun v wr => ∃ j : Nat, j ≤ sv + 1 ∧ v = .int .i64 ((j : Int) - 1) ∧ J (upTo sv i j) wr ∧ wr.cell? ⟨bn, 0, none⟩ = some (.int .i64 (sv : Int)) ∧ wr.cell? ⟨Bs, 0, none⟩ = some (.pointer (some ⟨bn, 0, none⟩)))
        (fun v _ => sv + 1 - (intOf v + 1).toNat)
      case atStart => exact ⟨0, by omega, rfl, HJ.out, hcr, hBr⟩
      case round =>
        obtain ⟨j, hj, rfl, hJ, hcr, hBr⟩ := hrel
        have HJ := Lib.hid hJ
        clear hJ
        by_cases hlj : j < sv + 1
        · have hjl : (j : Int) - 1 < (sv : Int) := by omega
          have HH := Lib.hid (n_has wr bn sv hcr ((i : Int) - 1) ((j : Int) - 1))
          by_cases hij : i = j
          · subst hij
            have e1 : hasL sv ((i : Int) - 1) ((i : Int) - 1) = false := by unfold hasL; simp
            rw [e1] at HH
            have HJ2 : Hid (J (upTo sv i (i + 1)) wr) := by have h1 := HJ.out; rw [← upTo_same] at h1; exact h1
            gi_wp2_with (refine ⟨trivial, ?_⟩; gi_at_call 36; refine (callsIn_wide.2 HH.out).mono ?_; rintro e w' ⟨rfl, rfl⟩)
            refine ⟨fun _ h => (by cases h), ?_⟩
            gi_wp2
            exact ⟨⟨i + 1, by omega, by congr 1; omega, HJ2.out, hcr, hBr⟩, by simp [intOf]; omega⟩
          · have e1 : hasL sv ((i : Int) - 1) ((j : Int) - 1) = true := by unfold hasL; simp; omega
            rw [e1] at HH
            obtain ⟨fn, tmps, assign, body, hy, hR⟩ := hY (upTo sv i j) (i, j) wr (by show i ≤ 8; omega) (by show j ≤ 8; omega) HJ.out (by have := upTo_length sv i j; have : i * (sv + 1) ≤ 8 * 9 := Nat.mul_le_mul (by omega) (by omega); omega)
            dsimp only at hy
            gi_wp2_with (refine ⟨trivial, ?_⟩; gi_at_call 36; refine (callsIn_wide.2 HH.out).mono ?_; rintro e w' ⟨rfl, rfl⟩)
            refine hR.mono ?_
            rintro e W3 (⟨rfl, hJ3, hk3⟩ | ⟨rfl, hJx3⟩)
            · have hc3 := hk3.1.trans hcr
              have hb3 := hk3.2.trans hBr
              have HJ3 : Hid (J (upTo sv i (j + 1)) W3) := by rw [upTo_other sv hij]; exact hJ3
              clear hJ3 hk3
              gi_wp2
              exact ⟨⟨j + 1, by omega, by congr 1; omega, HJ3.out, hc3, hb3⟩, by simp [intOf]; omega⟩
            · gi_wp2
              refine bodyPost_ret (results_none rfl _ _ _) rfl ?_
              exact ⟨⟨_, rfl⟩, .inr ⟨_, trivial, hJx3⟩⟩
        · have : j = sv + 1 := by omega
          subst this
          have hnl : ¬ (((sv + 1 : Nat) : Int) - 1 < (sv : Int)) := by omega
          have HJ2 : Hid (J (upTo sv (i + 1) 0) wr) := by have h1 := HJ.out; rw [← upTo_next] at h1; exact h1
          gi_wp2
          exact ⟨⟨i + 1, by omega, by congr 1; omega, HJ2.out, hcr, hBr⟩, by simp [intOf]; omega⟩
    · have : i = sv + 1 := by omega
      subst this
      have hnl : ¬ (((sv + 1 : Nat) : Int) - 1 < (sv : Int)) := by omega
      gi_wp2
      go_end0
      exact ⟨⟨_, rfl⟩, .inl (upTo_end sv ▸ hJ)⟩
end Go.Proofs.Ytlhlnaengedfgaa
