/- Contracts of RotateLeft64 at the four counts that the program uses, and of the closure of Pair. Condition: the numbers are below 2^64. -/
import Derived.Test.YtheggklmkgffaaaRows
import Derived.Test.YtheggklmkgffaaaMixLaw
import Derived.WalkKit
import Derived.ProofKit
import Derived.OpenShut
import Derived.Outline
import Derived.Lib.Hide
import Derived.Deep.RegionWith
import Derived.Deep.DeepCutAuto
import Derived.Deep.RegionHeld3
namespace Go.Proofs.Ytheggklmkgffaaa
open Go.RowKit Go.Proofs.MixLaw

theorem rotl_m8 (x : Nat) (hx : x < 18446744073709551616) (w : World) :
    Calls Try.prog 30 #[.int .u64 x, .int .i64 (-8)] w fun e w' => e = .returned (.int .u64 (rot 56 x : Nat)) ∧ w = w' := by
  have hb : bits BinOp.and IntKind.u64 (IntKind.u64.wrap (-8)) 63 = 56 := by decide
  go_enter Try.func30, Try.ntmps30
  go_wp2
  go_ret
  exact ⟨congrArg (fun n => Ending.returned (.int .u64 n)) (or_rot 56 (by omega) x hx), rfl⟩
theorem rotl_3 (x : Nat) (hx : x < 18446744073709551616) (w : World) :
    Calls Try.prog 30 #[.int .u64 x, .int .i64 3] w fun e w' => e = .returned (.int .u64 (rot 3 x : Nat)) ∧ w = w' := by
  have hb : bits BinOp.and IntKind.u64 3 63 = 3 := by decide
  go_enter Try.func30, Try.ntmps30
  go_wp2
  go_ret
  exact ⟨congrArg (fun n => Ending.returned (.int .u64 n)) (or_rot 3 (by omega) x hx), rfl⟩
theorem rotl_m3 (x : Nat) (hx : x < 18446744073709551616) (w : World) :
    Calls Try.prog 30 #[.int .u64 x, .int .i64 (-3)] w fun e w' => e = .returned (.int .u64 (rot 61 x : Nat)) ∧ w = w' := by
  have hb : bits BinOp.and IntKind.u64 (IntKind.u64.wrap (-3)) 63 = 61 := by decide
  go_enter Try.func30, Try.ntmps30
  go_wp2
  go_ret
  exact ⟨congrArg (fun n => Ending.returned (.int .u64 n)) (or_rot 61 (by omega) x hx), rfl⟩
theorem rotl_8 (x : Nat) (hx : x < 18446744073709551616) (w : World) :
    Calls Try.prog 30 #[.int .u64 x, .int .i64 8] w fun e w' => e = .returned (.int .u64 (rot 8 x : Nat)) ∧ w = w' := by
  have hb : bits BinOp.and IntKind.u64 8 63 = 8 := by decide
  go_enter Try.func30, Try.ntmps30
  go_wp2
  go_ret
  exact ⟨congrArg (fun n => Ending.returned (.int .u64 n)) (or_rot 8 (by omega) x hx), rfl⟩

def Two (B x y : Nat) (w : World) : Prop :=
  w.heap[B]? = some (.cells #[.int .u64 (x : Int)] 22 (0, 0)) ∧ w.heap[B + 1]? = some (.cells #[.int .u64 (y : Int)] 22 (0, 0))


theorem Two.set0 {B x y z : Nat} {w : World} (h : Two B x y w) : Two B z y (w.setCell ⟨B, 0, none⟩ (.int .u64 (z : Int))) := by
  obtain ⟨h0, h1⟩ := h
  refine ⟨one_setCell h0, ?_⟩
  rw [Below.heap_setCell _ _ _ _ (by simp)]
  exact h1
theorem Two.set1 {B x y z : Nat} {w : World} (h : Two B x y w) : Two B x z (w.setCell ⟨B + 1, 0, none⟩ (.int .u64 (z : Int))) := by
  obtain ⟨h0, h1⟩ := h
  refine ⟨?_, one_setCell h1⟩
  rw [Below.heap_setCell _ _ _ _ (by simp)]
  exact h0
theorem Two.drew {B x y : Nat} {w : World} (h : Two B x y w) : Two B x y w.drew := h

theorem stepX_int (r x y : Nat) (hr : r < 18446744073709551616) : bits BinOp.xor IntKind.u64 (IntKind.u64.wrap (((rot 56 x : Nat) : Int) + (y : Int))) (r : Int) = ((stepX r x y : Nat) : Int) := by
  rw [IntKind.wrap_u64, ← Int.natCast_add, show (18446744073709551616 : Int) = ((M : Nat) : Int) from rfl, ← Int.natCast_emod, u64_xor_nat ((rot 56 x + y) % M) r (Nat.mod_lt _ (by decide)) hr]
  rfl
theorem stepY_int (r x y : Nat) (hr : r < 18446744073709551616) (hy : y < 18446744073709551616) : bits BinOp.xor IntKind.u64 ((rot 3 y : Nat) : Int) ((stepX r x y : Nat) : Int) = ((stepY r x y : Nat) : Int) := by
  rw [u64_xor_nat _ _ (rot_lt 3 y (by omega) hy) (stepX_lt r x y hr)]
  rfl

set_option maxHeartbeats 400000 in
theorem pair1 (B r x y : Nat) (hr : r < 18446744073709551616) (hx : x < 18446744073709551616) (hy : y < 18446744073709551616) (w : World) (h : Two B x y w) :
    Calls Try.prog 29 #[.int .u64 r, .pointer (some ⟨B, 0, none⟩), .pointer (some ⟨B + 1, 0, none⟩)] w fun e w' => e = .returned (.tuple #[]) ∧ Two B (stepX r x y) (stepY r x y) w' ∧ Below B w w' := by
  have H := Lib.hid h
  obtain ⟨h0, h1⟩ := h
  have c0 := cell_of_one h0
  have c1 := cell_of_one h1
  have f0 := free_of_one h0
  clear h0 h1
  go_enter Try.func29, Try.ntmps29
  go_upto_region 0 with fail
  go_cut [] (fun w' => Two B (stepX r x y) y w' ∧ Below B w w')
  case first =>
    go_region_with (go_at_call 30; refine (rotl_m8 x hx _).mono ?_; rintro e w' ⟨rfl, rfl⟩)
    all_goals (go_wp2_with fail; go_meet; rw [stepX_int r x y hr]; exact ⟨(H.out.set0).drew, ((Below.refl B w).setCell (p := ⟨B, 0, none⟩) (Nat.le_refl _) _).drew⟩)
  case rest =>
    obtain ⟨h, hb⟩ := hcut
    have H2 := Lib.hid h
    have Hb := Lib.hid hb
    obtain ⟨h0, h1⟩ := h
    have c0 := cell_of_one h0
    have c1 := cell_of_one h1
    have f1 := free_of_one h1
    clear h0 h1 hb
    go_wp2_with fail
    go_region_with (go_at_call 30; refine (rotl_3 y hy _).mono ?_; rintro e w' ⟨rfl, rfl⟩)
    all_goals
      go_wp2
      go_end0
      refine ⟨rfl, ?_⟩
      rw [stepY_int r x y hr hy]
      exact ⟨(H2.out.set1).drew, ((Hb.out).setCell (by simp) _).drew⟩
end Go.Proofs.Ytheggklmkgffaaa
