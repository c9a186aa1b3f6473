/- Plain law of the mixing: rotations of 64 bits, the eight rounds forth and back, that they undo each other. No program here, no condition. -/
import Derived.Laws.BitsAllLaws
import Derived.Laws.Bits64
namespace Go.Proofs.MixLaw

def M : Nat := 18446744073709551616
def turn1 (x : Nat) : Nat := (2 * x) % M + x / 9223372036854775808
def turnN : Nat → Nat → Nat
  | 0, x => x
  | n + 1, x => turn1 (turnN n x)
def rot (n x : Nat) : Nat := (x * 2 ^ n) % M + x / 2 ^ (64 - n)

theorem M_pow : M = 2 ^ 64 := by decide

theorem turn1_lt (x : Nat) (h : x < M) : turn1 x < M := by
  unfold turn1 M at *; omega
theorem turnN_lt (n x : Nat) (h : x < M) : turnN n x < M := by
  induction n with
  | zero => exact h
  | succ n ih => exact turn1_lt _ ih

theorem rot_split (n x : Nat) (hn : n ≤ 64) : rot n x = (x % 2 ^ (64 - n)) * 2 ^ n + x / 2 ^ (64 - n) := by
  unfold rot
  rw [M_pow]
  have e : (2 : Nat) ^ 64 = 2 ^ (64 - n) * 2 ^ n := by rw [← Nat.pow_add]; congr 1; omega
  rw [e, Nat.mul_mod_mul_right]

theorem rot_succ (n x : Nat) (hn : n < 64) (hx : x < M) : rot (n + 1) x = turn1 (rot n x) := by
  rw [rot_split _ _ (by omega), rot_split _ _ (by omega)]
  obtain ⟨m, hm⟩ : ∃ m, 64 - (n + 1) = m := ⟨_, rfl⟩
  have hm2 : 64 - n = m + 1 := by omega
  rw [hm, hm2]
  have hq : x / 2 ^ (m + 1) < 2 ^ n := by
    rw [Nat.div_lt_iff_lt_mul (Nat.two_pow_pos _), ← Nat.pow_add]
    have : n + (m + 1) = 64 := by omega
    rw [this, ← M_pow]; exact hx
  have h1 : x / 2 ^ m = 2 * (x / 2 ^ (m + 1)) + (x / 2 ^ m) % 2 := by
    rw [Nat.pow_succ, ← Nat.div_div_eq_div_mul]; omega
  have h2 : x % 2 ^ (m + 1) = 2 ^ m * ((x / 2 ^ m) % 2) + x % 2 ^ m := by
    rw [Nat.pow_succ, Nat.mod_mul]; omega
  have h3 : x % 2 ^ m < 2 ^ m := Nat.mod_lt _ (Nat.two_pow_pos _)
  have hp : 2 ^ m * 2 ^ n = 9223372036854775808 := by
    rw [← Nat.pow_add]; have : m + n = 63 := by omega
    rw [this]
  generalize x / 2 ^ m = a at *
  generalize x / 2 ^ (m + 1) = b at *
  generalize x % 2 ^ (m + 1) = c at *
  generalize x % 2 ^ m = d at *
  have hd : d * 2 ^ n + 2 ^ n ≤ 9223372036854775808 := by
    rw [← hp, ← Nat.succ_mul]; exact Nat.mul_le_mul_right _ h3
  have hc : c * 2 ^ n = 9223372036854775808 * (a % 2) + d * 2 ^ n := by
    rw [h2, Nat.add_mul, ← hp, Nat.mul_right_comm]
  have hs : d * 2 ^ (n + 1) = 2 * (d * 2 ^ n) := by rw [Nat.pow_succ]; rw [← Nat.mul_assoc, Nat.mul_comm]
  rw [hs, hc]
  unfold turn1 M
  generalize d * 2 ^ n = e at *
  generalize 2 ^ n = f at *
  rcases Nat.mod_two_eq_zero_or_one a with h | h <;> rw [h] at h1 ⊢ <;> omega

theorem rot_zero (x : Nat) (hx : x < M) : rot 0 x = x := by
  unfold rot M at *
  simp
  omega

theorem rot_turn (n x : Nat) (hn : n ≤ 64) (hx : x < M) : rot n x = turnN n x := by
  induction n with
  | zero => exact rot_zero x hx
  | succ n ih => rw [rot_succ n x (by omega) hx, ih (by omega)]; rfl

theorem turnN_add (m n x : Nat) : turnN m (turnN n x) = turnN (m + n) x := by
  induction m with
  | zero => simp [turnN]
  | succ m ih => rw [Nat.succ_add]; simp [turnN, ih]

theorem turn64 (x : Nat) (hx : x < M) : turnN 64 x = x := by
  rw [← rot_turn 64 x (by omega) hx]
  unfold rot M at *
  simp

theorem rot_lt (n x : Nat) (hn : n ≤ 64) (hx : x < M) : rot n x < M := by
  rw [rot_turn n x hn hx]; exact turnN_lt n x hx

theorem rot_back (m n x : Nat) (h : m + n = 64) (hx : x < M) : rot m (rot n x) = x := by
  rw [rot_turn n x (by omega) hx, rot_turn m _ (by omega) (turnN_lt n x hx), turnN_add, h, turn64 x hx]

theorem rot_or (n x : Nat) (hn : n ≤ 64) (hx : x < M) : (x * 2 ^ n) % M ||| x / 2 ^ (64 - n) = rot n x := by
  have hq : x / 2 ^ (64 - n) < 2 ^ n := by
    rw [Nat.div_lt_iff_lt_mul (Nat.two_pow_pos _), ← Nat.pow_add]
    have : n + (64 - n) = 64 := by omega
    rw [this, ← M_pow]; exact hx
  rw [rot_split n x hn, M_pow]
  have e : (2 : Nat) ^ 64 = 2 ^ (64 - n) * 2 ^ n := by rw [← Nat.pow_add]; congr 1; omega
  rw [e, Nat.mul_mod_mul_right, Nat.mul_comm _ (2 ^ n), ← Nat.two_pow_add_eq_or_of_lt hq]

/-- One round. -/
def stepX (r x y : Nat) : Nat := ((rot 56 x + y) % M) ^^^ r
def stepY (r x y : Nat) : Nat := rot 3 y ^^^ stepX r x y
def backY (_r x y : Nat) : Nat := rot 61 (y ^^^ x)
def backX (r x y : Nat) : Nat := rot 8 (((x ^^^ r) + (M - backY r x y)) % M)

theorem xor_lt (a b : Nat) (ha : a < M) (hb : b < M) : a ^^^ b < M := by
  rw [M_pow] at *; exact Nat.xor_lt_two_pow ha hb
theorem stepX_lt (r x y : Nat) (hr : r < M) : stepX r x y < M := xor_lt _ _ (Nat.mod_lt _ (by decide)) hr
theorem stepY_lt (r x y : Nat) (hr : r < M) (hy : y < M) : stepY r x y < M := xor_lt _ _ (rot_lt _ _ (by omega) hy) (stepX_lt r x y hr)
theorem backY_lt (r x y : Nat) (hx : x < M) (hy : y < M) : backY r x y < M := rot_lt _ _ (by omega) (xor_lt _ _ hy hx)
theorem backX_lt (r x y : Nat) : backX r x y < M := rot_lt _ _ (by omega) (Nat.mod_lt _ (by decide))

theorem xor_xor (a b : Nat) : a ^^^ b ^^^ b = a := by rw [Nat.xor_assoc, Nat.xor_self, Nat.xor_zero]

theorem back_step (r x y : Nat) (hx : x < M) (hy : y < M) :
    backX r (stepX r x y) (stepY r x y) = x ∧ backY r (stepX r x y) (stepY r x y) = y := by
  have hY : backY r (stepX r x y) (stepY r x y) = y := by
    unfold backY stepY
    rw [xor_xor, rot_back 61 3 y (by omega) hy]
  refine ⟨?_, hY⟩
  unfold backX
  rw [hY]
  have : stepX r x y ^^^ r = (rot 56 x + y) % M := by unfold stepX; rw [xor_xor]
  rw [this]
  have h2 := rot_lt 56 x (by omega) hx
  have : ((rot 56 x + y) % M + (M - y)) % M = rot 56 x := by
    generalize rot 56 x = z at *
    unfold M at *; omega
  rw [this, rot_back 8 56 x (by omega) hx]

theorem step_back (r x y : Nat) (hr : r < M) (hx : x < M) (hy : y < M) :
    stepX r (backX r x y) (backY r x y) = x ∧ stepY r (backX r x y) (backY r x y) = y := by
  have hX : stepX r (backX r x y) (backY r x y) = x := by
    unfold stepX backX
    rw [rot_back 56 8 _ (by omega) (Nat.mod_lt _ (by decide))]
    have h1 := backY_lt r x y hx hy
    have h2 := xor_lt x r hx hr
    have : (((x ^^^ r) + (M - backY r x y)) % M + backY r x y) % M = x ^^^ r := by
      generalize x ^^^ r = z at *
      generalize backY r x y = q at *
      unfold M at *; omega
    rw [this, xor_xor]
  refine ⟨hX, ?_⟩
  unfold stepY
  rw [hX]
  unfold backY
  rw [rot_back 3 61 _ (by omega) (xor_lt _ _ hy hx), xor_xor]

/-- The key of round i. -/
def rk (key i : Nat) : Nat := (key + i * 11400714819323198485) % M
theorem rk_lt (key i : Nat) : rk key i < M := Nat.mod_lt _ (by decide)

/-- The first n rounds. -/
def pairN (key x y : Nat) : Nat → Nat × Nat
  | 0 => (x, y)
  | n + 1 => (stepX (rk key n) (pairN key x y n).1 (pairN key x y n).2, stepY (rk key n) (pairN key x y n).1 (pairN key x y n).2)
/-- Back through rounds 7, 6, .. : n of them. -/
def backN (key x y : Nat) : Nat → Nat × Nat
  | 0 => (x, y)
  | n + 1 => (backX (rk key (7 - n)) (backN key x y n).1 (backN key x y n).2, backY (rk key (7 - n)) (backN key x y n).1 (backN key x y n).2)

theorem pairN_lt (key x y n : Nat) (hx : x < M) (hy : y < M) : (pairN key x y n).1 < M ∧ (pairN key x y n).2 < M := by
  induction n with
  | zero => exact ⟨hx, hy⟩
  | succ n ih => exact ⟨stepX_lt _ _ _ (rk_lt _ _), stepY_lt _ _ _ (rk_lt _ _) ih.2⟩
theorem backN_lt (key x y n : Nat) (hx : x < M) (hy : y < M) : (backN key x y n).1 < M ∧ (backN key x y n).2 < M := by
  induction n with
  | zero => exact ⟨hx, hy⟩
  | succ n ih => exact ⟨backX_lt _ _ _, backY_lt (rk key (7 - n)) _ _ ih.1 ih.2⟩

theorem back_pairN (key x y : Nat) (hx : x < M) (hy : y < M) (k : Nat) (hk : k ≤ 8) :
    backN key (pairN key x y 8).1 (pairN key x y 8).2 k = pairN key x y (8 - k) := by
  induction k with
  | zero => rfl
  | succ k ih =>
    have h := ih (by omega)
    have h8 : 8 - k = (7 - k) + 1 := by omega
    have h7 : 8 - (k + 1) = 7 - k := by omega
    rw [h8] at h
    have hl := pairN_lt key x y (7 - k) hx hy
    have hb := back_step (rk key (7 - k)) _ _ hl.1 hl.2
    simp only [backN]
    rw [h, h7]
    simp only [pairN]
    rw [hb.1, hb.2]

theorem pair_backN (key x y : Nat) (hx : x < M) (hy : y < M) (k : Nat) (hk : k ≤ 8) :
    pairN key (backN key x y 8).1 (backN key x y 8).2 k = backN key x y (8 - k) := by
  induction k with
  | zero => rfl
  | succ k ih =>
    have h := ih (by omega)
    have h8 : 8 - k = (7 - k) + 1 := by omega
    have h7 : 8 - (k + 1) = 7 - k := by omega
    rw [h8] at h
    have hl := backN_lt key x y (7 - k) hx hy
    have hb := step_back (rk key k) _ _ (rk_lt _ _) hl.1 hl.2
    simp only [pairN]
    rw [h, h7]
    simp only [backN]
    rw [show 7 - (7 - k) = k from by omega, hb.1, hb.2]

theorem or_rot (n : Nat) (hn : n ≤ 64) (x : Nat) (hx : x < 18446744073709551616) :
    bits .or .u64 (IntKind.u64.wrap ((x : Int) * ((2 ^ n : Nat) : Int))) ((x : Int) / ((2 ^ (64 - n) : Nat) : Int)) = ((rot n x : Nat) : Int) := by
  rw [IntKind.wrap_u64]
  have e1 : ((x : Int) * ((2 ^ n : Nat) : Int)) % 18446744073709551616 = (((x * 2 ^ n) % M : Nat) : Int) := by
    rw [show (18446744073709551616 : Int) = ((M : Nat) : Int) from rfl, ← Int.natCast_mul, ← Int.natCast_emod]
  have e2 : (x : Int) / ((2 ^ (64 - n) : Nat) : Int) = ((x / 2 ^ (64 - n) : Nat) : Int) := by rw [← Int.natCast_ediv]
  rw [e1, e2, u64_or_nat, rot_or n x hn hx]
  · exact Nat.mod_lt _ (by decide)
  · exact Nat.lt_of_le_of_lt (Nat.div_le_self _ _) hx
theorem rk_int (key k : Nat) : IntKind.u64.wrap ((key : Int) + IntKind.u64.wrap ((k : Int) * 11400714819323198485)) = ((rk key k : Nat) : Int) := by
  rw [IntKind.wrap_u64, IntKind.wrap_u64, Int.add_emod_emod]
  unfold rk M
  omega

theorem turn1_int (x : Nat) (hx : x < 18446744073709551616) : IntKind.u64.wrap (IntKind.u64.wrap (2 * (x : Int)) + IntKind.u64.wrap ((x : Int) / 9223372036854775808)) = ((turn1 x : Nat) : Int) := by
  rw [IntKind.wrap_u64, IntKind.wrap_u64, IntKind.wrap_u64, Int.emod_add_emod, Int.add_emod_emod]
  unfold turn1 M
  omega

theorem backX_int (r x y : Nat) (hr : r < 18446744073709551616) (hx : x < 18446744073709551616) (hy : y < 18446744073709551616) :
    IntKind.u64.wrap (bits BinOp.xor IntKind.u64 (x : Int) (r : Int) - ((backY r x y : Nat) : Int)) = ((((x ^^^ r) + (M - backY r x y)) % M : Nat) : Int) := by
  have h1 := backY_lt r x y hx hy
  rw [u64_xor_nat x r hx hr, IntKind.wrap_u64]
  generalize backY r x y = b at *
  generalize x ^^^ r = z at *
  unfold M at *
  omega

/-- The class. -/
def cls (key x y : Nat) (n : Int) : Int := if n < 1 then 0 else ((pairN key x y 8).1 : Int) % n
theorem cls_zero (key x y : Nat) (n : Int) (h : n < 1) : cls key x y n = 0 := by unfold cls; rw [if_pos h]
theorem cls_pos (key x y : Nat) (n : Int) (h : 1 ≤ n) : cls key x y n = ((pairN key x y 8).1 : Int) % n := by unfold cls; rw [if_neg (by omega)]
theorem cls_nonneg (key x y : Nat) (n : Int) : 0 ≤ cls key x y n := by
  unfold cls
  split
  · omega
  · exact Int.emod_nonneg _ (by omega)
theorem cls_lt (key x y : Nat) (n : Int) (h : 1 ≤ n) : cls key x y n < n := by
  rw [cls_pos _ _ _ _ h]; exact Int.emod_lt_of_pos _ (by omega)

end Go.Proofs.MixLaw
