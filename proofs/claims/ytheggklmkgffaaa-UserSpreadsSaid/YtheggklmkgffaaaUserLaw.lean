/- Plain law of turns: ticks kept within bounds, turns, the first tick of the next turn. No program here; no condition. -/
namespace Go.Proofs.UserLaw
/-- A number as a tick. -/
def tick (n : Int) : Int := if n < 0 then 0 else if 1099511627776 < n then 1099511627776 else n
theorem tick_neg (n : Int) (h : n < 0) : tick n = 0 := by unfold tick; rw [if_pos h]
theorem tick_big (n : Int) (h : 1099511627776 < n) : tick n = 1099511627776 := by unfold tick; rw [if_neg (by omega), if_pos h]
theorem tick_mid (n : Int) (h0 : 0 ≤ n) (h1 : n ≤ 1099511627776) : tick n = n := by unfold tick; rw [if_neg (by omega), if_neg (by omega)]
theorem tick_bd (n : Int) : 0 ≤ tick n ∧ tick n ≤ 1099511627776 := by unfold tick; split <;> (try split) <;> omega
/-- Which turn. -/
def turn (ro now : Int) : Int := if ro = 0 then 0 else tick now / ro
theorem turn_zero (now : Int) : turn 0 now = 0 := by unfold turn; rw [if_pos rfl]
theorem turn_pos (ro now : Int) (h : 1 ≤ ro) : turn ro now = tick now / ro := by unfold turn; rw [if_neg (by omega)]
theorem turn_bd (ro now : Int) (h : 0 ≤ ro) : 0 ≤ turn ro now ∧ turn ro now ≤ 1099511627776 := by
  have hb := tick_bd now
  rcases Int.lt_or_eq_of_le h with h | h
  · rw [turn_pos ro now (by omega)]
    refine ⟨Int.ediv_nonneg hb.1 (by omega), ?_⟩
    have := Int.ediv_le_self ro hb.1
    omega
  · rw [← h, turn_zero]; omega
theorem turn_mul (ro now : Int) (h : 1 ≤ ro) : turn ro now * ro ≤ tick now ∧ tick now < (turn ro now + 1) * ro := by
  rw [turn_pos ro now h]
  have h1 := Int.emod_add_mul_ediv (tick now) ro
  have h2 := Int.emod_nonneg (tick now) (show ro ≠ 0 by omega)
  have h3 := Int.emod_lt_of_pos (tick now) (show 0 < ro by omega)
  rw [Int.add_mul, Int.mul_comm]
  generalize ro * (tick now / ro) = q at *
  omega
theorem prod_bd (ro now : Int) (h : 0 ≤ ro) (h2 : ro ≤ 1099511627776) : 0 ≤ (turn ro now + 1) * ro ∧ (turn ro now + 1) * ro ≤ 2199023255552 := by
  rcases Int.lt_or_eq_of_le h with h0 | h0
  · have hm := turn_mul ro now (by omega)
    have hb := tick_bd now
    have ht := turn_bd ro now h
    refine ⟨Int.mul_nonneg (by omega) h, ?_⟩
    rw [Int.add_mul] at *
    generalize turn ro now * ro = q at *
    omega
  · rw [← h0]; simp
/-- The first tick of the next turn. -/
def next (ro now : Int) : Int := tick ((turn ro now + 1) * ro)
theorem turn_of (ro t q : Int) (h : 1 ≤ ro) (h0 : 0 ≤ t) (h1 : t ≤ 1099511627776) (ha : q * ro ≤ t) (hb : t < (q + 1) * ro) : turn ro t = q := by
  rw [turn_pos ro t h, tick_mid t h0 h1]
  have h2 : t / ro < q + 1 := Int.ediv_lt_of_lt_mul (by omega) hb
  have h3 : q ≤ t / ro := Int.le_ediv_of_mul_le (by omega) ha
  omega
theorem next_zero (now : Int) : next 0 now = 0 := by unfold next; rw [Int.mul_zero]; exact tick_mid 0 (by omega) (by omega)
/-- What the statement says of a turn's end. -/
theorem stays (ro now : Int) (h : 1 ≤ ro) (h2 : ro ≤ 1099511627776) (ht : tick now ≠ 1099511627776) :
    tick now < next ro now ∧ turn ro (next ro now - 1) = turn ro now ∧ (next ro now ≠ 1099511627776 → turn ro (next ro now) = turn ro now + 1) := by
  have hb := tick_bd now
  have hm := turn_mul ro now h
  have hp := prod_bd ro now (by omega) h2
  have hn : next ro now = if 1099511627776 < (turn ro now + 1) * ro then 1099511627776 else (turn ro now + 1) * ro := by
    unfold next
    split
    · exact tick_big _ ‹_›
    · exact tick_mid _ hp.1 (by omega)
  have hlt : tick now < next ro now := by rw [hn]; split <;> omega
  have hle : next ro now ≤ (turn ro now + 1) * ro := by rw [hn]; split <;> omega
  have hmx : next ro now ≤ 1099511627776 := by rw [hn]; split <;> omega
  refine ⟨hlt, turn_of ro _ _ h (by omega) (by omega) (by omega) (by omega), fun hne => ?_⟩
  have he : next ro now = (turn ro now + 1) * ro := by
    rw [hn] at hne ⊢
    split at hne
    · exact absurd rfl hne
    · rw [if_neg ‹_›]
  have h4 : (turn ro now + 1 + 1) * ro = (turn ro now + 1) * ro + ro := by rw [Int.add_mul (turn ro now + 1) 1 ro, Int.one_mul]
  exact turn_of ro _ _ h (by omega) hmx (by rw [he]; exact Int.le_refl _) (by rw [he, h4]; omega)

/-- One more of a class. -/
def bump (L : List Int) (c : Nat) : List Int := L.set c (L[c]?.getD 0 + 1)
def bumps (L : List Int) : List Nat → List Int
  | [] => L
  | c :: r => bumps (bump L c) r
theorem bumps_snoc (L : List Int) (cs : List Nat) (c : Nat) : bumps L (cs ++ [c]) = bump (bumps L cs) c := by
  induction cs generalizing L with
  | nil => rfl
  | cons a r ih => exact ih _
theorem bump_length (L : List Int) (c : Nat) : (bump L c).length = L.length := by unfold bump; rw [List.length_set]
theorem bumps_length (L : List Int) (cs : List Nat) : (bumps L cs).length = L.length := by
  induction cs generalizing L with
  | nil => rfl
  | cons a r ih => exact (ih _).trans (bump_length _ _)
theorem bump_take (L : List Int) (c m : Nat) (h : c < m) : (bump L c).take m = bump (L.take m) c := by
  unfold bump
  rw [List.take_set, List.getElem?_take, if_pos h]
theorem bumps_take (L : List Int) (cs : List Nat) (m : Nat) (h : ∀ c ∈ cs, c < m) : (bumps L cs).take m = bumps (L.take m) cs := by
  induction cs generalizing L with
  | nil => rfl
  | cons a r ih => rw [bumps, ih _ (fun c hc => h c (by simp [hc])), bump_take _ _ _ (h a (by simp))]; rfl
/-- No class has more than there are users. -/
theorem bumps_bd (m : Nat) (cs : List Nat) (c : Nat) (v : Int) (h : (bumps (List.replicate m 0) cs)[c]? = some v) : 0 ≤ v ∧ v ≤ cs.length := by
  have key : ∀ (cs : List Nat) (L : List Int) (k : Int), (∀ (c : Nat) (v : Int), L[c]? = some v → 0 ≤ v ∧ v ≤ k) → ∀ (c : Nat) (v : Int), (bumps L cs)[c]? = some v → 0 ≤ v ∧ v ≤ k + cs.length := by
    intro cs
    induction cs with
    | nil => intro L k h c v hv; have := h c v hv; simp; omega
    | cons a r ih =>
      intro L k h c v hv
      have := ih (bump L a) (k + 1) (fun c' v' hv' => by
        unfold bump at hv'
        rw [List.getElem?_set] at hv'
        split at hv'
        · split at hv'
          · injection hv' with hv'
            have : 0 ≤ L[a]?.getD 0 ∧ L[a]?.getD 0 ≤ k := by
              cases hL : L[a]? with
              | none => rename_i hlt; rw [List.getElem?_eq_getElem hlt] at hL; cases hL
              | some x => exact h a x hL
            omega
          · cases hv'
        · have := h c' v' hv'; omega) c v hv
      simp only [List.length_cons]
      omega
  have := key cs (List.replicate m 0) 0 (fun c v hv => by
    have := List.mem_of_getElem? hv
    rw [List.mem_replicate] at this
    omega) c v h
  omega
end Go.Proofs.UserLaw
