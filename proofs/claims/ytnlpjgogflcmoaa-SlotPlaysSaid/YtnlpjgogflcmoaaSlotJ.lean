/- The places told as a list of who is worked at: contracts of all methods. Condition: the places are well made, and no id stands twice (Sq). -/
import Derived.Test.YtnlpjgogflcmoaaSlotG
namespace Go.Proofs.Ytnlpjgogflcmoaa
open Go.RowKit Go.Lk

/-! What the methods compute, over a list of places. -/
def hasId (id : Int) (o : Option It) : Bool := match o with
  | some x => x.id == id
  | none => false
def placeR (qs : List (Option It)) (id : Int) : Option Nat := qs.findIdx? (hasId id)
def freeR (qs : List (Option It)) : Option Nat := qs.findIdx? Option.isNone
def putR (qs : List (Option It)) (x : It) : List (Option It) × Nat × Int :=
  if (placeR qs x.id).isSome then (qs, 0, 8) else match freeR qs with
    | some q => (qs.set q (some x), q, 0)
    | none => (qs, 0, 6)
def takeR (qs : List (Option It)) (id : Int) : List (Option It) × It × Bool := match placeR qs id with
  | some q => (qs.set q none, (qs[q]?).join.getD It.zero, true)
  | none => (qs, It.zero, false)
def stayQ (now : Int) (o : Option It) : Option It := o.filter fun x => decide (now < x.dl)
def itq (qs : List (Option It)) : List It := qs.filterMap id
def DistQ (qs : List (Option It)) : Prop := ∀ (k k' : Nat) (x x' : It), qs[k]? = some (some x) → qs[k']? = some (some x') → x.id = x'.id → k = k'

theorem place_some {qs : List (Option It)} {id : Int} {q : Nat} (h : placeR qs id = some q) :
    (∃ x, qs[q]? = some (some x) ∧ x.id = id) ∧ ∀ (k : Nat) (x : It), k < q → qs[k]? = some (some x) → x.id ≠ id := by
  unfold placeR at h
  rw [List.findIdx?_eq_some_iff_getElem] at h
  obtain ⟨hlt, hp, hn⟩ := h
  constructor
  · cases ho : qs[q] with
    | none => rw [ho] at hp; cases hp
    | some x => rw [ho] at hp; exact ⟨x, by rw [List.getElem?_eq_getElem hlt, ho], by simpa [hasId] using hp⟩
  · intro k x hk hx
    have hk2 := hn k hk
    obtain ⟨hl, hv⟩ := List.getElem?_eq_some_iff.1 hx
    rw [hv] at hk2
    simpa [hasId] using hk2
theorem place_no {qs : List (Option It)} {id : Int} (h : placeR qs id = none) : ∀ (k : Nat) (x : It), qs[k]? = some (some x) → x.id ≠ id := by
  unfold placeR at h
  rw [List.findIdx?_eq_none_iff] at h
  intro k x hx
  have := h _ (List.mem_of_getElem? hx)
  simpa [hasId] using this
theorem free_some {qs : List (Option It)} {q : Nat} (h : freeR qs = some q) : qs[q]? = some none ∧ ∀ k, k < q → ∃ x, qs[k]? = some (some x) := by
  unfold freeR at h
  rw [List.findIdx?_eq_some_iff_getElem] at h
  obtain ⟨hlt, hp, hn⟩ := h
  constructor
  · cases ho : qs[q] with
    | none => rw [List.getElem?_eq_getElem hlt, ho]
    | some x => rw [ho] at hp; cases hp
  · intro k hk
    have hk2 := hn k hk
    have hkl : k < qs.length := by omega
    cases ho : qs[k] with
    | none => rw [ho] at hk2; simp at hk2
    | some x => exact ⟨x, by rw [List.getElem?_eq_getElem hkl, ho]⟩
theorem free_no {qs : List (Option It)} (h : freeR qs = none) : ∀ k, k < qs.length → ∃ x, qs[k]? = some (some x) := by
  unfold freeR at h
  rw [List.findIdx?_eq_none_iff] at h
  intro k hk
  have hk2 := h _ (List.getElem_mem hk)
  cases ho : qs[k] with
  | none => rw [ho] at hk2; simp at hk2
  | some x => exact ⟨x, by rw [List.getElem?_eq_getElem hk, ho]⟩
theorem DistQ.set {qs : List (Option It)} (h : DistQ qs) (q : Nat) (o : Option It) (ho : ∀ x, o = some x → ∀ (k : Nat) (y : It), qs[k]? = some (some y) → y.id ≠ x.id) : DistQ (qs.set q o) := by
  intro k k' x x' h1 h2 he
  rw [List.getElem?_set] at h1 h2
  split at h1 <;> split at h2
  · omega
  · split at h1
    · injection h1 with h1
      exact absurd he.symm (ho x h1 k' x' h2)
    · cases h1
  · split at h2
    · injection h2 with h2
      exact absurd he (ho x' h2 k x h1)
    · cases h2
  · exact h k k' x x' h1 h2 he
theorem stay_some {now : Int} {qs : List (Option It)} {k : Nat} {x : It} (h : (qs.map (stayQ now))[k]? = some (some x)) : qs[k]? = some (some x) ∧ now < x.dl := by
  rw [List.getElem?_map] at h
  cases ho : qs[k]? with
  | none => rw [ho] at h; cases h
  | some o =>
    rw [ho] at h
    simp only [Option.map_some, stayQ, Option.some.injEq] at h
    cases o with
    | none => cases h
    | some y =>
      simp only [Option.filter] at h
      split at h
      · rename_i hd
        injection h with h; subst h
        exact ⟨rfl, of_decide_eq_true hd⟩
      · cases h
theorem DistQ.stay {qs : List (Option It)} (h : DistQ qs) (now : Int) : DistQ (qs.map (stayQ now)) := fun k k' x x' h1 h2 he => h k k' x x' (stay_some h1).1 (stay_some h2).1 he
theorem DistQ.put {qs : List (Option It)} (h : DistQ qs) (x : It) : DistQ (putR qs x).1 := by
  unfold putR
  split
  · exact h
  · rename_i hp
    split
    · refine h.set _ _ fun y hy k z hz => ?_
      injection hy with hy; subst hy
      exact place_no (by simpa using hp) k z hz
    · exact h
theorem DistQ.take {qs : List (Option It)} (h : DistQ qs) (id : Int) : DistQ (takeR qs id).1 := by
  unfold takeR
  split
  · exact h.set _ _ fun y hy => by cases hy
  · exact h
theorem DistQ.rep (n : Nat) : DistQ (List.replicate n none) := by
  intro k k' x x' h1
  rw [List.getElem?_replicate] at h1; split at h1 <;> simp at h1

/-- The places: who is worked at at each. -/
def toQ (many : Nat) (ps : List (Option (Nat × It))) : List (Option It) := (ps.take many).map (Option.map Prod.snd)
def Sq (w : World) (bs many : Nat) (qs : List (Option It)) : Prop := ∃ ps, SlotIs w bs many ps ∧ toQ many ps = qs ∧ DistQ qs

section
variable {w w' : World} {bs many : Nat} {ps : List (Option (Nat × It))}
theorem toQ_get (many : Nat) (ps : List (Option (Nat × It))) (k : Nat) : (toQ many ps)[k]? = if k < many then (ps[k]?).map (Option.map Prod.snd) else none := by
  unfold toQ
  rw [List.getElem?_map, List.getElem?_take]
  split <;> rfl
theorem SlotIs.toQ_len (h : SlotIs w bs many ps) : (toQ many ps).length = many := by
  unfold toQ; rw [List.length_map, List.length_take, h.len]; have := h.small; omega
theorem SlotIs.to_some (h : SlotIs w bs many ps) {k b : Nat} {x : It} (hk : ps[k]? = some (some (b, x))) : (toQ many ps)[k]? = some (some x) := by
  rw [toQ_get, if_pos (h.free k b x hk), hk]; rfl
theorem SlotIs.of_some (_h : SlotIs w bs many ps) {k : Nat} {x : It} (hk : (toQ many ps)[k]? = some (some x)) : k < many ∧ ∃ b, ps[k]? = some (some (b, x)) := by
  rw [toQ_get] at hk
  split at hk
  · rename_i hlt
    cases ho : ps[k]? with
    | none => rw [ho] at hk; cases hk
    | some o =>
      cases o with
      | none => rw [ho] at hk; cases hk
      | some bx => obtain ⟨b, y⟩ := bx; rw [ho] at hk; simp at hk; subst hk; exact ⟨hlt, b, rfl⟩
  · cases hk
theorem SlotIs.of_none (_h : SlotIs w bs many ps) {k : Nat} (hk : (toQ many ps)[k]? = some none) : k < many ∧ ps[k]? = some none := by
  rw [toQ_get] at hk
  split at hk
  · rename_i hlt
    cases ho : ps[k]? with
    | none => rw [ho] at hk; cases hk
    | some o =>
      cases o with
      | none => exact ⟨hlt, rfl⟩
      | some bx => obtain ⟨b, y⟩ := bx; rw [ho] at hk; simp at hk
  · cases hk
theorem toQ_set (many : Nat) (ps : List (Option (Nat × It))) (q : Nat) (o : Option (Nat × It)) : toQ many (ps.set q o) = (toQ many ps).set q (o.map Prod.snd) := by
  unfold toQ; rw [List.take_set, List.map_set]
theorem SlotIs.its (h : SlotIs w bs many ps) : its ps = itq (toQ many ps) := by
  rw [← its_take ps many h.free]
  unfold Ytnlpjgogflcmoaa.its itq toQ
  rw [List.filterMap_map]
  rfl
theorem toQ_stay (many : Nat) (ps : List (Option (Nat × It))) (now : Int) : toQ many (ps.map (stays now)) = (toQ many ps).map (stayQ now) := by
  unfold toQ
  rw [← List.map_take, List.map_map, List.map_map]
  congr 1
  funext o
  cases o with
  | none => rfl
  | some bx =>
    obtain ⟨b, x⟩ := bx
    simp only [Function.comp, stays, stayQ, Option.filter, Option.map_some]
    by_cases h : now < x.dl <;> simp [h]
theorem Sq.below {qs : List (Option It)} (h : Sq w bs many qs) (hb : Below w.heap.size w w') : Sq w' bs many qs := by
  obtain ⟨ps, h1, h2, h3⟩ := h
  exact ⟨ps, h1.below hb, h2, h3⟩
theorem Sq.lt {qs : List (Option It)} (h : Sq w bs many qs) : bs < w.heap.size := by
  obtain ⟨ps, h1, h2, h3⟩ := h
  exact heap_lt h1.s
theorem Sq.len {qs : List (Option It)} (h : Sq w bs many qs) : qs.length = many := by
  obtain ⟨ps, h1, h2, h3⟩ := h
  rw [← h2]; exact h1.toQ_len
theorem Sq.small {qs : List (Option It)} (h : Sq w bs many qs) : many ≤ 16 := by
  obtain ⟨ps, h1, h2, h3⟩ := h
  exact h1.small
theorem Sq.dist {qs : List (Option It)} (h : Sq w bs many qs) : DistQ qs := by
  obtain ⟨ps, h1, h2, h3⟩ := h
  exact h3
theorem SlotIs.dist (h : SlotIs w bs many ps) (hd : DistQ (toQ many ps)) : Dist ps := fun k k' _ _ x x' h1 h2 he => hd k k' x x' (h.to_some h1) (h.to_some h2) he
end

section
variable (bs many : Nat) (qs : List (Option It)) (w : World)
theorem q_new (m : Nat) (h1 : 1 ≤ m) (h : m ≤ 16) :
    Calls Try.prog 7 #[.int .i64 (m : Int)] w fun e w' => ∃ bs, e = .returned (.tuple #[.pointer (some ⟨bs, 0, none⟩), .int .i64 0]) ∧ Sq w' bs m (List.replicate m none) ∧ w.heap.size ≤ bs ∧ Below w.heap.size w w' := by
  refine (new_ok w m h1 h).mono ?_
  rintro e w' ⟨bs, rfl, hS, h2, h3⟩
  refine ⟨bs, rfl, ⟨_, hS, ?_, DistQ.rep m⟩, h2, h3⟩
  unfold toQ
  rw [List.take_replicate, List.map_replicate, Nat.min_eq_left h]
  rfl
theorem q_place (h : Sq w bs many qs) (id : Int) :
    Calls Try.prog 13 #[.pointer (some ⟨bs, 0, none⟩), .int .i64 id] w fun e w' => e = .returned (.tuple #[.int .i64 (((placeR qs id).getD 0 : Nat) : Int), .bool (placeR qs id).isSome]) ∧ w = w' := by
  obtain ⟨ps, hS, rfl, hd⟩ := h
  cases hp : placeR (toQ many ps) id with
  | none => exact place_none bs many ps w hS id fun k b x hk => place_no hp k x (hS.to_some hk)
  | some q =>
    obtain ⟨⟨x, hx, hid⟩, hn⟩ := place_some hp
    obtain ⟨hlt, b, hb⟩ := hS.of_some hx
    exact place_ok bs many ps w hS id q b x hb hid fun k b x hk h => hn k x hk (hS.to_some h)
theorem q_put (h : Sq w bs many qs) (x : It) :
    Calls Try.prog 8 #[.pointer (some ⟨bs, 0, none⟩), .agg x.arr] w fun e w' => e = .returned (.tuple #[.int .i64 ((putR qs x).2.1 : Int), .int .i64 (putR qs x).2.2]) ∧ Sq w' bs many (putR qs x).1 ∧ OnlyIn [bs] w w' := by
  have hdp := h.dist.put x
  obtain ⟨ps, hS, rfl, hd⟩ := h
  cases hp : placeR (toQ many ps) x.id with
  | some q =>
    have e1 : putR (toQ many ps) x = (toQ many ps, 0, 8) := by unfold putR; rw [hp]; rfl
    rw [e1]
    obtain ⟨⟨y, hx, hid⟩, hn⟩ := place_some hp
    obtain ⟨hlt, b, hb⟩ := hS.of_some hx
    refine (put_twice bs many ps w hS x q b y hb hid fun k b x hk h => hn k x hk (hS.to_some h)).mono ?_
    rintro e w' ⟨rfl, hB⟩
    exact ⟨rfl, ⟨ps, hS.below hB, rfl, hd⟩, OnlyIn.of_below hB⟩
  | none =>
    have hno : ∀ (k b : Nat) (z : It), ps[k]? = some (some (b, z)) → z.id ≠ x.id := fun k b z hk => place_no hp k z (hS.to_some hk)
    cases hf : freeR (toQ many ps) with
    | none =>
      have e1 : putR (toQ many ps) x = (toQ many ps, 0, 6) := by unfold putR; rw [hp, hf]; rfl
      rw [e1]
      refine (put_full bs many ps w hS x hno fun k hk => ?_).mono ?_
      · obtain ⟨y, hy⟩ := free_no hf k (by rw [hS.toQ_len]; exact hk)
        obtain ⟨_, b, hb⟩ := hS.of_some hy
        exact ⟨b, y, hb⟩
      · rintro e w' ⟨rfl, hB⟩
        exact ⟨rfl, ⟨ps, hS.below hB, rfl, hd⟩, OnlyIn.of_below hB⟩
    | some q =>
      have e1 : putR (toQ many ps) x = ((toQ many ps).set q (some x), q, 0) := by unfold putR; rw [hp, hf]; rfl
      rw [e1] at hdp ⊢
      obtain ⟨hq, hn⟩ := free_some hf
      obtain ⟨hlt, hqn⟩ := hS.of_none hq
      refine (put_ok bs many ps w hS x hno q hlt hqn fun k hk => ?_).mono ?_
      · obtain ⟨y, hy⟩ := hn k hk
        obtain ⟨_, b, hb⟩ := hS.of_some hy
        exact ⟨b, y, hb⟩
      · rintro e w' ⟨rfl, hS', hO⟩
        exact ⟨rfl, ⟨_, hS', toQ_set _ _ _ _, hdp⟩, hO⟩
theorem q_take (h : Sq w bs many qs) (id : Int) :
    Calls Try.prog 9 #[.pointer (some ⟨bs, 0, none⟩), .int .i64 id] w fun e w' => e = .returned (.tuple #[.agg (takeR qs id).2.1.arr, .bool (takeR qs id).2.2]) ∧ Sq w' bs many (takeR qs id).1 ∧ OnlyIn [bs] w w' := by
  have hdp := h.dist.take id
  obtain ⟨ps, hS, rfl, hd⟩ := h
  cases hp : placeR (toQ many ps) id with
  | some q =>
    obtain ⟨⟨y, hx, hid⟩, hn⟩ := place_some hp
    have e1 : takeR (toQ many ps) id = ((toQ many ps).set q none, y, true) := by unfold takeR; rw [hp]; simp [hx]
    rw [e1] at hdp ⊢
    obtain ⟨hlt, b, hb⟩ := hS.of_some hx
    refine (take_ok bs many ps w hS id q b y hb hid fun k b x hk h => hn k x hk (hS.to_some h)).mono ?_
    rintro e w' ⟨rfl, hS', hO⟩
    exact ⟨rfl, ⟨_, hS', toQ_set _ _ _ _, hdp⟩, hO⟩
  | none =>
    have e1 : takeR (toQ many ps) id = (toQ many ps, It.zero, false) := by unfold takeR; rw [hp]
    rw [e1]
    refine (take_none bs many ps w hS id fun k b z hk => place_no hp k z (hS.to_some hk)).mono ?_
    rintro e w' ⟨rfl, hB⟩
    exact ⟨rfl, ⟨ps, hS.below hB, rfl, hd⟩, OnlyIn.of_below hB⟩
theorem q_late (h : Sq w bs many qs) (now : Int) :
    Calls Try.prog 10 #[.pointer (some ⟨bs, 0, none⟩), .int .i64 now] w fun e w' => ∃ u, e = .returned u ∧ w'.ownsRow w.heap.size 29 7 u (due now (itq qs)).length (itc (due now (itq qs))) ∧ Sq w' bs many (qs.map (stayQ now)) ∧ OnlyIn [bs] w w' := by
  have hdp := h.dist.stay now
  obtain ⟨ps, hS, rfl, hd⟩ := h
  refine (late_ok bs many ps w hS (hS.dist hd) now).mono ?_
  rintro e w' ⟨u, rfl, hown, hS', hO⟩
  rw [hS.its] at hown
  exact ⟨u, rfl, hown, ⟨_, hS', toQ_stay _ _ _, hdp⟩, hO⟩
theorem q_clear (h : Sq w bs many qs) :
    Calls Try.prog 19 #[.pointer (some ⟨bs, 0, none⟩)] w fun e w' => e = .returned (.tuple #[]) ∧ Sq w' bs many (List.replicate many none) ∧ OnlyIn [bs] w w' := by
  have hsm := h.small
  obtain ⟨ps, hS, rfl, hd⟩ := h
  refine (clear_ok bs many ps w hS).mono ?_
  rintro e w' ⟨rfl, hS', hO⟩
  refine ⟨rfl, ⟨_, hS', ?_, DistQ.rep many⟩, hO⟩
  unfold toQ
  rw [List.take_replicate, List.map_replicate, Nat.min_eq_left hsm]
  rfl
theorem q_all (h : Sq w bs many qs) :
    Calls Try.prog 11 #[.pointer (some ⟨bs, 0, none⟩)] w fun e w' => ∃ u, e = .returned u ∧ w'.ownsRow w.heap.size 29 7 u (itq qs).length (itc (itq qs)) ∧ Below w.heap.size w w' := by
  obtain ⟨ps, hS, rfl, hd⟩ := h
  refine (all_ok bs many ps w hS).mono ?_
  rintro e w' ⟨u, rfl, hown, hB⟩
  rw [hS.its] at hown
  exact ⟨u, rfl, hown, hB⟩
theorem q_free (h : Sq w bs many qs) :
    Calls Try.prog 12 #[.pointer (some ⟨bs, 0, none⟩)] w fun e w' => e = .returned (.int .i64 ((many : Int) - ((itq qs).length : Int))) ∧ Below w.heap.size w w' := by
  obtain ⟨ps, hS, rfl, hd⟩ := h
  rw [← hS.its]
  exact free_ok bs many ps w hS
/-- Who is at a place. -/
def atR (qs : List (Option It)) (p : Int) : Option It := if 0 ≤ p then (qs[p.toNat]?).join else none
theorem q_at (h : Sq w bs many qs) (p : Int) :
    Calls Try.prog 14 #[.pointer (some ⟨bs, 0, none⟩), .int .i64 p] w fun e w' => e = .returned (.tuple #[.agg ((atR qs p).getD It.zero).arr, .bool (atR qs p).isSome]) ∧ Below w.heap.size w w' := by
  obtain ⟨ps, hS, rfl, hd⟩ := h
  unfold atR
  by_cases h0 : 0 ≤ p
  · rw [if_pos h0]
    obtain ⟨q, rfl⟩ := Int.eq_ofNat_of_zero_le h0
    rw [Int.toNat_natCast]
    by_cases hq : q < many
    · obtain ⟨o, ho⟩ : ∃ o, (toQ many ps)[q]? = some o := ⟨_, List.getElem?_eq_getElem (by rw [hS.toQ_len]; exact hq)⟩
      rw [ho]
      cases o with
      | none => exact at_free bs many ps w hS q hq (hS.of_none ho).2
      | some x => obtain ⟨_, b, hb⟩ := hS.of_some ho; exact at_ok bs many ps w hS q b x hb
    · rw [List.getElem?_eq_none (by rw [hS.toQ_len]; omega)]
      exact at_out bs many ps w hS q (by omega)
  · rw [if_neg h0]
    exact at_out bs many ps w hS p (by omega)
end
end Go.Proofs.Ytnlpjgogflcmoaa
