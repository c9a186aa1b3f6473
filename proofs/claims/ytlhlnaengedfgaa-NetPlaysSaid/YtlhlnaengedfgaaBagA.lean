/- Contracts of the bag's methods: New, Len, At, Put. Condition: the bag is well made (BagIs), or nil, or zero. -/
import Derived.Test.YtlhlnaengedfgaaRows
import Derived.Test.YtlhlnaengedfgaaTight
import Derived.LaidEqlPtr
import Derived.WalkSpells
namespace Go.Proofs.Ytlhlnaengedfgaa
open Go.RowKit Go.Lk

def strs (l : List ByteArray) : List Value := l.map Value.string
theorem strs_length (l : List ByteArray) : (strs l).length = l.length := List.length_map _
theorem strs_one (l : List ByteArray) : ∀ u ∈ strs l, u.oneCell' = true := by
  intro u hu
  unfold strs at hu
  obtain ⟨s, _, rfl⟩ := List.mem_map.1 hu
  rfl
theorem strs_at {l : List ByteArray} {k : Nat} {s : ByteArray} (h : l[k]? = some s) : (strs l)[k]? = some (.string s) := by
  unfold strs; rw [List.getElem?_map, h]; rfl
theorem Try.info9 : (Try.prog.info? 9).map (fun i => (i.zero, i.size, i.bytes)) = some (some (.string ⟨#[]⟩), 1, 16) := by kernel_rfl

/-- A bag: its block and its texts. -/
structure BagIs (w : World) (bs most : Nat) (v : Value) (l : List ByteArray) : Prop where
  s : w.heap[bs]? = some (.cells #[.int .i64 (most : Int), v] 48 (0, 0))
  t : Tx w 9 v l.length (strs l)
  le : l.length ≤ most
  small : most ≤ 64
  apart : ∀ k, v.ownBlock = some k → k ≠ bs

theorem BagIs.only {S : List Nat} {w w' : World} {bs most : Nat} {v : Value} {l : List ByteArray} (h : BagIs w bs most v l) (ht : OnlyIn S w w') (h1 : bs ∉ S) (h2 : ∀ k, v.ownBlock = some k → k ∉ S) : BagIs w' bs most v l :=
  ⟨(ht.block _ (heap_lt h.s) h1).trans h.s, h.t.only ht h2, h.le, h.small, h.apart⟩
theorem BagIs.drewN {w : World} {bs most : Nat} {v : Value} {l : List ByteArray} (h : BagIs w bs most v l) (n : Nat) : BagIs (w.drewN n) bs most v l := ⟨h.s, h.t, h.le, h.small, h.apart⟩
theorem BagIs.below {w w' : World} {bs most : Nat} {v : Value} {l : List ByteArray} (h : BagIs w bs most v l) (hb : Below w.heap.size w w') : BagIs w' bs most v l :=
  h.only (OnlyIn.of_below (S := []) hb) (by simp) (by simp)
theorem BagIs.c0 {w : World} {bs most : Nat} {v : Value} {l : List ByteArray} (h : BagIs w bs most v l) : w.cell? ⟨bs, 0, none⟩ = some (.int .i64 (most : Int)) := by rw [cell_of_row w bs 0 _ _ _ h.s]; rfl
theorem BagIs.c1 {w : World} {bs most : Nat} {v : Value} {l : List ByteArray} (h : BagIs w bs most v l) : w.cell? ⟨bs, 1, none⟩ = some v := by rw [cell_of_row w bs 1 _ _ _ h.s]; rfl
theorem BagIs.f1 {w : World} {bs most : Nat} {v : Value} {l : List ByteArray} (h : BagIs w bs most v l) : w.frozen? ⟨bs, 1, none⟩ = false := by simp [World.frozen?, h.s]

section
variable (bs most : Nat) (v : Value) (l : List ByteArray) (w : World)
set_option maxHeartbeats 400000 in
theorem len_ok (h : BagIs w bs most v l) :
    Calls Try.prog 21 #[.pointer (some ⟨bs, 0, none⟩)] w fun e w' => e = .returned (.int .i64 (l.length : Int)) ∧ w = w' := by
  obtain ⟨A, c, rfl, _, _, _⟩ := h.t.form
  have c1 := h.c1
  clear h
  go_enter Try.func21, Try.ntmps21
  go_wp2
  go_ret
  exact ⟨rfl, rfl⟩
theorem len_nil : Calls Try.prog 21 #[.pointer none] w fun e w' => e = .returned (.int .i64 0) ∧ w = w' := by
  go_enter Try.func21, Try.ntmps21
  go_wp2
  go_ret
  exact ⟨rfl, rfl⟩

set_option maxHeartbeats 400000 in
theorem at_ok (h : BagIs w bs most v l) (k : Nat) (s : ByteArray) (hk : l[k]? = some s) :
    Calls Try.prog 18 #[.pointer (some ⟨bs, 0, none⟩), .int .i64 (k : Int)] w fun e w' => e = .returned (.tuple #[.string s, .bool true]) ∧ w = w' := by
  have HL := Lib.hid (len_ok bs most v l w h)
  obtain ⟨A, c, rfl, hsl, hc, _⟩ := h.t.form
  obtain ⟨a, rfl, _, hcell⟩ := hsl k _ (strs_at hk)
  have c1 := h.c1
  have hkl : k < l.length := (List.getElem?_eq_some_iff.1 hk).1
  have hd : decide ((l.length : Int) ≤ (k : Int)) = false := by simp; omega
  have hs := h.le
  have hm := h.small
  clear h hsl hk
  go_enter Try.func18, Try.ntmps18
  go_wp2_with fail
  refine HL.out.mono ?_
  rintro e w1 ⟨rfl, hw⟩
  subst hw
  go_wp2_with fail
  go_ret2
  exact ⟨rfl, rfl⟩
set_option maxHeartbeats 400000 in
theorem at_bad (h : BagIs w bs most v l) (p : Int) (hp : p < 0 ∨ (l.length : Int) ≤ p) :
    Calls Try.prog 18 #[.pointer (some ⟨bs, 0, none⟩), .int .i64 p] w fun e w' => e = .returned (.tuple #[.string ⟨#[]⟩, .bool false]) ∧ w = w' := by
  have HL := Lib.hid (len_ok bs most v l w h)
  clear h
  rcases hp with hp | hp
  · go_enter Try.func18, Try.ntmps18
    go_wp2_with fail
    go_ret2
    exact ⟨rfl, rfl⟩
  · have hp0 : ¬ p < 0 := by omega
    go_enter Try.func18, Try.ntmps18
    go_wp2_with fail
    refine HL.out.mono ?_
    rintro e w1 ⟨rfl, hw⟩
    subst hw
    go_wp2_with fail
    go_ret2
    exact ⟨rfl, rfl⟩
set_option maxHeartbeats 400000 in
theorem at_nil (p : Int) :
    Calls Try.prog 18 #[.pointer none, .int .i64 p] w fun e w' => e = .returned (.tuple #[.string ⟨#[]⟩, .bool false]) ∧ w = w' := by
  have HL := Lib.hid (len_nil w)
  rcases Int.lt_or_le p 0 with hp | hp
  · go_enter Try.func18, Try.ntmps18
    go_wp2_with fail
    go_ret2
    exact ⟨rfl, rfl⟩
  · have hp0 : ¬ p < 0 := by omega
    go_enter Try.func18, Try.ntmps18
    go_wp2_with fail
    refine HL.out.mono ?_
    rintro e w1 ⟨rfl, hw⟩
    subst hw
    go_wp2_with fail
    go_ret2
    exact ⟨rfl, rfl⟩

set_option maxHeartbeats 400000 in
theorem put_full (h : BagIs w bs most v l) (hf : l.length = most) (s : ByteArray) :
    Calls Try.prog 13 #[.pointer (some ⟨bs, 0, none⟩), .string s] w fun e w' => e = .returned (.bool false) ∧ ∃ m, w' = w.drewN m := by
  obtain ⟨A, c, rfl, _, _, _⟩ := h.t.form
  have c0 := h.c0
  have c1 := h.c1
  rw [hf] at c1
  clear h hf
  go_enter Try.func13, Try.ntmps13
  go_wp2_with fail
  go_quiet (fail)
  go_wp2_with fail
  go_ret
  exact ⟨rfl, _, rfl⟩
set_option maxHeartbeats 400000 in
theorem put_nil (s : ByteArray) :
    Calls Try.prog 13 #[.pointer none, .string s] w fun e w' => e = .returned (.bool false) ∧ ∃ m, w' = w.drewN m := by
  go_enter Try.func13, Try.ntmps13
  go_wp2_with fail
  go_quiet (fail)
  go_wp2_with fail
  go_ret
  exact ⟨rfl, _, rfl⟩

set_option maxHeartbeats 1000000 in
theorem put_room (h : BagIs w bs most v l) (hf : l.length < most) (s : ByteArray) :
    Calls Try.prog 13 #[.pointer (some ⟨bs, 0, none⟩), .string s] w fun e w' => e = .returned (.bool true) ∧
      ∃ v', BagIs w' bs most v' (l ++ [s]) ∧ OnlyIn (bs :: v.ownBlock.toList) w w' ∧ ∀ k, v'.ownBlock = some k → v.ownBlock = some k ∨ w.heap.size ≤ k := by
  obtain ⟨i0, hi0, hz0, hz1, hz2⟩ := info_parts Try.info9
  obtain ⟨n, hn⟩ : ∃ n, l.length = n := ⟨_, rfl⟩
  have HN := Lib.hid hn
  have HS := Lib.hid h
  have c0 := h.c0
  have ht := h.t
  have hsm := h.small
  rw [hn] at ht hf
  obtain ⟨A, c, rfl, _, _, _⟩ := h.t.form
  have c1 := h.c1
  rw [hn] at c1 ht
  have HT := Lib.hid ht
  have hd : decide ((most : Int) ≤ (n : Int)) = false := by simp; omega
  clear h hn ht
  go_enter Try.func13, Try.ntmps13
  go_wp2_with fail
  go_quiet (fail)
  have hone : Sl ((w.drewN nq).alloc (.cells #[.string s] 9)) (w.heap.size + 1) (some ⟨w.heap.size, 0, none⟩) [.string s] := by
    intro j u hj
    match j, hj with
    | 0, hj => simp at hj; subst hj; exact ⟨_, rfl, by simp, by simpa [Addr.add] using cell_dn w nq (.string s) 9⟩
  obtain ⟨v', w', hr, ht', hg', hn'⟩ := run_append_tx (P := Try.prog) ((w.drewN nq).alloc (.cells #[.string s] 9)) 29 29 9 i0 (.string ⟨#[]⟩) 16 Try.underlying29 hi0 hz0 hz1 hz2 rfl (.slice A n c) n (strs l)
    (HT.out.only (((OnlyIn.refl [] w).drewN nq).alloc _) (by simp)) (w.heap.size + 1) (some ⟨w.heap.size, 0, none⟩) 1 1 [.string s] rfl hone (by simp [Value.oneCell']) (by omega) (by omega) (by simp)
  obtain ⟨A', c', hv', _, _, _⟩ := ht'.form
  have hap := HS.out.apart
  have hO1 := ((OnlyIn.refl (bs :: (Value.slice A n c).ownBlock.toList) w).drewN nq).alloc (.cells #[.string s] 9)
  have hO2 := hO1.grown hg' (fun k hk => .inl (by rw [hk]; simp))
  have hbs : w'.heap[bs]? = some (.cells #[.int .i64 (most : Int), .slice A n c] 48 (0, 0)) := by
    have hlt := heap_lt HS.out.s
    have h0 : w.heap[bs]? = some (.cells #[.int .i64 (most : Int), .slice A n c] 48 (0, 0)) := by rw [HS.out.s, HN.out]
    rw [hg'.block bs (by simp; omega) (fun e => hap bs (by rw [HN.out]; exact e.symm) rfl)]
    rw [Below.heap_alloc _ _ _ (by simpa using hlt)]
    exact h0
  have f1 : w'.frozen? ⟨bs, 1, none⟩ = false := by simp [World.frozen?, hbs]
  have g1 : w'.cell? ⟨bs, 1, none⟩ = some (.slice A n c) := by rw [cell_of_row w' bs 1 _ _ _ hbs]; rfl
  have HO2 := Lib.hid hO2
  have HT2 := Lib.hid ht'
  have HG2 := Lib.hid hg'
  have HN2 := Lib.hid hn'
  have HBS := Lib.hid hbs
  clear ht' hg' hn' hone hO1 hO2 hbs hap
  subst hv'
  go_wp2_with (at_builtin; refine appendBy rfl _ _ 29 rfl _ _ rfl rfl _ _ hr ?_)
  go_ret
  refine ⟨rfl, .slice A' (n + 1) c', ⟨?_, ?_, ?_, hsm, ?_⟩, ?_, ?_⟩
  · rw [heap_set1 HBS.out 1 _]; rfl
  · have h1 : ∀ k, (Value.slice A' (n + 1) c').ownBlock = some k → k ≠ bs := fun k hk => by
      have hlt := heap_lt HS.out.s
      rcases HN2.out k hk with h | h
      · exact HS.out.apart k (by rw [HN.out]; exact h)
      · simp at h; omega
    have h2 := HT2.out.only ((OnlyIn.refl [bs] w').setCell (p := ⟨bs, 1, none⟩) (by simp) (.slice A' (n + 1) c')) (fun k hk => by simpa using h1 k hk)
    rw [List.length_append, HN.out]
    simpa [strs] using h2
  · rw [List.length_append, HN.out]; simp; omega
  · intro k hk
    have hlt := heap_lt HS.out.s
    rcases HN2.out k hk with h | h
    · exact HS.out.apart k (by rw [HN.out]; exact h)
    · simp at h; omega
  · have h2 := HO2.out.setCell (p := ⟨bs, 1, none⟩) (by simp) (.slice A' (n + 1) c')
    rw [HN.out]
    exact h2
  · intro k hk
    rcases HN2.out k hk with h | h
    · left; rw [HN.out]; exact h
    · simp at h; right; omega
end
end Go.Proofs.Ytlhlnaengedfgaa
