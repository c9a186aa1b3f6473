/- Rows whose room may be cut short (s[:p:p]), and append upon them. Over any program; no condition. -/
import Derived.Test.YtlhlnaengedfgaaWords
import Derived.ArgAppend
namespace Go.Lk
open Go.RowKit

/-- A row of its own, or one whose room was cut to its length. -/
def Tx (w : World) (e : TypeId) (v : Value) (n : Nat) (xs : List Value) : Prop :=
  w.ownsRow 0 e 1 v n xs ∨ (xs.length = n ∧ ∃ g cur, v = .slice (some ⟨g, 0, none⟩) n n ∧ w.heap[g]? = some (.cells cur e (0, 0)) ∧ cur.toList.take n = xs)
section
variable {w w' : World} {e : TypeId} {v : Value} {n : Nat} {xs : List Value}
theorem Tx.nil (w : World) (e : TypeId) : Tx w e (.slice none 0 0) 0 [] := .inl (World.ownsRow_nil _ _ _ _)
theorem Tx.of_own {base : Nat} (h : w.ownsRow base e 1 v n xs) : Tx w e v n xs := .inl (own_base h (Nat.zero_le _))
theorem Tx.length (h : Tx w e v n xs) : xs.length = n := by
  rcases h with h | h
  · simpa using h.1
  · exact h.1
theorem Tx.pos (h : Tx w e v n xs) (hn : 0 < n) : ∃ g c cur, v = .slice (some ⟨g, 0, none⟩) n c ∧ w.heap[g]? = some (.cells cur e (0, 0)) ∧ n ≤ c ∧ cur.toList.take n = xs := by
  rcases h with h | ⟨_, g, cur, hv, hg, ht⟩
  · rcases h.2 with ⟨_, h0⟩ | ⟨g, cap, cur, hv, _, hg, hc, _, _, ht⟩
    · omega
    · exact ⟨g, cap, cur, hv, hg, hc, by simpa using ht⟩
  · exact ⟨g, n, cur, hv, hg, Nat.le_refl _, ht⟩
theorem sl_row {g : Nat} {cur : Array Value} (hg : w.heap[g]? = some (.cells cur e (0, 0))) (ht : cur.toList.take n = xs) : Sl w w.heap.size (some ⟨g, 0, none⟩) xs := by
  intro j u hj
  refine ⟨_, rfl, heap_lt hg, ?_⟩
  have h3 : (⟨g, 0, none⟩ : Addr).add j = ⟨g, j, none⟩ := by unfold Addr.add; split <;> simp_all
  rw [h3, cell_of_row w _ j _ _ _ hg]
  rw [← ht, List.getElem?_take] at hj
  split at hj
  · simpa using hj
  · cases hj
theorem Tx.form (h : Tx w e v n xs) : ∃ A c, v = .slice A n c ∧ Sl w w.heap.size A xs ∧ n ≤ c ∧ (A = none → n = 0) := by
  rcases h with h | ⟨hl, g, cur, hv, hg, ht⟩
  · rcases h.2 with ⟨hv, h0⟩ | ⟨g, cap, cur, hv, _, hg, hc, _, _, ht⟩
    · have hx : xs = [] := List.eq_nil_of_length_eq_zero (by rw [h.1, h0])
      subst hx h0
      exact ⟨none, 0, hv, Sl.nil _ _ _, Nat.le_refl _, fun _ => rfl⟩
    · exact ⟨_, cap, hv, sl_row hg (by simpa using ht), hc, by simp⟩
  · exact ⟨_, n, hv, sl_row hg ht, Nat.le_refl _, by simp⟩
theorem Tx.cut {g p : Nat} {cur : Array Value} (hg : w.heap[g]? = some (.cells cur e (0, 0))) (ht : cur.toList.take n = xs) (hp : p ≤ n) (hl : xs.length = n) : Tx w e (.slice (some ⟨g, 0, none⟩) p p) p (xs.take p) := by
  refine .inr ⟨by rw [List.length_take]; omega, g, cur, rfl, hg, ?_⟩
  rw [← ht, List.take_take, Nat.min_eq_left hp]
theorem Tx.only {S : List Nat} (h : Tx w e v n xs) (ht : OnlyIn S w w') (hv : ∀ k, v.ownBlock = some k → k ∉ S) : Tx w' e v n xs := by
  rcases h with h | ⟨hl, g, cur, rfl, hg, hx⟩
  · exact .inl (ht.own h hv)
  · exact .inr ⟨hl, g, cur, rfl, (ht.block g (heap_lt hg) (hv g rfl)).trans hg, hx⟩
theorem Tx.drewN (h : Tx w e v n xs) (m : Nat) : Tx (w.drewN m) e v n xs := h
theorem Tx.lt (h : Tx w e v n xs) : ∀ k, v.ownBlock = some k → k < w.heap.size := by
  intro k hk
  rcases h with h | ⟨_, g, cur, rfl, hg, _⟩
  · exact (h.lt k hk).2
  · simp [Value.ownBlock] at hk
    subst hk
    exact heap_lt hg
end

section
variable {P : Program} (w : World)
theorem run_append_zero (t ty e : TypeId) (i : TypeInfo) (ht : P.underlying t = some (.slice e)) (hi : P.info? e = some i) (_hsize : i.size = 1) (g n : Nat) (A : Option Addr) (c : Nat) (hA : A = none ∨ ∃ a, A = some a) :
    (Builtin.append_ #[t, t] ty #[.slice (some ⟨g, 0, none⟩) n n, .slice A 0 c]).run P w = .ok (.slice (some ⟨g, 0, none⟩) n n) w := by
  have hl : ∀ (x : Addr), (loadCells x 0).run P w = .ok #[] w := fun x => by simpa using run_loadCells_list (P := P) w x [] (by simp)
  rcases hA with rfl | ⟨a, rfl⟩
  · simp [Builtin.append_, run_underlying ht, sizeOf, typeInfo, hi, Builtin.lenOf, Builtin.firstCells, storeCells]
  · simp [Builtin.append_, run_underlying ht, sizeOf, typeInfo, hi, Builtin.lenOf, Builtin.firstCells, storeCells, hl]

/-- append(s[:p:p], src...): never into the row that was there. -/
theorem run_append_tight (t ty e : TypeId) (i : TypeInfo) (z : Value) (bytes : Nat) (ht : P.underlying t = some (.slice e)) (hi : P.info? e = some i) (hz : i.zero = some z)
    (hsize : i.size = 1) (hby : i.bytes = bytes) (hzs : z.cells.size = 1)
    (g n : Nat) (cur : Array Value) (xs : List Value) (hg : w.heap[g]? = some (.cells cur e (0, 0))) (htk : cur.toList.take n = xs) (hxl : xs.length = n)
    (B : Nat) (A : Option Addr) (m c : Nat) (src : List Value) (hl : src.length = m) (hA : Sl w B A src)
    (h63 : n + m ≤ 1000000) (hbytes : bytes ≤ 100) (hnil : A = none → m = 0) :
    ∃ v' w', (Builtin.append_ #[t, t] ty #[.slice (some ⟨g, 0, none⟩) n n, .slice A m c]).run P w = .ok v' w' ∧ Tx w' e v' (n + m) (xs ++ src) ∧ w.grownBy w' none ∧ (∀ k, v'.ownBlock = some k → k = g ∨ w.heap.size ≤ k) := by
  rcases Nat.eq_zero_or_pos m with h0 | h0
  · subst h0
    have hs : src = [] := List.eq_nil_of_length_eq_zero hl
    subst hs
    refine ⟨_, _, run_append_zero w t ty e i ht hi hsize g n A c (by cases A <;> simp), ?_, World.grownBy.refl w _, fun k hk => .inl (by simpa [Value.ownBlock] using hk.symm)⟩
    simp only [List.append_nil, Nat.add_zero]
    exact .inr ⟨hxl, g, cur, rfl, hg, htk⟩
  · cases A with
    | none => have := hnil rfl; omega
    | some a =>
      have hb : (n + m) * bytes ≤ 140737488355328 := by
        have : (n + m) * bytes ≤ 1000000 * 100 := Nat.mul_le_mul h63 hbytes
        omega
      have hsl := sl_row hg htk
      obtain ⟨v', w', hr, hown, hgr⟩ := run_append_arg_grows (P := P) (w := w) t ty e i z 1 bytes ht hi hz hsize hby hzs (by omega) ⟨g, 0, none⟩ n n xs (by omega)
        (fun j u hj => by obtain ⟨a', e', _, h⟩ := hsl j u hj; injection e' with e'; subst e'; exact h) a m c src (by omega)
        (fun j u hj => by obtain ⟨a', e', _, h⟩ := hA j u hj; injection e' with e'; subst e'; exact h) (by omega) (by unfold maxLen; omega) hb
      exact ⟨v', w', hr, Tx.of_own hown, hgr, fun k hk => .inr (hown.lt k hk).1⟩
theorem run_append_tx (t ty e : TypeId) (i : TypeInfo) (z : Value) (bytes : Nat) (ht : P.underlying t = some (.slice e)) (hi : P.info? e = some i) (hz : i.zero = some z)
    (hsize : i.size = 1) (hby : i.bytes = bytes) (hzs : z.cells.size = 1)
    (v : Value) (n : Nat) (xs : List Value) (h : Tx w e v n xs)
    (B : Nat) (A : Option Addr) (m c : Nat) (src : List Value) (hl : src.length = m) (hA : Sl w B A src) (h1 : ∀ u ∈ src, u.oneCell' = true)
    (h63 : n + m ≤ 1000000) (hbytes : bytes ≤ 100) (hnil : A = none → m = 0) :
    ∃ v' w', (Builtin.append_ #[t, t] ty #[v, .slice A m c]).run P w = .ok v' w' ∧ Tx w' e v' (n + m) (xs ++ src) ∧ w.grownBy w' v.ownBlock ∧ (∀ k, v'.ownBlock = some k → v.ownBlock = some k ∨ w.heap.size ≤ k) := by
  rcases h with h | ⟨hxl, g, cur, rfl, hg, htk⟩
  · obtain ⟨v', w', hr, h2, h3, h4⟩ := run_appendAll (P := P) w 0 t ty e i z bytes ht hi hz hsize hby hzs v n xs h B A m c src hl hA h1 h63 hbytes (Nat.zero_le _) hnil
    refine ⟨v', w', hr, Tx.of_own h2, h3, fun k hk => ?_⟩
    rcases h4 with h4 | h4
    · exact .inl (h4 ▸ hk)
    · rw [h4] at hk; injection hk with hk; exact .inr (by omega)
  · obtain ⟨v', w', hr, h2, h3, h4⟩ := run_append_tight (P := P) w t ty e i z bytes ht hi hz hsize hby hzs g n cur xs hg htk hxl B A m c src hl hA h63 hbytes hnil
    refine ⟨v', w', hr, h2, ⟨h3.os, h3.tape, h3.output, h3.size, fun k hk _ => h3.block k hk (by simp)⟩, fun k hk => ?_⟩
    rcases h4 k hk with h4 | h4
    · exact .inl (by rw [h4]; rfl)
    · exact .inr h4

/-- A call of append whose run is known. -/
theorem wp_appendBy {w : World} {o : Oper} {a : Act} {K : Act → World → Prop} {Q : Exit → Act → World → Prop} (s x : Operand) (t : TypeId)
    (ho : o.op = .call { callee := .builtin .append, args := #[s, x], argTypes := #[t, t] })
    (vs vx : Value) (hs : a.eval s = vs) (hx : a.eval x = vx) (v' : Value) (w' : World) (hr : (Builtin.append_ #[t, t] o.type #[vs, vx]).run P w = .ok v' w') (h : K (a.put o.dst v') w') : o.wp P a w K Q := by
  unfold Oper.wp execOp
  simp only [ho, resolve, invoke, builtin, Sem.run_bind, Sem.run_pure, Result.andThen_ok, List.map_toArray, List.map_cons, List.map_nil, hs, hx, hr]
  exact h
theorem appendBy {w : World} {ops : Array Oper} {rest : List Oper} {o : Oper} {a : Act} {Q : Exit → Act → World → Prop} (hgd : o.guard = none) (s x : Operand) (t : TypeId)
    (ho : o.op = .call { callee := .builtin .append, args := #[s, x], argTypes := #[t, t] })
    (vs vx : Value) (hs : a.eval s = vs) (hx : a.eval x = vx) (v' : Value) (w' : World) (hr : (Builtin.append_ #[t, t] o.type #[vs, vx]).run P w = .ok v' w') (h : wpList P ops Q rest (a.put o.dst v') w') : wpList P ops Q (o :: rest) a w :=
  wpList_plain hgd fun _ hK => wp_appendBy s x t ho vs vx hs hx v' w' hr (hK _ _ h)
theorem step_appendBy {w : World} {ops : Array Oper} {o : Oper} {a : Act} {K : Act → World → Prop} {Q : Exit → Act → World → Prop} {E : Prop} (hgd : o.guard = none) (s x : Operand) (t : TypeId)
    (ho : o.op = .call { callee := .builtin .append, args := #[s, x], argTypes := #[t, t] })
    (vs vx : Value) (hs : a.eval s = vs) (hx : a.eval x = vx) (v' : Value) (w' : World) (hr : (Builtin.append_ #[t, t] o.type #[vs, vx]).run P w = .ok v' w') (h : K (a.put o.dst v') w') : if Region.wanted o (yielded ops a.tmps) = true then Oper.wp P o a w K Q else E := by
  have hw : Region.wanted o (yielded ops a.tmps) = true := by simp [Region.wanted, hgd]
  rw [if_pos hw]
  exact wp_appendBy s x t ho vs vx hs hx v' w' hr h
end
end Go.Lk
