/- Maps from int to int as lists of their keys: look up, delete, store, clear. Over any program; no condition. -/
import Derived.WideKeyEntry
import Derived.RowKit3
namespace Go.Lk
open Go.MapKept Go.ChangeMaps

/-- Block b is a map from int to int with just these keys. -/
def IMap (w : World) (b : Nat) (ks : List Int) : Prop :=
  ∃ es clock, w.heap[b]? = some (.map es clock) ∧ Stamped es clock ∧ es.toList.map (·.key) = ks.map (Value.int .i64) ∧ ∀ e ∈ es.toList, ∃ v, e.val = .int .i64 v

section
variable {P : Program} {w : World} {b mt kt et : TypeId} {ks : List Int}

theorem IMap.isKey {es : Array MapEntry} (hk : es.toList.map (·.key) = ks.map (Value.int .i64)) : ∀ x ∈ es.toList, IsKey (.int .i64) x.key := by
  intro x hx
  have : x.key ∈ ks.map (Value.int .i64) := by rw [← hk]; exact List.mem_map.2 ⟨x, hx, rfl⟩
  obtain ⟨k, _, e⟩ := List.mem_map.1 this
  rw [← e]; rfl
theorem IMap.mem {es : Array MapEntry} (hk : es.toList.map (·.key) = ks.map (Value.int .i64)) (id : Int) : (∃ x ∈ es.toList, x.key = .int .i64 id) ↔ id ∈ ks := by
  constructor
  · rintro ⟨x, hx, e⟩
    have : x.key ∈ ks.map (Value.int .i64) := by rw [← hk]; exact List.mem_map.2 ⟨x, hx, rfl⟩
    obtain ⟨k, hk', e'⟩ := List.mem_map.1 this
    rw [e] at e'
    injection e' with _ e'
    subst e'
    exact hk'
  · intro h
    have : Value.int .i64 id ∈ es.toList.map (·.key) := by rw [hk]; exact List.mem_map.2 ⟨id, h, rfl⟩
    obtain ⟨x, hx, e⟩ := List.mem_map.1 this
    exact ⟨x, hx, e⟩

theorem IMap.lt (h : IMap w b ks) : b < w.heap.size := by
  obtain ⟨es, clock, hb, _⟩ := h
  exact (Array.getElem?_eq_some_iff.1 hb).1
theorem IMap.of_block {w' : World} (h : IMap w b ks) (hb : w'.heap[b]? = w.heap[b]?) : IMap w' b ks := by
  obtain ⟨es, clock, h1, h2⟩ := h
  exact ⟨es, clock, hb.trans h1, h2⟩
theorem IMap.made (w : World) : IMap (w.alloc (.map #[] 0)) w.heap.size [] := ⟨#[], 0, (MapKept.heap_alloc w _).1, stamped_empty 0, rfl, by simp⟩

theorem IMap.lookup (h : IMap w b ks) (hm : P.underlying mt = some (.map kt et)) (hd : P.underlying kt = some (.int .i64)) (hz : ∀ u : World, (zeroValue et).run P u = .ok (.int .i64 0) u) (id : Int) :
    ∃ v : Int, (Instr.lookup mt (.map (some b)) (.int .i64 id) true).run P w = .ok (.tuple #[.int .i64 v, .bool (decide (id ∈ ks))]) w := by
  obtain ⟨es, clock, hb, hs, hk, hv⟩ := h
  have hkey : IsKey (.int .i64) (.int .i64 id) := rfl
  rcases findNow_spec hkey es.toList 0 (IMap.isKey hk) with ⟨h1, h2⟩ | ⟨j, e, h1, h2, h3⟩
  · have hn : id ∉ ks := fun hm => by obtain ⟨x, hx, e⟩ := (IMap.mem hk id).2 hm; exact h2 x hx e
    exact ⟨0, by simp [Instr.lookup, run_underlying hm, MapKept.run_getObj_map hb, run_checkKey hd hkey, run_findKey hd h1, hz, Result.andThen, hn]⟩
  · have he : e ∈ es.toList := List.mem_of_getElem? h2
    obtain ⟨v, hv⟩ := hv e he
    have hn : id ∈ ks := (IMap.mem hk id).1 ⟨e, he, h3⟩
    exact ⟨v, by simp [Instr.lookup, run_underlying hm, MapKept.run_getObj_map hb, run_checkKey hd hkey, run_findKey hd h1, Result.andThen, hn, hv]⟩

theorem IMap.clear (h : IMap w b ks) (hm : P.underlying mt = some (.map kt et)) (ty : TypeId) :
    ∃ es clock, (Builtin.clear_ #[mt] ty #[.map (some b)]).run P w = .ok (.tuple #[]) (setBlock w b (.map es clock)) ∧ IMap (setBlock w b (.map es clock)) b [] := by
  obtain ⟨es, clock, hb, hs, hk, hv⟩ := h
  refine ⟨#[], clock, by simp [Builtin.clear_, run_underlying hm, MapKept.run_getObj_map hb, MapKept.run_setObj_map _ hb, Result.andThen, setBlock], #[], clock, (heap_set hb).1, stamped_empty _, rfl, by simp⟩

theorem IMap.delete (h : IMap w b ks) (hm : P.underlying mt = some (.map kt et)) (hd : P.underlying kt = some (.int .i64)) (ty : TypeId) (id : Int) :
    ∃ es0 clock0 es clock, w.heap[b]? = some (.map es0 clock0) ∧ (∀ W : World, W.heap[b]? = some (.map es0 clock0) → (Builtin.delete_ #[mt, kt] ty #[.map (some b), .int .i64 id]).run P W = .ok (.tuple #[]) (setBlock W b (.map es clock))) ∧
      ∃ ks', (∀ W : World, W.heap[b]? = some (.map es0 clock0) → IMap (setBlock W b (.map es clock)) b ks') ∧ ∀ x, x ∈ ks' ↔ x ∈ ks ∧ x ≠ id := by
  obtain ⟨es, clock, hb0, hs, hk, hv⟩ := h
  have hkey : IsKey (.int .i64) (.int .i64 id) := rfl
  rcases findNow_spec hkey es.toList 0 (IMap.isKey hk) with ⟨h1, h2⟩ | ⟨j, e, h1, h2, h3⟩
  · have hn : id ∉ ks := fun hm => by obtain ⟨x, hx, e⟩ := (IMap.mem hk id).2 hm; exact h2 x hx e
    refine ⟨es, clock, es, clock, hb0, fun W hb => by simp [Builtin.delete_, run_underlying hm, MapKept.run_getObj_map hb, run_checkKey hd hkey, run_findKey hd h1, MapKept.run_setObj_map _ hb, Result.andThen, setBlock], ks, fun W hb => ⟨es, clock, (heap_set hb).1, hs, hk, hv⟩, fun x => ?_⟩
    constructor
    · intro hx; exact ⟨hx, fun e => hn (e ▸ hx)⟩
    · exact fun hx => hx.1
  · have hsub : (es.eraseIdxIfInBounds j).toList.Sublist es.toList := by
      unfold Array.eraseIdxIfInBounds
      split
      · simp only [Array.toList_eraseIdx]; exact List.eraseIdx_sublist _ _
      · exact List.Sublist.refl _
    have hjl : j < es.size := by have := (List.getElem?_eq_some_iff.1 h2).1; simpa using this
    have hlist : (es.eraseIdxIfInBounds j).toList = es.toList.eraseIdx j := by
      unfold Array.eraseIdxIfInBounds
      rw [dif_pos hjl, Array.toList_eraseIdx]
    have hkj : ks[j]? = some id := by
      have : (es.toList.map (·.key))[j]? = some (.int .i64 id) := by rw [List.getElem?_map, h2]; simp [h3]
      rw [hk, List.getElem?_map] at this
      cases hkk : ks[j]? with
      | none => rw [hkk] at this; simp at this
      | some k => rw [hkk] at this; simp at this; rw [this]
    have hnd : ks.Nodup := by
      have h4 := hs.2.2
      rw [hk] at h4
      unfold List.Nodup at h4 ⊢
      rw [List.pairwise_map] at h4
      exact h4.imp (fun h e => h (by rw [e]))
    refine ⟨es, clock, es.eraseIdxIfInBounds j, clock, hb0, fun W hb => by simp [Builtin.delete_, run_underlying hm, MapKept.run_getObj_map hb, run_checkKey hd hkey, run_findKey hd h1, MapKept.run_setObj_map _ hb, Result.andThen, setBlock], ks.eraseIdx j,
      fun W hb => ⟨_, clock, (heap_set hb).1, stamped_erase hs _, ?_, fun e he => hv e (hsub.subset he)⟩, fun x => ?_⟩
    · rw [hlist, map_eraseIdx, hk, map_eraseIdx]
    · have he : ks.eraseIdx j = ks.erase id := by
        have hmem : id ∈ ks := List.mem_of_getElem? hkj
        have hjk := (List.getElem?_eq_some_iff.1 hkj)
        rw [List.erase_eq_eraseIdx]
        have hidx : ks.idxOf? id = some j := by
          rw [List.idxOf?_eq_some_iff]
          refine ⟨hjk.1, hjk.2, fun i hi hij => ?_⟩
          have h5 := List.pairwise_iff_getElem.1 hnd i j (Nat.lt_trans hi hjk.1) hjk.1 hi
          exact h5 (by rw [hjk.2]; exact hij)
        rw [hidx]
      rw [he, hnd.mem_erase_iff]
      exact And.comm

/-- A new key's entry is made, and then stored into, in whatever world in which the block is as it was made. -/
theorem IMap.entry (h : IMap w b ks) (hm : P.underlying mt = some (.map kt et)) (hd : P.underlying kt = some (.int .i64)) (hz : ∀ u : World, (zeroValue et).run P u = .ok (.int .i64 0) u) (id : Int) (hid : id ∉ ks) :
    ∃ es clock es1 clock1, w.heap[b]? = some (.map es clock) ∧
      (∀ W : World, W.heap[b]? = some (.map es clock) → (Instr.mapEntry mt (.map (some b)) (.int .i64 id)).run P W = .ok (.tuple #[.int .i64 0, .int .i64 (clock : Int)]) (setBlock W b (.map es1 clock1))) ∧
      ∀ (val : Int), ∃ es2 clock2, (∀ W : World, W.heap[b]? = some (.map es1 clock1) → (Instr.entryStore mt (.map (some b)) (.int .i64 (clock : Int)) (.int .i64 val)).run P W = .ok () (setBlock W b (.map es2 clock2)) ∧ IMap (setBlock W b (.map es2 clock2)) b (ks ++ [id])) := by
  obtain ⟨es, clock, hb, hs, hk, hv⟩ := h
  have hkey : IsKey (.int .i64) (.int .i64 id) := rfl
  rcases findNow_spec hkey es.toList 0 (IMap.isKey hk) with ⟨h1, h2⟩ | ⟨j, e, h1, h2, h3⟩
  · refine ⟨es, clock, es.push ⟨.int .i64 id, .int .i64 0, clock⟩, clock + 1, hb, fun W hW => ?_, fun val => ⟨es.push ⟨.int .i64 id, .int .i64 val, clock⟩, clock + 1, fun W hW => ⟨?_, ?_⟩⟩⟩
    · simp [Instr.mapEntry, run_underlying hm, MapKept.run_getObj_map hW, run_checkKey hd hkey, run_findKey hd h1, hz, MapKept.run_setObj_map _ hW, Result.andThen, setBlock, goInt]
    · have hidx : (es.push ⟨.int .i64 id, .int .i64 0, clock⟩).findIdx? (fun e => ((e.born : Nat) : Int) == ((clock : Nat) : Int)) = some es.size := by
        rw [WideElems.findIdx_arr]
        exact WideElems.findIdx_born (l := (es.push ⟨.int .i64 id, .int .i64 0, clock⟩).toList) (j := es.size) (e0 := ⟨.int .i64 id, .int .i64 0, clock⟩) (stamped_push hs h2).2.1 (by simp)
      have hmod : (es.push ⟨.int .i64 id, .int .i64 0, clock⟩).modify es.size (fun e => { e with val := Value.int .i64 val }) = es.push ⟨.int .i64 id, .int .i64 val, clock⟩ := by
        apply Array.ext'
        simp only [Array.toList_modify, Array.toList_push]
        rw [← Array.length_toList]
        exact WideElems.modify_last _ _ _
      simp [Instr.entryStore, MapKept.run_getObj_map hW, Result.andThen, asInt, asIntOf, hidx, hmod, MapKept.run_setObj_map _ hW, setBlock]
    · refine ⟨_, _, (heap_set hW).1, stamped_push hs h2, ?_, ?_⟩
      · simp [hk]
      · intro e he
        simp only [Array.toList_push, List.mem_append, List.mem_singleton] at he
        rcases he with he | rfl
        · exact hv e he
        · exact ⟨val, rfl⟩
  · exact absurd ((IMap.mem hk id).1 ⟨e, List.mem_of_getElem? h2, h3⟩) hid
end
end Go.Lk
