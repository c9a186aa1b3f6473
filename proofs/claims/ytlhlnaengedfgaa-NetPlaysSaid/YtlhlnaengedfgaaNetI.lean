/- Contracts of SameLinks on equal rows, and of awake. No condition on awake. -/
import Derived.Test.YtlhlnaengedfgaaNetH
import Derived.ChangeKeysEq
namespace Go.Proofs.Ytlhlnaengedfgaa
open Go.RowKit Go.Lk

theorem own_posN {w : World} {base : Nat} {e : TypeId} {size : Nat} {v : Value} {n : Nat} {xs : List Value} (h : w.ownsRow base e size v n xs) (hn : 0 < n) :
    ∃ g cap, v = .slice (some ⟨g, 0, none⟩) n cap ∧ base ≤ g ∧ g < w.heap.size ∧ n ≤ cap ∧ (∀ j u, xs[j]? = some u → w.cell? ⟨g, j, none⟩ = some u) ∧ ∀ j, w.frozen? ⟨g, j, none⟩ = false := by
  rcases h.2 with ⟨_, h0⟩ | ⟨g, cap, cur, hv, hb, hg, hc, _⟩
  · omega
  · subst hv
    refine ⟨g, cap, rfl, hb, heap_lt hg, hc, fun j u hu => ?_, fun j => h.frozenAt j⟩
    have h2 := h.cells (g := g) rfl j u hu
    have h3 : (⟨g, 0, none⟩ : Addr).add j = ⟨g, j, none⟩ := by unfold Addr.add; split <;> simp_all
    rwa [h3] at h2
theorem own_slice {w : World} {base : Nat} {e : TypeId} {size : Nat} {v : Value} {n : Nat} {xs : List Value} (h : w.ownsRow base e size v n xs) :
    ∃ A c, v = .slice A n c := by
  rcases h.2 with ⟨rfl, rfl⟩ | ⟨g, cap, cur, rfl, _⟩ <;> exact ⟨_, _, rfl⟩
theorem lc_get (l : List (Nat × Nat)) (j : Nat) (x : Nat × Nat) (h : l[j]? = some x) (i : Nat) (hi : i < 2) : (lc l)[j * 2 + i]? = (encL x).toList[i]? := by
  unfold lc
  rw [flat_get (K := 2) (l.map fun x => (encL x).toList) (by intro r hr; rw [List.mem_map] at hr; obtain ⟨y, _, rfl⟩ := hr; rfl) j i hi, List.getElem?_map, h]
  rfl

theorem eq76 (a b : Int) (w : World) : (Op.equalIn 10000 76 (.agg #[.int .i64 a, .int .i64 b]) (.agg #[.int .i64 a, .int .i64 b])).run Try.prog w = .ok true w := by
  obtain ⟨i, hi⟩ : ∃ i, Try.prog.info? 3 = some i := Option.isSome_iff_exists.1 (by kernel_rfl)
  have hc : Try.prog.cellsOf 3 = 1 := by kernel_rfl
  have h := run_equalIn_array (P := Try.prog) (w := w) 9999 (t := 76) (e := 3) (n := 2) #[.int .i64 a, .int .i64 b] #[.int .i64 a, .int .i64 b] Try.underlying76 hi
  rw [h, hc]
  simp [Op.eqItems, List.range_succ, go_sem]
set_option maxHeartbeats 1000000 in
theorem sameLinks_ok (w : World) (b1 b2 : Nat) (u v : Value) (l : List (Nat × Nat)) (hl : l.length ≤ 1000) (h1 : w.ownsRow b1 76 2 u l.length (lc l)) (h2 : w.ownsRow b2 76 2 v l.length (lc l)) :
    Calls Try.prog 38 #[u, v] w fun e w' => e = .returned (.bool true) ∧ Below w.heap.size w w' := by
  obtain ⟨m, hm⟩ : ∃ m, l.length = m := ⟨_, rfl⟩
  rw [hm] at h1 h2 hl
  rcases Nat.eq_zero_or_pos m with h0 | h0
  · subst h0
    obtain ⟨A, c, rfl⟩ := own_slice h1
    obtain ⟨A', c', rfl⟩ := own_slice h2
    clear h1 h2
    go_enter Try.func38, Try.ntmps38
    go_wp2_with fail
    go_loopw [5] (fun i wr => i = .int .i64 0 ∧ wr = w) (fun _ _ => 0)
    case atStart => exact ⟨rfl, rfl⟩
    case round =>
      obtain ⟨rfl, rfl⟩ := hrel
      go_wp2_with fail
      go_ret
      exact ⟨rfl, Below.refl _ _⟩
  · obtain ⟨g, c, rfl, _, _, _, hc1, _⟩ := own_posN h1 h0
    obtain ⟨g', c', rfl, _, _, _, hc2, _⟩ := own_posN h2 h0
    have HC1 := Lib.hid hc1
    have HC2 := Lib.hid hc2
    have HM := Lib.hid hm
    clear h1 h2 hc1 hc2 hm
    go_enter Try.func38, Try.ntmps38
    go_wp2_with fail
    go_loopw [5] (fun i wr => ∃ k m2 : Nat, k ≤ m ∧ i = .int .i64 k ∧ wr = w.drewN m2) (fun i _ => m - (intOf i).toNat)
    case atStart => exact ⟨0, 0, by omega, rfl, rfl⟩
    case round =>
      obtain ⟨k, m2, hk, rfl, rfl⟩ := hrel
      by_cases hlt : k < m
      · obtain ⟨x, hx⟩ : ∃ x, l[k]? = some x := ⟨_, List.getElem?_eq_getElem (by rw [HM.out]; exact hlt)⟩
        have a0 : w.cell? ⟨g, k * 2, none⟩ = some (.int .i64 ((x.1 : Int) - 1)) := HC1.out _ _ (lc_get l k x hx 0 (by omega))
        have a1 : w.cell? ⟨g, k * 2 + 1, none⟩ = some (.int .i64 ((x.2 : Int) - 1)) := HC1.out _ _ (lc_get l k x hx 1 (by omega))
        have b0 : w.cell? ⟨g', k * 2, none⟩ = some (.int .i64 ((x.1 : Int) - 1)) := HC2.out _ _ (lc_get l k x hx 0 (by omega))
        have b1 : w.cell? ⟨g', k * 2 + 1, none⟩ = some (.int .i64 ((x.2 : Int) - 1)) := HC2.out _ _ (lc_get l k x hx 1 (by omega))
        have he76 := eq76 ((x.1 : Int) - 1) ((x.2 : Int) - 1)
        clear hx
        go_wp2_with fail
        go_quiet (fail)
        go_wp2_with fail
        exact ⟨⟨k + 1, _, by omega, by go_num, rfl⟩, by simp [intOf]; omega⟩
      · have : k = m := by omega
        subst this
        go_wp2_with fail
        go_ret
        exact ⟨rfl, below_drewN (Below.refl _ _) _⟩

/-- What an act leaves where the net began at base. -/
theorem Nx.from {base : Nat} {w w' : World} {bn sv : Nat} {L : Nat → Nat → List ByteArray} (h : Nx (fun k => base ≤ k) w w' bn sv L) (hb : base ≤ w.heap.size) : Nt (fun k => base ≤ k) w' bn sv L ∧ Below base w w' := by
  obtain ⟨P', h1, h2, h3⟩ := h
  exact ⟨h2.mono fun k hk => by rcases h1 k hk with e | e; exact e; exact Nat.le_trans hb e, h3.to_below hb fun k hk => hk⟩

set_option maxRecDepth 100000 in
set_option maxHeartbeats 4000000 in
theorem awake37 (w : World) : Calls Try.prog 23 #[] w fun e w' => e = .returned (.bool true) ∧ Below w.heap.size w w' := by
  go_enter Try.func23, Try.ntmps23
  go_wp2_with fail
  refine (n_new _ 2 (by omega) (by omega)).mono ?_
  rintro e w1 ⟨bn, rfl, hN1, hbn, hB1⟩
  have HN1 := Lib.hid hN1
  have HB1 := Lib.hid hB1
  clear hN1 hB1
  go_wp2_with fail
  refine (n_put w1 bn 2 _ HN1.out (-1) 1 ⟨#[120]⟩).mono ?_
  rintro e w2 ⟨he, hx⟩
  rw [show (putN 2 (fun _ _ => []) (-1) 1 ⟨#[120]⟩).2 = 0 from rfl] at he
  subst he
  obtain ⟨hN2, hB2⟩ := hx.from HB1.out.size
  have HN2 := Lib.hid hN2
  have HB2 := Lib.hid (HB1.out.trans hB2)
  clear hN2 hB2 hx
  go_wp2_with fail
  refine (n_twin w2 bn 2 _ HN2.out (-1) 1 0).mono ?_
  rintro e w3 ⟨he, hx⟩
  rw [show (twinN 2 (putN 2 (fun _ _ => []) (-1) 1 ⟨#[120]⟩).1 (-1) 1 0).2 = 0 from rfl] at he
  subst he
  obtain ⟨hN3, hB3⟩ := hx.from HB2.out.size
  have HN3 := Lib.hid hN3
  have HB3 := Lib.hid (HB2.out.trans hB3)
  clear hN3 hB3 hx
  go_wp2_with fail
  refine (n_take w3 bn 2 _ HN3.out (-1) 1 1).mono ?_
  rintro e w4 ⟨he, hx⟩
  rw [show (takeN 2 (twinN 2 (putN 2 (fun _ _ => []) (-1) 1 ⟨#[120]⟩).1 (-1) 1 0).1 (-1) 1 1).2.1 = ⟨#[120]⟩ from rfl, show (takeN 2 (twinN 2 (putN 2 (fun _ _ => []) (-1) 1 ⟨#[120]⟩).1 (-1) 1 0).1 (-1) 1 1).2.2 = 0 from rfl] at he
  subst he
  obtain ⟨hN4, hB4⟩ := hx.from HB3.out.size
  have HN4 := Lib.hid hN4
  have HB4 := Lib.hid (HB3.out.trans hB4)
  clear hN4 hB4 hx
  obtain ⟨L4, hL4⟩ : ∃ L4, (takeN 2 (twinN 2 (putN 2 (fun _ _ => []) (-1) 1 ⟨#[120]⟩).1 (-1) 1 0).1 (-1) 1 1).1 = L4 := ⟨_, rfl⟩
  have hlen : lenN 2 L4 (-1) 1 = 1 := by rw [← hL4]; rfl
  have hbusy : busy 2 L4 (allL 2) = [(0, 2)] := by rw [← hL4]; rfl
  rw [hL4] at HN4
  clear hL4
  have HLen := Lib.hid (n_len w4 bn 2 L4 HN4.out (-1) 1)
  have HLinks := Lib.hid (links_ok w4 bn 2 L4 HN4.out)
  rw [hlen] at HLen
  rw [hbusy] at HLinks
  clear hlen hbusy
  go_wp2_with fail
  refine HLen.out.mono ?_
  rintro e w5 ⟨rfl, hw⟩
  subst hw
  go_wp2_with fail
  refine HLinks.out.mono ?_
  rintro e w5 ⟨u, rfl, hown, hB5⟩
  have HB5 := Lib.hid (HB4.out.trans (hB5.mono HB4.out.size))
  have HN5 := Lib.hid (HN4.out.below hB5)
  have HS := Lib.hid (sameLinks_ok (w5.alloc (.cells #[.int .i64 (-1), .int .i64 1] 76)) _ w5.heap.size u (.slice (some ⟨w5.heap.size, 0, none⟩) 1 1) [(0, 2)] (by simp) (hown.alloc _) (World.ownsRow_lit w5 #[.int .i64 (-1), .int .i64 1] 1 (Nat.le_refl _) (by unfold maxLen; omega) rfl))
  have HB6 := Lib.hid (HB5.out.alloc HB5.out.size (.cells #[.int .i64 (-1), .int .i64 1] 76))
  have HN6 := Lib.hid (HN5.out.below ((Below.refl _ _).alloc (Nat.le_refl _) (.cells #[.int .i64 (-1), .int .i64 1] 76)))
  clear hown hB5
  go_wp2_with fail
  refine HS.out.mono ?_
  rintro e w7 ⟨rfl, hB7⟩
  have HB7 := Lib.hid (HB6.out.trans (hB7.mono HB6.out.size))
  have HN7 := Lib.hid (HN6.out.below hB7)
  clear hB7
  go_wp2_with fail
  refine (n_has w7 bn 2 HN7.out.c0 1 1).mono ?_
  rintro e w8 ⟨he, hw⟩
  rw [show hasL ((2 : Nat) : Int) 1 1 = false from rfl] at he
  subst he hw
  go_wp2_with fail
  refine (n_has w7 bn 2 HN7.out.c0 1 0).mono ?_
  rintro e w8 ⟨he, hw⟩
  rw [show hasL ((2 : Nat) : Int) 1 0 = true from rfl] at he
  subst he hw
  go_wp2_with fail
  go_ret
  exact ⟨rfl, HB7.out⟩
end Go.Proofs.Ytlhlnaengedfgaa
