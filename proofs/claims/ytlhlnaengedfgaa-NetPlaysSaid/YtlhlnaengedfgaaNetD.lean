/- Contracts of the net's At, Take, Twin. Condition: the net is well made (Nt), or nil. -/
import Derived.Test.YtlhlnaengedfgaaNetC
namespace Go.Proofs.Ytlhlnaengedfgaa
open Go.RowKit Go.Lk

section
variable {P : Nat → Prop} (w : World) (bn sv : Nat) (L : Nat → Nat → List ByteArray)
set_option maxHeartbeats 1000000 in
theorem n_at (h : Nt P w bn sv L) (a b p : Int) :
    Calls Try.prog 35 #[.pointer (some ⟨bn, 0, none⟩), .int .i64 a, .int .i64 b, .int .i64 p] w fun e w' => e = .returned (.tuple #[.string (atN sv L a b p).1, .int .i64 (atN sv L a b p).2]) ∧ w = w' := by
  have HFy := Lib.hid (found_yes w)
  have HFn := Lib.hid (found_no w)
  cases hh : hasL sv a b with
  | false =>
    have e1 : atN sv L a b p = (⟨#[]⟩, 7) := by unfold atN; rw [hh]; rfl
    rw [e1]
    have HB := Lib.hid (n_bag_no w bn sv h.c0 a b hh)
    have HA := Lib.hid (at_nil w p)
    clear hh e1 h
    go_enter Try.func35, Try.ntmps35
    go_wp2_with fail
    refine HB.out.mono ?_
    rintro e w1 ⟨rfl, hw⟩
    subst hw
    go_wp2_with fail
    refine HA.out.mono ?_
    rintro e w1 ⟨rfl, hw⟩
    subst hw
    go_wp2_with fail
    refine (HFn.out _).mono ?_
    rintro e w1 ⟨rfl, hw⟩
    subst hw
    go_wp2_with fail
    go_ret2
    exact ⟨rfl, rfl⟩
  | true =>
    obtain ⟨i, j, rfl, rfl, hk, h1⟩ := hasL_yes hh
    obtain ⟨B, V, hN⟩ := h
    have hb := hN.bag i j hk
    have HB := Lib.hid (n_bag_yes w bn sv L hN i j hk h1)
    cases hi : inR (L i j) p with
    | true =>
      obtain ⟨k, s, rfl, hs, ht⟩ := inR_yes hi
      have e1 : atN sv L ((i : Int) - 1) ((j : Int) - 1) (k : Int) = (s, 0) := by unfold atN; rw [hh, ix_nat, ix_nat, hi, ht]; rfl
      rw [e1]
      have HA := Lib.hid (at_ok (B i j) 64 (V i j) (L i j) w hb k s hs)
      clear hh e1 hb hN hk hi hs ht
      go_enter Try.func35, Try.ntmps35
      go_wp2_with fail
      refine HB.out.mono ?_
      rintro e w1 ⟨rfl, hw⟩
      subst hw
      go_wp2_with fail
      refine HA.out.mono ?_
      rintro e w1 ⟨rfl, hw⟩
      subst hw
      go_wp2_with fail
      refine (HFy.out _).mono ?_
      rintro e w1 ⟨rfl, hw⟩
      subst hw
      go_wp2_with fail
      go_ret2
      exact ⟨rfl, rfl⟩
    | false =>
      have e1 : atN sv L ((i : Int) - 1) ((j : Int) - 1) p = (⟨#[]⟩, 7) := by unfold atN; rw [hh, ix_nat, ix_nat, hi]; rfl
      rw [e1]
      have HA := Lib.hid (at_bad (B i j) 64 (V i j) (L i j) w hb p (inR_no hi))
      clear hh e1 hb hN hk hi
      go_enter Try.func35, Try.ntmps35
      go_wp2_with fail
      refine HB.out.mono ?_
      rintro e w1 ⟨rfl, hw⟩
      subst hw
      go_wp2_with fail
      refine HA.out.mono ?_
      rintro e w1 ⟨rfl, hw⟩
      subst hw
      go_wp2_with fail
      refine (HFn.out _).mono ?_
      rintro e w1 ⟨rfl, hw⟩
      subst hw
      go_wp2_with fail
      go_ret2
      exact ⟨rfl, rfl⟩
theorem n_at_nil (a b p : Int) :
    Calls Try.prog 35 #[.pointer none, .int .i64 a, .int .i64 b, .int .i64 p] w fun e w' => e = .returned (.tuple #[.string ⟨#[]⟩, .int .i64 7]) ∧ w = w' := by
  have HFn := Lib.hid (found_no w)
  have HB := Lib.hid (n_bag_nil w a b)
  have HA := Lib.hid (at_nil w p)
  go_enter Try.func35, Try.ntmps35
  go_wp2_with fail
  refine HB.out.mono ?_
  rintro e w1 ⟨rfl, hw⟩
  subst hw
  go_wp2_with fail
  refine HA.out.mono ?_
  rintro e w1 ⟨rfl, hw⟩
  subst hw
  go_wp2_with fail
  refine (HFn.out _).mono ?_
  rintro e w1 ⟨rfl, hw⟩
  subst hw
  go_wp2_with fail
  go_ret2
  exact ⟨rfl, rfl⟩
theorem take_nil (p : Int) :
    Calls Try.prog 14 #[.pointer none, .int .i64 p] w fun e w' => e = .returned (.tuple #[.string ⟨#[]⟩, .bool false]) ∧ w = w' := by
  have HA := Lib.hid (at_nil w p)
  go_enter Try.func14, Try.ntmps14
  go_wp2_with fail
  refine HA.out.mono ?_
  rintro e w1 ⟨rfl, hw⟩
  subst hw
  go_wp2_with fail
  go_ret2
  exact ⟨rfl, rfl⟩
set_option maxHeartbeats 1000000 in
theorem n_take (h : Nt P w bn sv L) (a b p : Int) :
    Calls Try.prog 28 #[.pointer (some ⟨bn, 0, none⟩), .int .i64 a, .int .i64 b, .int .i64 p] w fun e w' => e = .returned (.tuple #[.string (takeN sv L a b p).2.1, .int .i64 (takeN sv L a b p).2.2]) ∧ Nx P w w' bn sv (takeN sv L a b p).1 := by
  have FIN0 := Lib.hid (Nx.calm h (Below.refl _ _))
  cases hh : hasL sv a b with
  | false =>
    have e1 : takeN sv L a b p = (L, ⟨#[]⟩, 7) := by unfold takeN; rw [hh]; rfl
    rw [e1]
    have HB := Lib.hid (n_bag_no w bn sv h.c0 a b hh)
    have HA := Lib.hid (take_nil w p)
    clear hh e1 h
    go_enter Try.func28, Try.ntmps28
    go_wp2_with fail
    refine HB.out.mono ?_
    rintro e w1 ⟨rfl, hw⟩
    subst hw
    go_wp2_with fail
    refine HA.out.mono ?_
    rintro e w1 ⟨rfl, hw⟩
    subst hw
    go_wp2_with fail
    refine (found_no _ _).mono ?_
    rintro e w1 ⟨rfl, hw⟩
    subst hw
    go_wp2_with fail
    go_ret2
    exact ⟨rfl, FIN0.out⟩
  | true =>
    obtain ⟨i, j, rfl, rfl, hk, h1⟩ := hasL_yes hh
    obtain ⟨B, V, hN⟩ := h
    have hb := hN.bag i j hk
    have HB := Lib.hid (n_bag_yes w bn sv L hN i j hk h1)
    cases hi : inR (L i j) p with
    | true =>
      obtain ⟨k, s, rfl, hs, ht⟩ := inR_yes hi
      have e1 : takeN sv L ((i : Int) - 1) ((j : Int) - 1) (k : Int) = (upd L i j ((L i j).eraseIdx k), s, 0) := by unfold takeN; rw [hh, ix_nat, ix_nat, hi, ht, Int.toNat_natCast]; rfl
      rw [e1]
      have HA := Lib.hid (take_ok (B i j) 64 (V i j) (L i j) w hb k s hs)
      have HN := Lib.hid hN
      have HK := Lib.hid hk
      clear hh e1 hb hN hk hi hs ht FIN0
      go_enter Try.func28, Try.ntmps28
      go_wp2_with fail
      refine HB.out.mono ?_
      rintro e w1 ⟨rfl, hw⟩
      subst hw
      go_wp2_with fail
      refine HA.out.mono ?_
      rintro e w2 ⟨rfl, v', hb2, ho2, hn2⟩
      have FIN := Lib.hid (Nx.step HN.out HK.out hb2 ho2 (fun k hk => .inl (by simpa using hk)) hn2)
      clear hb2 ho2 hn2
      go_wp2_with fail
      refine (found_yes _ _).mono ?_
      rintro e w1 ⟨rfl, hw⟩
      subst hw
      go_wp2_with fail
      go_ret2
      exact ⟨rfl, FIN.out⟩
    | false =>
      have e1 : takeN sv L ((i : Int) - 1) ((j : Int) - 1) p = (L, ⟨#[]⟩, 7) := by unfold takeN; rw [hh, ix_nat, ix_nat, hi]; rfl
      rw [e1]
      have HA := Lib.hid (take_bad (B i j) 64 (V i j) (L i j) w hb p (inR_no hi))
      clear hh e1 hb hN hk hi
      go_enter Try.func28, Try.ntmps28
      go_wp2_with fail
      refine HB.out.mono ?_
      rintro e w1 ⟨rfl, hw⟩
      subst hw
      go_wp2_with fail
      refine HA.out.mono ?_
      rintro e w1 ⟨rfl, hw⟩
      subst hw
      go_wp2_with fail
      refine (found_no _ _).mono ?_
      rintro e w1 ⟨rfl, hw⟩
      subst hw
      go_wp2_with fail
      go_ret2
      exact ⟨rfl, FIN0.out⟩
set_option maxHeartbeats 1000000 in
theorem n_twin (h : Nt P w bn sv L) (a b p : Int) :
    Calls Try.prog 30 #[.pointer (some ⟨bn, 0, none⟩), .int .i64 a, .int .i64 b, .int .i64 p] w fun e w' => e = .returned (.int .i64 (twinN sv L a b p).2) ∧ Nx P w w' bn sv (twinN sv L a b p).1 := by
  have FIN0 := Lib.hid (Nx.calm h (Below.refl _ _))
  cases hh : hasL sv a b with
  | false =>
    have e1 : twinN sv L a b p = (L, 7) := by unfold twinN; rw [hh]; rfl
    rw [e1]
    have HB := Lib.hid (n_bag_no w bn sv h.c0 a b hh)
    have HA := Lib.hid (twin_nil w p)
    clear hh e1 h
    go_enter Try.func30, Try.ntmps30
    go_wp2_with fail
    refine HB.out.mono ?_
    rintro e w1 ⟨rfl, hw⟩
    subst hw
    go_wp2_with fail
    refine HA.out.mono ?_
    rintro e w1 ⟨rfl, hw⟩
    subst hw
    go_wp2_with fail
    go_ret
    exact ⟨rfl, FIN0.out⟩
  | true =>
    obtain ⟨i, j, rfl, rfl, hk, h1⟩ := hasL_yes hh
    obtain ⟨B, V, hN⟩ := h
    have hb := hN.bag i j hk
    have HB := Lib.hid (n_bag_yes w bn sv L hN i j hk h1)
    cases hi : inR (L i j) p with
    | true =>
      obtain ⟨k, s, rfl, hs, ht⟩ := inR_yes hi
      by_cases hf : (L i j).length < 64
      · have e1 : twinN sv L ((i : Int) - 1) ((j : Int) - 1) (k : Int) = (upd L i j (L i j ++ [s]), 0) := by unfold twinN; rw [hh, ix_nat, ix_nat, hi, ht, if_pos hf]; rfl
        rw [e1]
        have HA := Lib.hid (twin_room (B i j) 64 (V i j) (L i j) w hb hf k s hs)
        have HN := Lib.hid hN
        have HK := Lib.hid hk
        clear hh e1 hb hN hk hi hs ht FIN0 hf
        go_enter Try.func30, Try.ntmps30
        go_wp2_with fail
        refine HB.out.mono ?_
        rintro e w1 ⟨rfl, hw⟩
        subst hw
        go_wp2_with fail
        refine HA.out.mono ?_
        rintro e w2 ⟨rfl, v', hb2, ho2, hn2⟩
        have FIN := Lib.hid (Nx.step HN.out HK.out hb2 ho2 (fun k hk => by simpa using hk) hn2)
        clear hb2 ho2 hn2
        go_wp2_with fail
        go_ret
        exact ⟨rfl, FIN.out⟩
      · have e1 : twinN sv L ((i : Int) - 1) ((j : Int) - 1) (k : Int) = (L, 6) := by unfold twinN; rw [hh, ix_nat, ix_nat, hi, if_neg hf]; rfl
        rw [e1]
        have HA := Lib.hid (twin_full (B i j) 64 (V i j) (L i j) w hb (by have := hb.le; omega) k s hs)
        have FINh : Hid (∀ m, Nx P w (w.drewN m) bn sv L) := fun m => Nx.calm ⟨B, V, hN⟩ (below_drewN (Below.refl _ _) m)
        clear hh e1 hb hN hk hi hs ht FIN0 hf
        go_enter Try.func30, Try.ntmps30
        go_wp2_with fail
        refine HB.out.mono ?_
        rintro e w1 ⟨rfl, hw⟩
        subst hw
        go_wp2_with fail
        refine HA.out.mono ?_
        rintro e w2 ⟨rfl, m, rfl⟩
        go_wp2_with fail
        go_ret
        exact ⟨rfl, FINh.out m⟩
    | false =>
      have e1 : twinN sv L ((i : Int) - 1) ((j : Int) - 1) p = (L, 7) := by unfold twinN; rw [hh, ix_nat, ix_nat, hi]; rfl
      rw [e1]
      have HA := Lib.hid (twin_bad (B i j) 64 (V i j) (L i j) w hb p (inR_no hi))
      clear hh e1 hb hN hk hi
      go_enter Try.func30, Try.ntmps30
      go_wp2_with fail
      refine HB.out.mono ?_
      rintro e w1 ⟨rfl, hw⟩
      subst hw
      go_wp2_with fail
      refine HA.out.mono ?_
      rintro e w1 ⟨rfl, hw⟩
      subst hw
      go_wp2_with fail
      go_ret
      exact ⟨rfl, FIN0.out⟩
theorem n_twin_nil (a b p : Int) :
    Calls Try.prog 30 #[.pointer none, .int .i64 a, .int .i64 b, .int .i64 p] w fun e w' => e = .returned (.int .i64 7) ∧ w = w' := by
  have HB := Lib.hid (n_bag_nil w a b)
  have HA := Lib.hid (twin_nil w p)
  go_enter Try.func30, Try.ntmps30
  go_wp2_with fail
  refine HB.out.mono ?_
  rintro e w1 ⟨rfl, hw⟩
  subst hw
  go_wp2_with fail
  refine HA.out.mono ?_
  rintro e w1 ⟨rfl, hw⟩
  subst hw
  go_wp2_with fail
  go_ret
  exact ⟨rfl, rfl⟩
end
end Go.Proofs.Ytlhlnaengedfgaa
