/- The document's net: Put, Take, Twin. Condition: it is well made (DocIs). -/
import Derived.Test.YtlhlnaengedfgaaNetS
namespace Go.Proofs.Ytlhlnaengedfgaa
open Go.RowKit Go.Lk

section
variable {Q : Nat → Prop} (w : World) (bx gr sv : Nat) (U : Nat → Nat → Value) (L : Nat → Nat → List ByteArray)
set_option maxHeartbeats 2000000 in
theorem d_put (h : DocIs Q w bx gr sv U L) (a b : Int) (s : ByteArray) :
    Calls Try.prog 27 #[.pointer (some ⟨bx, 0, none⟩), .int .i64 a, .int .i64 b, .string s] w fun e w' => e = .returned (.int .i64 (putN sv L a b s).2) ∧ Dx Q w w' bx sv (putN sv L a b s).1 := by
  cases hh : hasL sv a b with
  | false =>
    have e1 : putN sv L a b s = (L, 7) := by unfold putN; rw [hh]; rfl
    rw [e1]
    have HH := Lib.hid (d_has w bx sv h.c0 a b)
    rw [hh] at HH
    have FIN := Lib.hid (Dx.calm ⟨gr, U, h⟩ (Below.refl _ _))
    clear hh h e1
    go_enter Try.func27, Try.ntmps27
    go_wp2_with fail
    refine HH.out.mono ?_
    rintro e w1 ⟨rfl, hw⟩
    subst hw
    go_wp2_with fail
    go_ret
    exact ⟨rfl, FIN.out⟩
  | true =>
    have HO := Lib.hid (d_of w bx gr sv U L h a b)
    obtain ⟨i, j, rfl, rfl, hk, _⟩ := hasL_yes hh
    rw [ofN_yes L hh] at HO
    have HH := Lib.hid (d_has w bx sv h.c0 ((i : Int) - 1) ((j : Int) - 1))
    rw [hh] at HH
    obtain ⟨n, hn⟩ : ∃ n, (L i j).length = n := ⟨_, rfl⟩
    by_cases hf : n < 64
    · have e1 : putN sv L ((i : Int) - 1) ((j : Int) - 1) s = (upd L i j (L i j ++ [s]), 0) := by unfold putN; rw [hh, ix_nat, ix_nat, if_pos rfl, if_pos (by omega)]
      rw [e1]
      have HD := Lib.hid h
      have HK := Lib.hid hk
      have HN := Lib.hid hn
      clear hh h hk e1 hn
      go_enter Try.func27, Try.ntmps27
      go_wp2_with fail
      refine HH.out.mono ?_
      rintro e w1 ⟨rfl, hw⟩
      subst hw
      go_wp2_with fail
      refine HO.out.mono ?_
      rintro e w1 ⟨u, ⟨rfl, hu⟩, m1, rfl⟩
      have HR := Lib.hid (refPut_room u (L i j) (w.drewN m1) n HN.out (HN.out ▸ hu.row) 64 (by omega) (by omega) s)
      clear hu
      go_wp2_with fail
      refine HR.out.mono ?_
      rintro e w2 ⟨u2, rfl, ht2, hn2, hB2⟩
      obtain ⟨A2, c2, rfl, _, _, _⟩ := ht2.form
      have HB2 : Hid (Below w.heap.size w w2) := Below.trans (below_drewN (Below.refl _ w) m1) hB2
      have HT2 := Lib.hid ht2
      have HN2 := Lib.hid hn2
      have HD2 := Lib.hid (HD.out.below HB2.out)
      clear ht2 hn2 hB2
      have c0 := HD2.out.c0
      have c1 := HD2.out.c1
      have hfz := fun p => HD2.out.fz p
      have hcp := HD2.out.cp HK.out.1 HK.out.2.1
      have HP := Lib.hid (fun m => d_place (w2.drewN m) bx sv HD.out.small HD2.out.c0 i j (by have := HK.out.1; have := HD.out.small; omega) (by have := HK.out.2.1; have := HD.out.small; omega))
      have hq := place_lt (n := sv + 1) (i := i) (j := j) (by have := HK.out.1; omega) (by have := HK.out.2.1; omega)
      have FIN : Hid (∀ w', Below w2.heap.size (w2.setCell ⟨gr, i * (sv + 1) + j, none⟩ (.slice A2 (n + 1) c2)) w' → Dx Q w w' bx sv (upd L i j (L i j ++ [s]))) := fun w' hc =>
        Dx.step HD.out HB2.out HK.out (by rw [List.length_append, HN.out]; exact HT2.out) (by rw [List.length_append, HN.out]; simp; omega) HN2.out hc
      generalize i * (sv + 1) + j = q at *
      generalize (sv + 1) * (sv + 1) = nn at *
      have hd : decide ((q : Int) < (nn : Int)) = true := by simp; omega
      generalize U i j = uo at *
      have hfq := hfz q
      clear hfz
      go_wp2_with fail
      go_region_with (go_at_call 43; refine (HP.out _).mono ?_; rintro e w3 ⟨rfl, rfl⟩)
      all_goals
        go_wp2_with fail
        go_ret
        exact ⟨rfl, FIN.out _ ⟨rfl, rfl, rfl, Nat.le_refl _, fun _ _ => rfl⟩⟩
    · have e1 : putN sv L ((i : Int) - 1) ((j : Int) - 1) s = (L, 6) := by unfold putN; rw [hh, ix_nat, ix_nat, if_pos rfl, if_neg (by omega)]
      rw [e1]
      have FINh : Hid (∀ m, Dx Q w (w.drewN m) bx sv L) := fun m => Dx.calm ⟨gr, U, h⟩ (below_drewN (Below.refl _ _) m)
      have HN := Lib.hid hn
      clear hh h hk e1 hn
      go_enter Try.func27, Try.ntmps27
      go_wp2_with fail
      refine HH.out.mono ?_
      rintro e w1 ⟨rfl, hw⟩
      subst hw
      go_wp2_with fail
      refine HO.out.mono ?_
      rintro e w1 ⟨u, ⟨rfl, hu⟩, m1, rfl⟩
      obtain ⟨A2, c2, rfl, _, _, _⟩ := hu.row.form
      have HR := Lib.hid (refPut_full _ (L i j) (w.drewN m1) n HN.out (HN.out ▸ hu.row) 64 (by omega) s)
      clear hu
      rw [HN.out] at *
      go_wp2_with fail
      refine HR.out.mono ?_
      rintro e w2 ⟨rfl, hw⟩
      subst hw
      go_wp2_with fail
      go_ret
      exact ⟨rfl, FINh.out _⟩
set_option maxHeartbeats 2000000 in
theorem d_take (h : DocIs Q w bx gr sv U L) (a b p : Int) :
    Calls Try.prog 29 #[.pointer (some ⟨bx, 0, none⟩), .int .i64 a, .int .i64 b, .int .i64 p] w fun e w' => e = .returned (.tuple #[.string (takeN sv L a b p).2.1, .int .i64 (takeN sv L a b p).2.2]) ∧ Dx Q w w' bx sv (takeN sv L a b p).1 := by
  have HO := Lib.hid (d_of w bx gr sv U L h a b)
  have FINh : Hid (∀ m, Dx Q w (w.drewN m) bx sv L) := fun m => Dx.calm ⟨gr, U, h⟩ (below_drewN (Below.refl _ _) m)
  obtain ⟨n, hn⟩ : ∃ n, (ofN sv L a b).length = n := ⟨_, rfl⟩
  cases hi : inR (ofN sv L a b) p with
  | false =>
    have e1 : takeN sv L a b p = (L, ⟨#[]⟩, 7) := by
      unfold takeN
      cases hh : hasL sv a b with
      | false => rfl
      | true => unfold ofN at hi; rw [hh] at hi; simp only [if_true] at hi; rw [hi]; rfl
    rw [e1]
    have hp := inR_no hi
    rw [hn] at hp
    have HN := Lib.hid hn
    clear h e1 hi hn
    go_enter Try.func29, Try.ntmps29
    go_wp2_with fail
    refine HO.out.mono ?_
    rintro e w1 ⟨u, ⟨rfl, hu⟩, m1, rfl⟩
    have HR := Lib.hid (refTake_bad u (ofN sv L a b) (w.drewN m1) n HN.out (HN.out ▸ hu.row) p hp)
    obtain ⟨A2, c2, rfl, _, _, _⟩ := hu.row.form
    clear hu
    rw [HN.out] at *
    go_wp2_with fail
    refine HR.out.mono ?_
    rintro e w2 ⟨rfl, hw⟩
    subst hw
    go_wp2_with fail
    go_ret2
    exact ⟨rfl, FINh.out _⟩
  | true =>
    have hh : hasL sv a b = true := by
      cases hh : hasL sv a b with
      | true => rfl
      | false => rw [ofN_no L hh] at hi; unfold inR at hi; simp at hi; omega
    obtain ⟨i, j, rfl, rfl, hk, _⟩ := hasL_yes hh
    rw [ofN_yes L hh] at HO hi hn
    obtain ⟨k, s, rfl, hs, ht⟩ := inR_yes hi
    have hkn : k < n := by rw [← hn]; exact (List.getElem?_eq_some_iff.1 hs).1
    have hl1 : ((L i j).eraseIdx k).length = n - 1 := by rw [List.length_eraseIdx, if_pos (by rw [hn]; exact hkn), hn]
    have e1 : takeN sv L ((i : Int) - 1) ((j : Int) - 1) (k : Int) = (upd L i j ((L i j).eraseIdx k), s, 0) := by unfold takeN; rw [hh, ix_nat, ix_nat, hi, ht, Int.toNat_natCast]; rfl
    rw [e1]
    have hle := (h.rows i j hk).2
    rw [hn] at hle
    have HD := Lib.hid h
    have HK := Lib.hid hk
    have HN := Lib.hid hn
    have HL1 := Lib.hid hl1
    have HS := Lib.hid hs
    clear hh h hk e1 hn hl1 hs ht hi FINh
    go_enter Try.func29, Try.ntmps29
    go_wp2_with fail
    refine HO.out.mono ?_
    rintro e w1 ⟨u, ⟨rfl, hu⟩, m1, rfl⟩
    have HR := Lib.hid (refTake_ok u (L i j) (w.drewN m1) n HN.out (HN.out ▸ hu.row) (by omega) k s HS.out)
    clear hu
    go_wp2_with fail
    refine HR.out.mono ?_
    rintro e w2 ⟨u2, rfl, ht2, hn2, hB2⟩
    obtain ⟨A2, c2, rfl, _, _, _⟩ := ht2.form
    have HB2 : Hid (Below w.heap.size w w2) := Below.trans (below_drewN (Below.refl _ w) m1) hB2
    have HT2 := Lib.hid ht2
    have HN2 := Lib.hid hn2
    have HD2 := Lib.hid (HD.out.below HB2.out)
    clear ht2 hn2 hB2
    have c0 := HD2.out.c0
    have c1 := HD2.out.c1
    have hfz := fun p => HD2.out.fz p
    have hcp := HD2.out.cp HK.out.1 HK.out.2.1
    have HP := Lib.hid (fun m => d_place (w2.drewN m) bx sv HD.out.small HD2.out.c0 i j (by have := HK.out.1; have := HD.out.small; omega) (by have := HK.out.2.1; have := HD.out.small; omega))
    have hq := place_lt (n := sv + 1) (i := i) (j := j) (by have := HK.out.1; omega) (by have := HK.out.2.1; omega)
    have FIN : Hid (∀ w', Below w2.heap.size (w2.setCell ⟨gr, i * (sv + 1) + j, none⟩ (.slice A2 (n - 1) c2)) w' → Dx Q w w' bx sv (upd L i j ((L i j).eraseIdx k))) := fun w' hc =>
      Dx.step HD.out HB2.out HK.out (by rw [HL1.out]; exact HT2.out) (by rw [HL1.out]; omega) HN2.out hc
    generalize i * (sv + 1) + j = q at *
    generalize (sv + 1) * (sv + 1) = nn at *
    have hd : decide ((q : Int) < (nn : Int)) = true := by simp; omega
    generalize U i j = uo at *
    have hfq := hfz q
    clear hfz
    go_wp2_with fail
    go_region_with (go_at_call 43; refine (HP.out _).mono ?_; rintro e w3 ⟨rfl, rfl⟩)
    all_goals
      go_wp2_with fail
      go_ret2
      exact ⟨rfl, FIN.out _ ⟨rfl, rfl, rfl, Nat.le_refl _, fun _ _ => rfl⟩⟩
set_option maxHeartbeats 2000000 in
theorem d_twin (h : DocIs Q w bx gr sv U L) (a b p : Int) :
    Calls Try.prog 31 #[.pointer (some ⟨bx, 0, none⟩), .int .i64 a, .int .i64 b, .int .i64 p] w fun e w' => e = .returned (.int .i64 (twinN sv L a b p).2) ∧ Dx Q w w' bx sv (twinN sv L a b p).1 := by
  have HO := Lib.hid (d_of w bx gr sv U L h a b)
  have FINh : Hid (∀ m, Dx Q w (w.drewN m) bx sv L) := fun m => Dx.calm ⟨gr, U, h⟩ (below_drewN (Below.refl _ _) m)
  obtain ⟨n, hn⟩ : ∃ n, (ofN sv L a b).length = n := ⟨_, rfl⟩
  cases hi : inR (ofN sv L a b) p with
  | false =>
    have e1 : twinN sv L a b p = (L, 7) := by
      unfold twinN
      cases hh : hasL sv a b with
      | false => rfl
      | true => unfold ofN at hi; rw [hh] at hi; simp only [if_true] at hi; rw [hi]; rfl
    rw [e1]
    have hp := inR_no hi
    rw [hn] at hp
    have HN := Lib.hid hn
    clear h e1 hi hn
    go_enter Try.func31, Try.ntmps31
    go_wp2_with fail
    refine HO.out.mono ?_
    rintro e w1 ⟨u, ⟨rfl, hu⟩, m1, rfl⟩
    have HR := Lib.hid (refTwin_bad u (ofN sv L a b) (w.drewN m1) n (HN.out ▸ hu.row) 64 p hp)
    obtain ⟨A2, c2, rfl, _, _, _⟩ := hu.row.form
    clear hu
    rw [HN.out] at *
    go_wp2_with fail
    refine HR.out.mono ?_
    rintro e w2 ⟨rfl, hw⟩
    subst hw
    go_wp2_with fail
    go_ret
    exact ⟨rfl, FINh.out _⟩
  | true =>
    have hh : hasL sv a b = true := by
      cases hh : hasL sv a b with
      | true => rfl
      | false => rw [ofN_no L hh] at hi; unfold inR at hi; simp at hi; omega
    obtain ⟨i, j, rfl, rfl, hk, _⟩ := hasL_yes hh
    rw [ofN_yes L hh] at HO hi hn
    obtain ⟨k, s, rfl, hs, ht⟩ := inR_yes hi
    by_cases hf : n < 64
    · have hl1 : (L i j ++ [s]).length = n + 1 := by rw [List.length_append, hn]; rfl
      have e1 : twinN sv L ((i : Int) - 1) ((j : Int) - 1) (k : Int) = (upd L i j (L i j ++ [s]), 0) := by unfold twinN; rw [hh, ix_nat, ix_nat, hi, ht, hn, if_pos hf]; rfl
      rw [e1]
      have HD := Lib.hid h
      have HK := Lib.hid hk
      have HN := Lib.hid hn
      have HL1 := Lib.hid hl1
      have HS := Lib.hid hs
      clear hh h hk e1 hn hl1 hs ht hi FINh
      go_enter Try.func31, Try.ntmps31
      go_wp2_with fail
      refine HO.out.mono ?_
      rintro e w1 ⟨u, ⟨rfl, hu⟩, m1, rfl⟩
      have HR := Lib.hid (refTwin_room u (L i j) (w.drewN m1) n HN.out (HN.out ▸ hu.row) 64 (by omega) (by omega) k s HS.out)
      clear hu
      go_wp2_with fail
      refine HR.out.mono ?_
      rintro e w2 ⟨u2, rfl, ht2, hn2, hB2⟩
      obtain ⟨A2, c2, rfl, _, _, _⟩ := ht2.form
      have HB2 : Hid (Below w.heap.size w w2) := Below.trans (below_drewN (Below.refl _ w) m1) hB2
      have HT2 := Lib.hid ht2
      have HN2 := Lib.hid hn2
      have HD2 := Lib.hid (HD.out.below HB2.out)
      clear ht2 hn2 hB2
      have c0 := HD2.out.c0
      have c1 := HD2.out.c1
      have hfz := fun p => HD2.out.fz p
      have hcp := HD2.out.cp HK.out.1 HK.out.2.1
      have HP := Lib.hid (fun m => d_place (w2.drewN m) bx sv HD.out.small HD2.out.c0 i j (by have := HK.out.1; have := HD.out.small; omega) (by have := HK.out.2.1; have := HD.out.small; omega))
      have hq := place_lt (n := sv + 1) (i := i) (j := j) (by have := HK.out.1; omega) (by have := HK.out.2.1; omega)
      have FIN : Hid (∀ w', Below w2.heap.size (w2.setCell ⟨gr, i * (sv + 1) + j, none⟩ (.slice A2 (n + 1) c2)) w' → Dx Q w w' bx sv (upd L i j (L i j ++ [s]))) := fun w' hc =>
        Dx.step HD.out HB2.out HK.out (by rw [HL1.out]; exact HT2.out) (by rw [HL1.out]; omega) HN2.out hc
      generalize i * (sv + 1) + j = q at *
      generalize (sv + 1) * (sv + 1) = nn at *
      have hd : decide ((q : Int) < (nn : Int)) = true := by simp; omega
      generalize U i j = uo at *
      have hfq := hfz q
      clear hfz
      go_wp2_with fail
      go_region_with (go_at_call 43; refine (HP.out _).mono ?_; rintro e w3 ⟨rfl, rfl⟩)
      all_goals
        go_wp2_with fail
        go_ret
        exact ⟨rfl, FIN.out _ ⟨rfl, rfl, rfl, Nat.le_refl _, fun _ _ => rfl⟩⟩
    · have e1 : twinN sv L ((i : Int) - 1) ((j : Int) - 1) (k : Int) = (L, 6) := by unfold twinN; rw [hh, ix_nat, ix_nat, hi, hn, if_neg hf]; rfl
      rw [e1]
      have HN := Lib.hid hn
      have HS := Lib.hid hs
      clear hh h hk e1 hn hs ht hi
      go_enter Try.func31, Try.ntmps31
      go_wp2_with fail
      refine HO.out.mono ?_
      rintro e w1 ⟨u, ⟨rfl, hu⟩, m1, rfl⟩
      have HR := Lib.hid (refTwin_full u (L i j) (w.drewN m1) n HN.out (HN.out ▸ hu.row) 64 (by omega) k s HS.out)
      obtain ⟨A2, c2, rfl, _, _, _⟩ := hu.row.form
      clear hu
      rw [HN.out] at *
      go_wp2_with fail
      refine HR.out.mono ?_
      rintro e w2 ⟨rfl, hw⟩
      subst hw
      go_wp2_with fail
      go_ret
      exact ⟨rfl, FINh.out _⟩
end
end Go.Proofs.Ytlhlnaengedfgaa
