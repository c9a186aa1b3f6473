/- The contract of same: two nets that hold the same are told alike. Condition: both are well made (Nt, DocIs). -/
import Derived.Test.YtlhlnaengedfgaaNetW
import Derived.Test.YtlhlnaengedfgaaNetM
import Derived.Deep.CutBlock
namespace Go.Proofs.Ytlhlnaengedfgaa
open Go.RowKit Go.Lk

/-- The two nets, and the act. -/
structure Sm (P Q : Nat → Prop) (w wx : World) (bn bx ba sv : Nat) (L : Nat → Nat → List ByteArray) (p : Act5) : Prop where
  nt : Nt P wx bn sv L
  dt : Dt Q wx bx sv L
  act : wx.heap[ba]? = some (.cells (arow p).toArray 58 (0, 0))
  below : Below w.heap.size w wx
section
variable {P Q : Nat → Prop} {w wx wy : World} {bn bx ba sv : Nat} {L : Nat → Nat → List ByteArray} {p : Act5}
theorem Sm.calm (h : Sm P Q w wx bn bx ba sv L p) (hb : Below wx.heap.size wx wy) : Sm P Q w wy bn bx ba sv L p :=
  ⟨h.nt.below hb, h.dt.below hb, (hb.block _ (heap_lt h.act)).trans h.act, h.below.trans (hb.mono h.below.size)⟩
theorem Sm.cells (h : Sm P Q w wx bn bx ba sv L p) : wx.cell? ⟨ba, 0, none⟩ = some (.int .i64 p.1) ∧ wx.cell? ⟨ba, 1, none⟩ = some (.int .i64 p.2.1) ∧ wx.cell? ⟨ba, 2, none⟩ = some (.int .i64 p.2.2.1) ∧ wx.cell? ⟨ba, 3, none⟩ = some (.int .i64 p.2.2.2.1) ∧ wx.cell? ⟨ba, 4, none⟩ = some (.string p.2.2.2.2) := by
  refine ⟨?_, ?_, ?_, ?_, ?_⟩ <;> (rw [cell_of_row wx ba _ _ _ _ h.act]; rfl)
end
theorem atN_in {sv : Nat} {L : Nat → Nat → List ByteArray} {a b : Int} {k : Nat} {s : ByteArray} (h : (ofN sv L a b)[k]? = some s) : atN sv L a b (k : Int) = (s, 0) := by
  cases hh : hasL sv a b with
  | false => rw [ofN_no L hh] at h; simp at h
  | true =>
    have e : ofN sv L a b = L (ix a) (ix b) := by unfold ofN; rw [hh]; rfl
    rw [e] at h
    have hk := (List.getElem?_eq_some_iff.1 h).1
    have hi : inR (L (ix a) (ix b)) (k : Int) = true := by unfold inR; simp; omega
    unfold atN
    rw [hh, hi]
    simp [txt, h]
theorem atN_out {sv : Nat} {L : Nat → Nat → List ByteArray} {a b p : Int} (h : p < 0 ∨ ((ofN sv L a b).length : Int) ≤ p) : atN sv L a b p = (⟨#[]⟩, 7) := by
  cases hh : hasL sv a b with
  | false => unfold atN; rw [hh]; rfl
  | true =>
    have e : ofN sv L a b = L (ix a) (ix b) := by unfold ofN; rw [hh]; rfl
    rw [e] at h
    have hi : inR (L (ix a) (ix b)) p = false := by unfold inR; simp; omega
    unfold atN
    rw [hh, hi]; rfl

section
variable {P Q : Nat → Prop} (w : World) (bn bx sv : Nat) (L : Nat → Nat → List ByteArray)
set_option maxRecDepth 100000 in
set_option maxHeartbeats 4000000 in
theorem same_ok (hn : Nt P w bn sv L) (hd : Dt Q w bx sv L) (kd af at_ pl : Int) (tx : ByteArray) :
    Calls Try.prog 32 #[.pointer (some ⟨bn, 0, none⟩), .pointer (some ⟨bx, 0, none⟩), .agg #[.int .i64 kd, .int .i64 af, .int .i64 at_, .int .i64 pl, .string tx]] w fun e w' => e = .returned (.bool true) ∧ Below w.heap.size w w' := by
  have hb0 : Below w.heap.size w (w.alloc (.cells #[.int .i64 kd, .int .i64 af, .int .i64 at_, .int .i64 pl, .string tx] 58)) := (Below.refl w.heap.size w).alloc (Nat.le_refl _) _
  have HS0 : Hid (Sm P Q w (w.alloc (.cells #[.int .i64 kd, .int .i64 af, .int .i64 at_, .int .i64 pl, .string tx] 58)) bn bx w.heap.size sv L (kd, af, at_, pl, tx)) := ⟨hn.below hb0, hd.below hb0, heap_alloc_new w _, hb0⟩
  clear hn hd hb0
  go_enter Try.func32, Try.ntmps32
  go_upto_region 1 with fail
  generalize w.alloc (.cells #[.int .i64 kd, .int .i64 af, .int .i64 at_, .int .i64 pl, .string tx] 58) = w0 at *
  generalize w.heap.size = ba at *
  obtain ⟨a0, a1, a2, a3, a4⟩ := HS0.out.cells
  dsimp only at a0 a1 a2 a3 a4
  obtain ⟨gr, U, hD⟩ := HS0.out.dt
  have HO := Lib.hid (d_of w0 bx gr sv U L hD af at_)
  clear hD
  go_wp2_with fail
  refine HO.out.mono ?_
  rintro e w1 ⟨u, ⟨rfl, hu⟩, m1, rfl⟩
  obtain ⟨n0, hn0⟩ : ∃ n0, (ofN sv L af at_).length = n0 := ⟨_, rfl⟩
  have HR := Lib.hid hu.row
  rw [hn0] at HR
  have hle := hu.le
  rw [hn0] at hle
  obtain ⟨A, c, rfl, hsl, hnc, _⟩ := HR.out.form
  have HSL := Lib.hid hsl
  have HN0 := Lib.hid hn0
  clear hu hn0 hsl
  have HA := Lib.hid (n_at (w0.drewN m1) bn sv L (HS0.out.nt.below (below_drewN (Below.refl _ _) m1)) af at_ pl)
  have HS1 : Hid (Sm P Q w (w0.drewN m1) bn bx ba sv L (kd, af, at_, pl, tx)) := HS0.out.calm (below_drewN (Below.refl _ _) m1)
  obtain ⟨at9, hat9⟩ : ∃ x, atN sv L af at_ pl = x := ⟨_, rfl⟩
  rw [hat9] at HA
  have HE := Lib.hid hat9
  clear hat9
  obtain ⟨s9, c9⟩ := at9
  go_wp2_with fail
  refine HA.out.mono ?_
  rintro e w1 ⟨rfl, hw⟩
  subst hw
  go_upto_region 3 with fail
  obtain ⟨ib, hib⟩ : ∃ ib : Bool, decide (0 ≤ pl ∧ pl < (n0 : Int)) = ib := ⟨_, rfl⟩
  have HIB := Lib.hid hib
  go_cut [36] from 27 to 35 (fun v wx => v = .bool ib ∧ w0.drewN m1 = wx)
  case first =>
    by_cases hp0 : 0 ≤ pl
    · by_cases hp1 : pl < (n0 : Int)
      · have e1 : ib = true := by rw [← hib]; simp [hp0, hp1]
        clear hib
        subst e1
        go_wp2_with fail
        go_meet
        exact ⟨rfl, rfl⟩
      · have e1 : ib = false := by rw [← hib]; simp [hp1]
        clear hib
        subst e1
        go_wp2_with fail
        go_meet
        exact ⟨rfl, rfl⟩
    · have e1 : ib = false := by rw [← hib]; simp [hp0]
      clear hib
      subst e1
      go_wp2_with fail
      go_meet
      exact ⟨rfl, rfl⟩
  case rest =>
  obtain ⟨rfl, rfl⟩ := hcut
  clear hib
  go_upto_if 36 with fail
  go_cut [] from 37 to 53 (fun wx => w0.drewN m1 = wx)
  case first =>
    cases ib with
    | true =>
      obtain ⟨h0, h1⟩ : 0 ≤ pl ∧ pl < (n0 : Int) := of_decide_eq_true HIB.out
      obtain ⟨k, hk⟩ : ∃ k : Nat, pl = (k : Int) := ⟨pl.toNat, by omega⟩
      have hkn : k < n0 := by omega
      obtain ⟨s, hs⟩ : ∃ s, (ofN sv L af at_)[k]? = some s := ⟨_, List.getElem?_eq_getElem (by rw [HN0.out]; exact hkn)⟩
      have he := atN_in hs
      rw [← hk, HE.out] at he
      injection he with he1 he2
      obtain ⟨b, o, rfl, _, hcell⟩ := HSL.out.plain (by rw [strs_length, HN0.out]; omega)
      have hc := hcell k _ (strs_at hs)
      subst hk he1 he2
      have hd : decide ((k : Int) < (n0 : Int)) = true := by simp; omega
      clear hcell hs
      go_wp2_with fail
      go_meet
      rfl
    | false =>
      have hn : ¬ (0 ≤ pl ∧ pl < (n0 : Int)) := of_decide_eq_false HIB.out
      have he := atN_out (sv := sv) (L := L) (a := af) (b := at_) (p := pl) (by rw [HN0.out]; omega)
      rw [HE.out] at he
      injection he with he1 he2
      subst he1 he2
      clear hn
      go_wp2_with fail
      go_meet
      rfl
  case rest =>
    subst hcut
    have hlen : lenN sv L af at_ = n0 := by rw [← lenN_of]; exact HN0.out
    have HLEN := Lib.hid hlen
    obtain ⟨hb, hhb⟩ : ∃ hb, hasL (sv : Int) af at_ = hb := ⟨_, rfl⟩
    obtain ⟨tt, htt⟩ : ∃ tt, sumL sv L (allL sv) = tt := ⟨_, rfl⟩
    have hbl : (busy sv L (allL sv)).length ≤ 1000 := by
      have h1 := busy_le sv L (allL sv)
      have h2 := upTo_length sv (sv + 1) 0
      rw [upTo_end] at h2
      have h4 := HS1.out.nt.small
      have h3 : (sv + 1) * (sv + 1) ≤ 9 * 9 := Nat.mul_le_mul (by omega) (by omega)
      omega
    have H36 : Hid (∀ W, Sm P Q w W bn bx ba sv L (kd, af, at_, pl, tx) → Calls Try.prog 36 #[.pointer (some ⟨bn, 0, none⟩), .int .i64 af, .int .i64 at_] W fun e w' => e = .returned (.bool hb) ∧ W = w') := fun W h => by
      have h1 := n_has W bn sv h.nt.c0 af at_
      rwa [hhb] at h1
    have H41 : Hid (∀ W, Sm P Q w W bn bx ba sv L (kd, af, at_, pl, tx) → Calls Try.prog 41 #[.pointer (some ⟨bx, 0, none⟩), .int .i64 af, .int .i64 at_] W fun e w' => e = .returned (.bool hb) ∧ W = w') := fun W h => by
      have h1 := d_has W bx sv h.dt.c0 af at_
      rwa [hhb] at h1
    have H33 : Hid (∀ W, Sm P Q w W bn bx ba sv L (kd, af, at_, pl, tx) → Calls Try.prog 33 #[.pointer (some ⟨bn, 0, none⟩), .int .i64 af, .int .i64 at_] W fun e w' => e = .returned (.int .i64 (n0 : Int)) ∧ W = w') := fun W h => by
      have h1 := n_len W bn sv L h.nt af at_
      rwa [HLEN.out] at h1
    have H34 : Hid (∀ W, Sm P Q w W bn bx ba sv L (kd, af, at_, pl, tx) → Calls Try.prog 34 #[.pointer (some ⟨bn, 0, none⟩)] W fun e w' => e = .returned (.int .i64 (tt : Int)) ∧ Below W.heap.size W w') := fun W h => by
      have h1 := total_ok W bn sv L h.nt
      rwa [htt] at h1
    have H45 : Hid (∀ W, Sm P Q w W bn bx ba sv L (kd, af, at_, pl, tx) → Calls Try.prog 45 #[.pointer (some ⟨bx, 0, none⟩)] W fun e w' => e = .returned (.int .i64 (tt : Int)) ∧ W = w') := fun W h => by
      obtain ⟨gr, U, hD⟩ := h.dt
      have h1 := d_total W bx gr sv U L hD
      rwa [htt] at h1
    have H37 : Hid (∀ W, Sm P Q w W bn bx ba sv L (kd, af, at_, pl, tx) → Calls Try.prog 37 #[.pointer (some ⟨bn, 0, none⟩)] W fun e w' => ∃ u, e = .returned u ∧ w'.ownsRow W.heap.size 76 2 u (busy sv L (allL sv)).length (lc (busy sv L (allL sv))) ∧ Below W.heap.size W w') := fun W h => links_ok W bn sv L h.nt
    have H46 : Hid (∀ W, Sm P Q w W bn bx ba sv L (kd, af, at_, pl, tx) → Calls Try.prog 46 #[.pointer (some ⟨bx, 0, none⟩)] W fun e w' => ∃ u, e = .returned u ∧ w'.ownsRow W.heap.size 76 2 u (busy sv L (allL sv)).length (lc (busy sv L (allL sv))) ∧ Below W.heap.size W w') := fun W h => by
      obtain ⟨gr, U, hD⟩ := h.dt
      exact d_links W bx gr sv U L hD
    have HBL := Lib.hid hbl
    have Sc : Hid (∀ W, Sm P Q w W bn bx ba sv L (kd, af, at_, pl, tx) → W.cell? ⟨ba, 1, none⟩ = some (.int .i64 af) ∧ W.cell? ⟨ba, 2, none⟩ = some (.int .i64 at_)) := fun W h => ⟨h.cells.2.1, h.cells.2.2.1⟩
    have hcells := Sc.out _ HS1.out
    have HSd : Hid (Sm P Q w (w0.drewN m1).drew bn bx ba sv L (kd, af, at_, pl, tx)) := HS1.out.calm (Below.refl _ _).drew
    clear hlen hhb htt hbl HA HO HS0 HE HIB HSL HR a0 a1 a2 a3 a4
    generalize w0.drewN m1 = w3 at *
    generalize busy sv L (allL sv) = bl at *
    go_wp2_with fail
    go_region_held3 (fun W => W.cell? ⟨ba, 1, none⟩ = some (.int .i64 af) ∧ W.cell? ⟨ba, 2, none⟩ = some (.int .i64 at_))
      (first | (exact Sc.out _ HS7.out) | (exact Sc.out _ HS6.out) | (exact Sc.out _ HS5.out) | (exact Sc.out _ HS4.out) | go_keep)
      (first
        | (go_at_call 36; refine (H36.out _ HSd.out).mono ?_; rintro e wz ⟨rfl, rfl⟩)
        | (go_at_call 41; refine (H41.out _ HSd.out).mono ?_; rintro e wz ⟨rfl, rfl⟩)
        | (go_at_call 33; refine (H33.out _ HSd.out).mono ?_; rintro e wz ⟨rfl, rfl⟩)
        | (go_at_call 34; refine (H34.out _ HSd.out).mono ?_; rintro e w4 ⟨rfl, hB4⟩; have HS4 := Lib.hid (HSd.out.calm hB4); clear hB4)
        | (go_at_call 45; refine (H45.out _ HS4.out).mono ?_; rintro e wz ⟨rfl, rfl⟩)
        | (go_at_call 37; refine (H37.out _ HS4.out).mono ?_; rintro e w5 ⟨u5, rfl, hR5, hB5⟩; have HR5 := Lib.hid hR5; have HS5 := Lib.hid (HS4.out.calm hB5); clear hR5 hB5)
        | (go_at_call 46; refine (H46.out _ HS5.out).mono ?_; rintro e w6 ⟨u6, rfl, hR6, hB6⟩; have HR6 := Lib.hid hR6; have HX6 := Lib.hid ((OnlyIn.of_below (S := []) hB6).own HR5.out (by simp)); have HS6 := Lib.hid (HS5.out.calm hB6); clear hR6 hB6)
        | (go_at_call 38; refine (sameLinks_ok _ _ _ u5 u6 bl HBL.out HX6.out HR6.out).mono ?_; rintro e w7 ⟨rfl, hB7⟩; have HS7 := Lib.hid (HS6.out.calm hB7); clear hB7))
    go_wp2_with fail
    go_ret
    exact ⟨rfl, HS7.out.below⟩
end
end Go.Proofs.Ytlhlnaengedfgaa
