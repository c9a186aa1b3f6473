/- Contracts of the net's acts: Put, At, Take, Twin, Len. Condition: the net is well made (Nt), or nil. -/
import Derived.Test.YtlhlnaengedfgaaNetB
namespace Go.Proofs.Ytlhlnaengedfgaa
open Go.RowKit Go.Lk

/-! What the acts compute. -/
def ix (a : Int) : Nat := (a + 1).toNat
theorem ix_nat (i : Nat) : ix ((i : Int) - 1) = i := by unfold ix; omega
def inR (l : List ByteArray) (p : Int) : Bool := decide (0 ≤ p ∧ p < (l.length : Int))
def putN (sv : Nat) (L : Nat → Nat → List ByteArray) (a b : Int) (s : ByteArray) : (Nat → Nat → List ByteArray) × Int :=
  if hasL sv a b then if (L (ix a) (ix b)).length < 64 then (upd L (ix a) (ix b) (L (ix a) (ix b) ++ [s]), 0) else (L, 6) else (L, 7)
def txt (l : List ByteArray) (p : Int) : ByteArray := (l[p.toNat]?).getD ⟨#[]⟩
def takeN (sv : Nat) (L : Nat → Nat → List ByteArray) (a b p : Int) : (Nat → Nat → List ByteArray) × ByteArray × Int :=
  if hasL sv a b && inR (L (ix a) (ix b)) p then (upd L (ix a) (ix b) ((L (ix a) (ix b)).eraseIdx p.toNat), txt (L (ix a) (ix b)) p, 0) else (L, ⟨#[]⟩, 7)
def twinN (sv : Nat) (L : Nat → Nat → List ByteArray) (a b p : Int) : (Nat → Nat → List ByteArray) × Int :=
  if hasL sv a b && inR (L (ix a) (ix b)) p then if (L (ix a) (ix b)).length < 64 then (upd L (ix a) (ix b) (L (ix a) (ix b) ++ [txt (L (ix a) (ix b)) p]), 0) else (L, 6) else (L, 7)
def atN (sv : Nat) (L : Nat → Nat → List ByteArray) (a b p : Int) : ByteArray × Int :=
  if hasL sv a b && inR (L (ix a) (ix b)) p then (txt (L (ix a) (ix b)) p, 0) else (⟨#[]⟩, 7)
def lenN (sv : Nat) (L : Nat → Nat → List ByteArray) (a b : Int) : Nat := if hasL sv a b then (L (ix a) (ix b)).length else 0

/-- What an act leaves: the net, and all else. -/
def Nx (P : Nat → Prop) (w w' : World) (bn sv : Nat) (L' : Nat → Nat → List ByteArray) : Prop := ∃ P' : Nat → Prop, (∀ k, P' k → P k ∨ w.heap.size ≤ k) ∧ Nt P' w' bn sv L' ∧ Off P w w'
theorem Nx.calm {P : Nat → Prop} {w w' : World} {bn sv : Nat} {L : Nat → Nat → List ByteArray} (h : Nt P w bn sv L) (hb : Below w.heap.size w w') : Nx P w w' bn sv L :=
  ⟨P, fun _ h => .inl h, h.below hb, Off.of_below P hb⟩
theorem Nx.step {P : Nat → Prop} {w w' : World} {bn sv : Nat} {B : Nat → Nat → Nat} {V : Nat → Nat → Value} {L : Nat → Nat → List ByteArray} (h : NetIs P w bn sv B V L) {i j : Nat} (hij : Lk sv i j) {v' : Value} {l' : List ByteArray} {S : List Nat} (hb : BagIs w' (B i j) 64 v' l') (ho : OnlyIn S w w')
    (hS : ∀ k ∈ S, k = B i j ∨ (V i j).ownBlock = some k) (hn : ∀ k, v'.ownBlock = some k → (V i j).ownBlock = some k ∨ w.heap.size ≤ k) : Nx P w w' bn sv (upd L i j l') := by
  obtain ⟨h1, h2⟩ := h.step hij hb ho hS hn
  exact ⟨_, fun _ h => h, ⟨_, _, h1⟩, h2⟩
theorem inR_yes {l : List ByteArray} {p : Int} (h : inR l p = true) : ∃ (k : Nat) (s : ByteArray), p = (k : Int) ∧ l[k]? = some s ∧ txt l p = s := by
  have h := of_decide_eq_true h
  obtain ⟨k, rfl⟩ := Int.eq_ofNat_of_zero_le h.1
  have hk : k < l.length := by omega
  refine ⟨k, l[k], rfl, List.getElem?_eq_getElem hk, ?_⟩
  unfold txt
  rw [Int.toNat_natCast, List.getElem?_eq_getElem hk]; rfl
theorem inR_no {l : List ByteArray} {p : Int} (h : inR l p = false) : p < 0 ∨ (l.length : Int) ≤ p := by
  have h := of_decide_eq_false h
  omega

section
variable {P : Nat → Prop} (w : World) (bn sv : Nat) (L : Nat → Nat → List ByteArray)
set_option maxHeartbeats 1000000 in
theorem n_put (h : Nt P w bn sv L) (a b : Int) (s : ByteArray) :
    Calls Try.prog 26 #[.pointer (some ⟨bn, 0, none⟩), .int .i64 a, .int .i64 b, .string s] w fun e w' => e = .returned (.int .i64 (putN sv L a b s).2) ∧ Nx P w w' bn sv (putN sv L a b s).1 := by
  cases hh : hasL sv a b with
  | false =>
    have e1 : putN sv L a b s = (L, 7) := by unfold putN; rw [hh]; rfl
    rw [e1]
    have HB := Lib.hid (n_bag_no w bn sv h.c0 a b hh)
    have FIN := Lib.hid (Nx.calm h (Below.refl _ _))
    clear hh e1 h
    go_enter Try.func26, Try.ntmps26
    go_wp2_with fail
    refine HB.out.mono ?_
    rintro e w1 ⟨rfl, hw⟩
    subst hw
    go_wp2_with fail
    go_ret
    exact ⟨rfl, FIN.out⟩
  | true =>
    obtain ⟨i, j, rfl, rfl, hk, h1⟩ := hasL_yes hh
    obtain ⟨B, V, hN⟩ := h
    have hb := hN.bag i j hk
    have HB := Lib.hid (n_bag_yes w bn sv L hN i j hk h1)
    by_cases hf : (L i j).length < 64
    · have e1 : putN sv L ((i : Int) - 1) ((j : Int) - 1) s = (upd L i j (L i j ++ [s]), 0) := by unfold putN; rw [hh, ix_nat, ix_nat, if_pos rfl, if_pos hf]
      rw [e1]
      have HP := Lib.hid (put_room (B i j) 64 (V i j) (L i j) w hb hf s)
      have HN := Lib.hid hN
      have HK := Lib.hid hk
      clear hh e1 hb hN hf hk
      go_enter Try.func26, Try.ntmps26
      go_wp2_with fail
      refine HB.out.mono ?_
      rintro e w1 ⟨rfl, hw⟩
      subst hw
      go_wp2_with fail
      refine HP.out.mono ?_
      rintro e w2 ⟨rfl, v', hb2, ho2, hn2⟩
      have FIN := Lib.hid (Nx.step HN.out HK.out hb2 ho2 (fun k hk => by simpa using hk) hn2)
      clear hb2 ho2 hn2
      go_wp2_with fail
      go_ret
      exact ⟨rfl, FIN.out⟩
    · have e1 : putN sv L ((i : Int) - 1) ((j : Int) - 1) s = (L, 6) := by unfold putN; rw [hh, ix_nat, ix_nat, if_pos rfl, if_neg hf]
      rw [e1]
      have HP := Lib.hid (put_full (B i j) 64 (V i j) (L i j) w hb (by have := hb.le; omega) s)
      have FINh : Hid (∀ m, Nx P w (w.drewN m) bn sv L) := fun m => Nx.calm ⟨B, V, hN⟩ (below_drewN (Below.refl _ _) m)
      clear hh e1 hb hN hf hk
      go_enter Try.func26, Try.ntmps26
      go_wp2_with fail
      refine HB.out.mono ?_
      rintro e w1 ⟨rfl, hw⟩
      subst hw
      go_wp2_with fail
      refine HP.out.mono ?_
      rintro e w2 ⟨rfl, m, rfl⟩
      go_wp2_with fail
      go_ret
      exact ⟨rfl, FINh.out m⟩
theorem n_put_nil (a b : Int) (s : ByteArray) :
    Calls Try.prog 26 #[.pointer none, .int .i64 a, .int .i64 b, .string s] w fun e w' => e = .returned (.int .i64 7) ∧ w = w' := by
  have HB := Lib.hid (n_bag_nil w a b)
  go_enter Try.func26, Try.ntmps26
  go_wp2_with fail
  refine HB.out.mono ?_
  rintro e w1 ⟨rfl, hw⟩
  subst hw
  go_wp2_with fail
  go_ret
  exact ⟨rfl, rfl⟩
theorem n_len (h : Nt P w bn sv L) (a b : Int) :
    Calls Try.prog 33 #[.pointer (some ⟨bn, 0, none⟩), .int .i64 a, .int .i64 b] w fun e w' => e = .returned (.int .i64 (lenN sv L a b : Int)) ∧ w = w' := by
  cases hh : hasL sv a b with
  | false =>
    have e1 : lenN sv L a b = 0 := by unfold lenN; rw [hh]; rfl
    rw [e1]
    have HB := Lib.hid (n_bag_no w bn sv h.c0 a b hh)
    have HL := Lib.hid (len_nil w)
    clear hh e1 h
    go_enter Try.func33, Try.ntmps33
    go_wp2_with fail
    refine HB.out.mono ?_
    rintro e w1 ⟨rfl, hw⟩
    subst hw
    go_wp2_with fail
    refine HL.out.mono ?_
    rintro e w1 ⟨rfl, hw⟩
    subst hw
    go_wp2_with fail
    go_ret
    exact ⟨rfl, rfl⟩
  | true =>
    obtain ⟨i, j, rfl, rfl, hk, h1⟩ := hasL_yes hh
    obtain ⟨B, V, hN⟩ := h
    have e1 : lenN sv L ((i : Int) - 1) ((j : Int) - 1) = (L i j).length := by unfold lenN; rw [hh, ix_nat, ix_nat]; rfl
    rw [e1]
    have HB := Lib.hid (n_bag_yes w bn sv L hN i j hk h1)
    have HL := Lib.hid (len_ok (B i j) 64 (V i j) (L i j) w (hN.bag i j hk))
    clear hh e1 hN hk
    go_enter Try.func33, Try.ntmps33
    go_wp2_with fail
    refine HB.out.mono ?_
    rintro e w1 ⟨rfl, hw⟩
    subst hw
    go_wp2_with fail
    refine HL.out.mono ?_
    rintro e w1 ⟨rfl, hw⟩
    subst hw
    go_wp2_with fail
    go_ret
    exact ⟨rfl, rfl⟩
theorem n_len_nil (a b : Int) :
    Calls Try.prog 33 #[.pointer none, .int .i64 a, .int .i64 b] w fun e w' => e = .returned (.int .i64 0) ∧ w = w' := by
  have HB := Lib.hid (n_bag_nil w a b)
  have HL := Lib.hid (len_nil w)
  go_enter Try.func33, Try.ntmps33
  go_wp2_with fail
  refine HB.out.mono ?_
  rintro e w1 ⟨rfl, hw⟩
  subst hw
  go_wp2_with fail
  refine HL.out.mono ?_
  rintro e w1 ⟨rfl, hw⟩
  subst hw
  go_wp2_with fail
  go_ret
  exact ⟨rfl, rfl⟩
end
end Go.Proofs.Ytlhlnaengedfgaa
