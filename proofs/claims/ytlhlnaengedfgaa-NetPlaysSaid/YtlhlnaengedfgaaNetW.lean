/- The document's net: Links. Condition: it is well made (DocIs). -/
import Derived.Test.YtlhlnaengedfgaaNetV
import Derived.Test.YtlhlnaengedfgaaNetI
namespace Go.Proofs.Ytlhlnaengedfgaa
open Go.RowKit Go.Lk

theorem busy_step (sv : Nat) (L : Nat → Nat → List ByteArray) (i j : Nat) :
    busy sv L (upTo sv i (j + 1)) = if 0 < lenX sv L (i, j) then busy sv L (upTo sv i j) ++ [(i, j)] else busy sv L (upTo sv i j) := by
  by_cases hij : i = j
  · subst hij
    rw [upTo_same, lenX_diag, if_neg (by omega)]
  · rw [upTo_other sv hij]
    split
    · rename_i h; exact busy_yes _ h
    · rename_i h; exact busy_no _ h

section
variable {Q : Nat → Prop} (w : World) (bx gr sv : Nat) (U : Nat → Nat → Value) (L : Nat → Nat → List ByteArray)
set_option maxHeartbeats 4000000 in
theorem d_links (h : DocIs Q w bx gr sv U L) :
    Calls Try.prog 46 #[.pointer (some ⟨bx, 0, none⟩)] w fun e w' => ∃ u, e = .returned u ∧ w'.ownsRow w.heap.size 76 2 u (busy sv L (allL sv)).length (lc (busy sv L (allL sv))) ∧ Below w.heap.size w w' := by
  obtain ⟨i0, hi0, hz0, hz1, hz2⟩ := info_parts Try.info76
  have HD := Lib.hid h
  have hs := h.small
  clear h
  go_enter Try.func46, Try.ntmps46
  go_wp2_with fail
  go_loopw [3, 4] (fun u v wr => ∃ i : Nat, i ≤ sv + 1 ∧ v = .int .i64 ((i : Int) - 1) ∧ wr.ownsRow w.heap.size 76 2 u (busy sv L (upTo sv i 0)).length (lc (busy sv L (upTo sv i 0))) ∧ Below w.heap.size w wr)
    (fun _ v _ => sv + 1 - (intOf v + 1).toNat)
  case atStart => exact ⟨0, by omega, rfl, World.ownsRow_nil _ _ _ _, Below.refl _ _⟩
  case round =>
    obtain ⟨i, hi, rfl, hR, hB⟩ := hrel
    have HR := Lib.hid hR
    have HB := Lib.hid hB
    obtain ⟨A, c, rfl⟩ := own_slice hR
    clear hR hB
    have c0 := (HD.out.below HB.out).c0
    by_cases hlt : i < sv + 1
    · have hil : (i : Int) - 1 < (sv : Int) := by omega
      go_wp2_with fail
      go_loopw [3, 5] (fun u v wr => ∃ j : Nat, j ≤ sv + 1 ∧ v = .int .i64 ((j : Int) - 1) ∧ wr.ownsRow w.heap.size 76 2 u (busy sv L (upTo sv i j)).length (lc (busy sv L (upTo sv i j))) ∧ Below w.heap.size w wr)
        (fun _ v _ => sv + 1 - (intOf v + 1).toNat)
      case atStart => exact ⟨0, by omega, rfl, HR.out, HB.out⟩
      case round =>
        obtain ⟨j, hj, rfl, hR, hB⟩ := hrel
        have HR := Lib.hid hR
        have HB := Lib.hid hB
        obtain ⟨A, c, rfl⟩ := own_slice hR
        clear hR hB
        have c0 := (HD.out.below HB.out).c0
        by_cases hlt2 : j < sv + 1
        · have hjl : (j : Int) - 1 < (sv : Int) := by omega
          have HO := Lib.hid (d_of _ bx gr sv U L (HD.out.below HB.out) ((i : Int) - 1) ((j : Int) - 1))
          have hbl : (busy sv L (upTo sv i j)).length ≤ 1000 := by
            have h1 := busy_le sv L (upTo sv i j)
            have h2 := upTo_length sv i j
            have h3 : i * (sv + 1) ≤ 8 * 9 := Nat.mul_le_mul (by omega) (by omega)
            omega
          have hst := busy_step sv L i j
          rw [lenX_of] at hst
          generalize ofN sv L ((i : Int) - 1) ((j : Int) - 1) = l0 at *
          obtain ⟨n0, hn0⟩ : ∃ n0, l0.length = n0 := ⟨_, rfl⟩
          rw [hn0] at hst
          have HN0 := Lib.hid hn0
          clear hn0
          by_cases hp : 0 < n0
          · have hd : decide ((0 : Int) < (n0 : Int)) = true := by simp; omega
            rw [if_pos hp] at hst
            have HST := Lib.hid hst
            clear hst
            go_wp2_with fail
            refine HO.out.mono ?_
            rintro e w1 ⟨u1, ⟨rfl, hu⟩, m1, rfl⟩
            obtain ⟨A1, c1, rfl, _, _, _⟩ := hu.row.form
            rw [HN0.out]
            clear hu
            have hone : ∀ v', v' ∈ [Value.int .i64 ((i : Int) - 1), Value.int .i64 ((j : Int) - 1)] → v'.oneCell' = true := by intro v' hv; simp at hv; rcases hv with rfl | rfl <;> rfl
            obtain ⟨v2, w2, hr2, hown2, hg2, hf2, hat2⟩ := run_append_own_at (P := Try.prog) ((wr.drewN m1).alloc (.cells #[.int .i64 ((i : Int) - 1), .int .i64 ((j : Int) - 1)] 76)) w.heap.size 72 72 76 i0 (.agg #[.int .i64 0, .int .i64 0]) 2 16 Try.underlying72 hi0 hz0 hz1 hz2 rfl (by omega) _ _ _ (((own_drewN HR.out m1)).alloc _) ⟨wr.heap.size, 0, none⟩ 1 1 [.int .i64 ((i : Int) - 1), .int .i64 ((j : Int) - 1)] rfl
              (fun q u hq => by obtain ⟨a, ha, _, hc⟩ := sl_row (n := 2) (xs := [.int .i64 ((i : Int) - 1), .int .i64 ((j : Int) - 1)]) (heap_alloc_new (wr.drewN m1) (.cells #[.int .i64 ((i : Int) - 1), .int .i64 ((j : Int) - 1)] 76)) rfl q u hq; injection ha with ha; subst ha; exact hc)
              hone (by unfold maxLen; omega) (by omega) (by have := HB.out.size; simp; omega)
            obtain ⟨A2, c2, rfl⟩ := own_slice hown2
            have HB1 : Hid (Below w.heap.size w ((wr.drewN m1).alloc (.cells #[.int .i64 ((i : Int) - 1), .int .i64 ((j : Int) - 1)] 76))) := (below_drewN HB.out m1).alloc HB.out.size _
            have HB2 : Hid (Below w.heap.size w w2) := HB1.out.grown hg2 HB1.out.size (fun k hk => (HR.out.lt k hk).1)
            have HR2 : Hid (w2.ownsRow w.heap.size 76 2 (.slice A2 ((busy sv L (upTo sv i j)).length + 1) c2) (busy sv L (upTo sv i (j + 1))).length (lc (busy sv L (upTo sv i (j + 1))))) := by
              rw [HST.out, List.length_append, lc_snoc]; exact hown2
            clear hown2 hg2 hf2 hat2 hone
            go_wp2_with (at_builtin; refine appendBy rfl _ _ 72 rfl _ _ rfl rfl _ _ hr2 ?_)
            exact ⟨⟨j + 1, by omega, by congr 1; omega, HR2.out, HB2.out⟩, by simp [intOf]; omega⟩
          · have hd : decide ((0 : Int) < (n0 : Int)) = false := by simp; omega
            rw [if_neg hp] at hst
            have HST := Lib.hid hst
            clear hst
            go_wp2_with fail
            refine HO.out.mono ?_
            rintro e w1 ⟨u1, ⟨rfl, hu⟩, m1, rfl⟩
            obtain ⟨A1, c1, rfl, _, _, _⟩ := hu.row.form
            rw [HN0.out]
            clear hu
            go_wp2_with fail
            exact ⟨⟨j + 1, by omega, by congr 1; omega, by rw [HST.out]; exact own_drewN HR.out m1, below_drewN HB.out m1⟩, by simp [intOf]; omega⟩
        · have : j = sv + 1 := by omega
          subst this
          have hnl : ¬ (((sv + 1 : Nat) : Int) - 1 < (sv : Int)) := by omega
          go_wp2_with fail
          exact ⟨⟨i + 1, by omega, by congr 1; omega, by rw [upTo_next]; exact HR.out, HB.out⟩, by simp [intOf]; omega⟩
    · have : i = sv + 1 := by omega
      subst this
      have hnl : ¬ (((sv + 1 : Nat) : Int) - 1 < (sv : Int)) := by omega
      go_wp2_with fail
      go_ret
      exact ⟨_, rfl, by rw [← upTo_end]; exact HR.out, HB.out⟩
end
end Go.Proofs.Ytlhlnaengedfgaa
