/- The walk of the law of places that nobody made. No condition. -/
import Derived.Test.YtnlpjgogflcmoaaSlotG
namespace Go.Proofs.Ytnlpjgogflcmoaa
open Go.RowKit Go.Lk

structure NB (wo w : World) (bx bs : Nat) (x : It) : Prop where
  hb : Below wo.heap.size wo w
  hx : w.heap[bx]? = some (.cells x.arr 29 (0, 0))
  hs : SlotIs w bs 0 (List.replicate 16 none)
  lx : wo.heap.size ≤ bx
  ls : wo.heap.size ≤ bs
  ne : bx ≠ bs
theorem NB.below {wo w w' : World} {bx bs : Nat} {x : It} (h : NB wo w bx bs x) (hb : Below w.heap.size w w') : NB wo w' bx bs x :=
  ⟨h.hb.trans (hb.mono h.hb.size), (hb.block _ (heap_lt h.hx)).trans h.hx, h.hs.below hb, h.lx, h.ls, h.ne⟩
theorem NB.al {wo w : World} {bx bs : Nat} {x : It} (h : NB wo w bx bs x) (o : Obj) : NB wo (w.alloc o) bx bs x := h.below ((Below.refl _ _).alloc (Nat.le_refl _) _)
theorem NB.only {wo w w' : World} {bx bs : Nat} {x : It} (h : NB wo w bx bs x) (ho : OnlyIn [bs] w w') (hs : SlotIs w' bs 0 (List.replicate 16 none)) : NB wo w' bx bs x :=
  ⟨h.hb.trans (ho.to_below h.hb.size (by simp; exact h.ls)), (ho.block _ (heap_lt h.hx) (by simp; exact h.ne)).trans h.hx, hs, h.lx, h.ls, h.ne⟩
theorem NB.start (w : World) (x : It) : NB w ((w.alloc (.cells x.arr 29)).alloc (.cells #[.int .i64 0, .pointer none, .pointer none, .pointer none, .pointer none, .pointer none, .pointer none, .pointer none, .pointer none, .pointer none, .pointer none, .pointer none, .pointer none, .pointer none, .pointer none, .pointer none, .pointer none] 60)) w.heap.size (w.heap.size + 1) x := by
  have h1 : (w.alloc (.cells x.arr 29)).heap.size = w.heap.size + 1 := by simp
  refine ⟨((Below.refl _ w).alloc (Nat.le_refl _) _).alloc (by simp) _, (Below.heap_alloc _ _ _ (by simp)).trans (heap_alloc_new w _), ⟨?_, by simp, fun k b x hk => (rep_some hk).elim, by omega, fun k b x hk => (rep_some hk).elim⟩, Nat.le_refl _, by omega, by omega⟩
  rw [← h1, heap_alloc_new]
  rfl

set_option maxHeartbeats 4000000 in
theorem nobody_ok (x : It) (now : Int) (w : World) : Calls Try.prog 5 #[.agg x.arr, .int .i64 now] w fun e w' => e = .returned (.bool true) ∧ Below w.heap.size w w' := by
  have N0 := Lib.hid (NB.start w x)
  unfold It.arr at *
  go_enter Try.func5, Try.ntmps5
  go_wp2_with fail
  generalize (w.alloc (.cells #[.int .i64 x.id, .int .i64 x.lv, .int .i64 x.fr, .int .i64 x.dl, .int .i64 x.bu, .int .i64 x.si, .int .i64 x.sq] 29)).alloc (.cells #[.int .i64 0, .pointer none, .pointer none, .pointer none, .pointer none, .pointer none, .pointer none, .pointer none, .pointer none, .pointer none, .pointer none, .pointer none, .pointer none, .pointer none, .pointer none, .pointer none, .pointer none] 60) = w0 at *
  generalize w.heap.size + 1 = bs at *
  generalize hbx : w.heap.size = bx at *
  refine (clear_nil _).mono ?_
  rintro e w1 ⟨rfl, hw⟩
  subst hw
  go_wp2_with fail
  refine (clear_ok bs 0 _ _ N0.out.hs).mono ?_
  rintro e w1 ⟨rfl, hS1, hO1⟩
  have N1 := Lib.hid (N0.out.only hO1 hS1)
  clear hS1 hO1 N0
  obtain ⟨x0, x1, x2, x3, x4, x5, x6⟩ := It.cell x N1.out.hx
  go_wp2_with fail
  refine (put_nil _ x).mono ?_
  rintro e w2 ⟨rfl, hB2⟩
  have N2 := Lib.hid (N1.out.below hB2)
  clear x0 x1 x2 x3 x4 x5 x6 hB2 N1
  obtain ⟨x0, x1, x2, x3, x4, x5, x6⟩ := It.cell x N2.out.hx
  go_wp2_with fail
  refine (put_full bs 0 _ _ N2.out.hs x (fun k b z h => (rep_some h).elim) (fun k h => by omega)).mono ?_
  rintro e w3 ⟨rfl, hB3⟩
  have N3 := Lib.hid (N2.out.below hB3)
  clear x0 x1 x2 x3 x4 x5 x6 hB3 N2
  obtain ⟨x0, _⟩ := It.cell x N3.out.hx
  go_wp2_with fail
  refine (take_nil _ x.id).mono ?_
  rintro e w4 ⟨rfl, hB4⟩
  have N4 := Lib.hid ((N3.out.below hB4).al (.cells It.zero.arr 29))
  clear x0 hB4 N3
  unfold It.arr It.zero at *
  go_wp2_with fail
  refine (at_out bs 0 _ _ N4.out.hs now (by omega)).mono ?_
  rintro e w5 ⟨rfl, hB5⟩
  have N5 := Lib.hid ((N4.out.below hB5).al (.cells It.zero.arr 29))
  clear hB5 N4
  obtain ⟨x0, _⟩ := It.cell x N5.out.hx
  unfold It.arr It.zero at *
  go_wp2_with fail
  generalize w5.alloc (.cells #[.int .i64 0, .int .i64 0, .int .i64 0, .int .i64 0, .int .i64 0, .int .i64 0, .int .i64 0] 29) = w6 at *
  refine (place_nil _ x.id).mono ?_
  rintro e w7 ⟨rfl, hw⟩
  subst hw
  go_wp2_with fail
  refine (free_nil _).mono ?_
  rintro e w7 ⟨rfl, hw⟩
  subst hw
  go_wp2_with fail
  refine (free_ok bs 0 _ _ N5.out.hs).mono ?_
  rintro e w7 ⟨rfl, hB7⟩
  have N7 := Lib.hid (N5.out.below hB7)
  clear hB7 x0 N5
  rw [show (its (List.replicate 16 none)).length = 0 from rfl]
  go_wp2_with fail
  refine (all_nil _).mono ?_
  rintro e w8 ⟨rfl, hw⟩
  subst hw
  go_wp2_with fail
  refine (all_ok bs 0 _ _ N7.out.hs).mono ?_
  rintro e w8 ⟨u8, rfl, hown8, hB8⟩
  obtain ⟨A8, c8, rfl⟩ := own_slice hown8
  have N8 := Lib.hid (N7.out.below hB8)
  clear hB8 N7 hown8
  rw [show (its (List.replicate 16 none)).length = 0 from rfl]
  go_wp2_with fail
  refine (late_nil _ now).mono ?_
  rintro e w9 ⟨rfl, hw⟩
  subst hw
  go_wp2_with fail
  refine (late_ok bs 0 _ _ N8.out.hs (fun k k' b b' x x' h => (rep_some h).elim) now).mono ?_
  rintro e w9 ⟨u9, rfl, hown9, hS9, hO9⟩
  obtain ⟨A9, c9, rfl⟩ := own_slice hown9
  have HB9 := Lib.hid (N8.out.hb.trans (hO9.to_below N8.out.hb.size (by simp; exact N8.out.ls)))
  clear hO9 N8 hown9 hS9
  rw [show (due now (its (List.replicate 16 none))).length = 0 from rfl]
  go_wp2_with fail
  refine (awake31 _).mono ?_
  rintro e w10 ⟨rfl, hB10⟩
  have HB10 := Lib.hid (HB9.out.trans (hB10.mono HB9.out.size))
  clear hB10 HB9
  go_wp2_with fail
  go_ret
  subst hbx
  exact ⟨rfl, HB10.out⟩
end Go.Proofs.Ytnlpjgogflcmoaa
