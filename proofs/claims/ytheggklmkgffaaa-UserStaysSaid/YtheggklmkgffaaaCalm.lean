/- A drawn region whose calls may make memory but turn nothing that was there: one walk in the order of the text. Over any program; no condition. -/
import Derived.Test.YtheggklmkgffaaaWords
import Derived.BigQuiet
namespace Go.Lk
open Go.RowKit

/-- All that was there at W0 is as it was. -/
def Calm (W0 w : World) : Prop := Below W0.heap.size W0 w
theorem Calm.below {W0 w : World} (h : Calm W0 w) : Below W0.heap.size W0 w := h
theorem Calm.cell {W0 w : World} (h : Calm W0 w) {p : Addr} {v : Value} (hv : W0.cell? p = some v) : w.cell? p = some v := (h.below.cell (World.block_lt_of_cell? W0 p hv)).trans hv
theorem Calm.sl {W0 w : World} {B : Nat} {A : Option Addr} {xs : List Value} (h : Calm W0 w) (hs : Sl W0 B A xs) : Sl w B A xs := fun k u hk =>
  let ⟨a, h1, h2, h3⟩ := hs k u hk; ⟨a, h1, h2, h.cell h3⟩
theorem Calm.call {W0 w : World} {P : Program} {f : FuncId} {args : Array Value} {v : Value} (h : Calm W0 w)
    (hc : Calls P f args w fun e w' => e = .returned v ∧ Below w.heap.size w w') : Calls P f args w fun e w' => e = .returned v ∧ Calm W0 w' :=
  hc.mono fun _ _ ⟨he, hb⟩ => ⟨he, h.below.trans (hb.mono h.below.size)⟩
theorem Calm.same {W0 w : World} {P : Program} {f : FuncId} {args : Array Value} {v : Value} (h : Calm W0 w)
    (hc : Calls P f args w fun e w' => e = .returned v ∧ w = w') : Calls P f args w fun e w' => e = .returned v ∧ Calm W0 w' :=
  hc.mono fun _ _ ⟨he, hb⟩ => ⟨he, hb ▸ h⟩
theorem Calm.draws {W0 w : World} {P : Program} {f : FuncId} {args : Array Value} {v : Value} (h : Calm W0 w)
    (hc : Calls P f args w fun e w' => e = .returned v ∧ ∃ n, w' = w.drewN n) : Calls P f args w fun e w' => e = .returned v ∧ Calm W0 w' :=
  hc.mono fun _ _ ⟨he, n, hb⟩ => ⟨he, by subst hb; exact below_drewN h.below n⟩

theorem calm_region {P : Program} {id : Nat} {Q : Exit → Act → World → Prop} {a : Act} {w : World} {l : List Oper} (hm : P.follows .mixedOrders = true) (hB : Region.lexB .any l.toArray = true)
    (h : wpQuiet P l.toArray (Calm w) (fun a' => ∀ w', Calm w w' → Q .normal a' w') l a) : (Code.region id l.toArray true).wp P Q a w :=
  wp_region_quiet (C := Calm w) hm hB (Below.refl w.heap.size w).drew (by simpa using h)
end Go.Lk
