/- The drawn region of SlotPlays, taken out of the function's code. No condition. -/
import Derived.Test.YtnlpjgogflcmoaaSlotR
namespace Go.Proofs.Ytnlpjgogflcmoaa
open Go.RowKit Go.Lk
/-- The region of a number. -/
def regionOf (n : Nat) : Code → Option Code
  | .region id ops b => if id == n then some (.region id ops b) else none
  | .seq a b => match regionOf n a with
    | some c => some c
    | none => regionOf n b
  | .cond _ a b => match regionOf n a with
    | some c => some c
    | none => regionOf n b
  | .block _ c => regionOf n c
  | .loop c => regionOf n c
  | .scope c => regionOf n c
  | _ => none
end Go.Proofs.Ytnlpjgogflcmoaa
