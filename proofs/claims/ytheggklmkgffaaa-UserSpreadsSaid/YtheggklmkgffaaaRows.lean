/-
  No cell of these rows narrows 'for every input' (looked for: loops, veiled, ifaces, maps, wideKeys, modest, calm, conditions, laid).
  DERIVED. THE GIVEN ROWS OF THIS SEAT. 6 by the template 'for every input the law returns true; each argument reads behind the call as it read before'; 0 by the template 'total and deterministic' (their statements: YtheggklmkgffaaaTotals.lean).
  GIVEN WITH THE SEED: the statements are not yours to turn. If you find one false, say at which input.
  Laid BY PROGRAM, IN A SANDBOX (cutbox-rows.mjs): the forced cells as the released guide's own fill.sh prints them over the translation cc3c2814f89e0493… (all of the seat's roots in one cut). By AI agents, Wed Nov 11 2026. No macro, syntax, notation, axiom, sorry.
-/
import Derived.Test.YtheggklmkgffaaaChecked
import GoSem.Claim
import GoSem.ClaimJoined
import GoSem.ClaimMapViews
import Derived.JoinedTies
import Derived.KernelRfl
namespace Go.Proofs.Ytheggklmkgffaaa
/- THE CELL 'sum', in the pinned program and in every row, IS THE sha256 OF THE DUMP (.gsa) THAT YtheggklmkgffaaaProg.lean LOADS. Nothing in Lean hashes anything: it is a label: what it is worth is what the hold of that sum in a sandbox is worth. -/
noncomputable def Try.pinned : Pinned := { name := "ytheggklmkgffaaa", sum := "cc3c2814f89e0493f19bfa88bb78e8c1331f6215224e9e8e279407bb2e93a652", checked := Try.checked }
namespace Rows
def none {H : Type} : Left H := { results := [], args := [] }

/-- 'lockkeeperlaw04.MixPairs': WHATEVER THE INPUT: true; the input reads as it did. -/
def mixPairsSpec : ChangeSpec := { name := "mixPairs", fn := fun _ => fun
  | [d1, d2, d3] => { results := [.lit (.bool true)], args := [d1, d2, d3] }
  | _ => none }
def mixPairsRow : OpenClaim := { program := "ytheggklmkgffaaa", sum := "cc3c2814f89e0493f19bfa88bb78e8c1331f6215224e9e8e279407bb2e93a652", func := "lockkeeper/lockkeeperlaw04.MixPairs", spec := "mixPairs", unfollowed := true, recurses := true, apart := false }
def MixPairsSaid : Prop := mixPairsRow.holds Try.pinned (OpenSpec.ofChange mixPairsSpec)

/-- ITS FALSE NEIGHBOUR: 'it returns false'. Refute it at one input. -/
def mixPairsWrong : ChangeSpec := { name := "mixPairs", fn := fun _ => fun
  | [d1, d2, d3] => { results := [.lit (.bool false)], args := [d1, d2, d3] }
  | _ => none }
def MixPairsWrongFalsely : Prop := mixPairsRow.holds Try.pinned (OpenSpec.ofChange mixPairsWrong)

/-- 'lockkeeperlaw04.MixClasses': WHATEVER THE INPUT: true; the input reads as it did. -/
def mixClassesSpec : ChangeSpec := { name := "mixClasses", fn := fun _ => fun
  | [d1, d2, d3] => { results := [.lit (.bool true)], args := [d1, d2, d3] }
  | _ => none }
def mixClassesRow : OpenClaim := { program := "ytheggklmkgffaaa", sum := "cc3c2814f89e0493f19bfa88bb78e8c1331f6215224e9e8e279407bb2e93a652", func := "lockkeeper/lockkeeperlaw04.MixClasses", spec := "mixClasses", unfollowed := true, recurses := true, apart := false }
def MixClassesSaid : Prop := mixClassesRow.holds Try.pinned (OpenSpec.ofChange mixClassesSpec)

/-- ITS FALSE NEIGHBOUR: 'it returns false'. Refute it at one input. -/
def mixClassesWrong : ChangeSpec := { name := "mixClasses", fn := fun _ => fun
  | [d1, d2, d3] => { results := [.lit (.bool false)], args := [d1, d2, d3] }
  | _ => none }
def MixClassesWrongFalsely : Prop := mixClassesRow.holds Try.pinned (OpenSpec.ofChange mixClassesWrong)

/-- 'lockkeeperlaw04.MixBack': WHATEVER THE INPUT: true; the input reads as it did. -/
def mixBackSpec : ChangeSpec := { name := "mixBack", fn := fun _ => fun
  | [d1, d2, d3] => { results := [.lit (.bool true)], args := [d1, d2, d3] }
  | _ => none }
def mixBackRow : OpenClaim := { program := "ytheggklmkgffaaa", sum := "cc3c2814f89e0493f19bfa88bb78e8c1331f6215224e9e8e279407bb2e93a652", func := "lockkeeper/lockkeeperlaw04.MixBack", spec := "mixBack", unfollowed := true, recurses := true, apart := false }
def MixBackSaid : Prop := mixBackRow.holds Try.pinned (OpenSpec.ofChange mixBackSpec)

/-- ITS FALSE NEIGHBOUR: 'it returns false'. Refute it at one input. -/
def mixBackWrong : ChangeSpec := { name := "mixBack", fn := fun _ => fun
  | [d1, d2, d3] => { results := [.lit (.bool false)], args := [d1, d2, d3] }
  | _ => none }
def MixBackWrongFalsely : Prop := mixBackRow.holds Try.pinned (OpenSpec.ofChange mixBackWrong)

/-- 'lockkeeperlaw09.UserClasses': WHATEVER THE INPUT: true; the input reads as it did. -/
def userClassesSpec : ChangeSpec := { name := "userClasses", fn := fun _ => fun
  | [d1, d2, d3] => { results := [.lit (.bool true)], args := [d1, d2, d3] }
  | _ => none }
def userClassesRow : OpenClaim := { program := "ytheggklmkgffaaa", sum := "cc3c2814f89e0493f19bfa88bb78e8c1331f6215224e9e8e279407bb2e93a652", func := "lockkeeper/lockkeeperlaw09.UserClasses", spec := "userClasses", unfollowed := true, recurses := true, apart := false }
def UserClassesSaid : Prop := userClassesRow.holds Try.pinned (OpenSpec.ofChange userClassesSpec)

/-- ITS FALSE NEIGHBOUR: 'it returns false'. Refute it at one input. -/
def userClassesWrong : ChangeSpec := { name := "userClasses", fn := fun _ => fun
  | [d1, d2, d3] => { results := [.lit (.bool false)], args := [d1, d2, d3] }
  | _ => none }
def UserClassesWrongFalsely : Prop := userClassesRow.holds Try.pinned (OpenSpec.ofChange userClassesWrong)

/-- 'lockkeeperlaw09.UserStays': WHATEVER THE INPUT: true; the input reads as it did. -/
def userStaysSpec : ChangeSpec := { name := "userStays", fn := fun _ => fun
  | [d1, d2, d3] => { results := [.lit (.bool true)], args := [d1, d2, d3] }
  | _ => none }
def userStaysRow : OpenClaim := { program := "ytheggklmkgffaaa", sum := "cc3c2814f89e0493f19bfa88bb78e8c1331f6215224e9e8e279407bb2e93a652", func := "lockkeeper/lockkeeperlaw09.UserStays", spec := "userStays", unfollowed := true, recurses := true, apart := false }
def UserStaysSaid : Prop := userStaysRow.holds Try.pinned (OpenSpec.ofChange userStaysSpec)

/-- ITS FALSE NEIGHBOUR: 'it returns false'. Refute it at one input. -/
def userStaysWrong : ChangeSpec := { name := "userStays", fn := fun _ => fun
  | [d1, d2, d3] => { results := [.lit (.bool false)], args := [d1, d2, d3] }
  | _ => none }
def UserStaysWrongFalsely : Prop := userStaysRow.holds Try.pinned (OpenSpec.ofChange userStaysWrong)

/-- 'lockkeeperlaw09.UserSpreads': WHATEVER THE INPUT: true; the input reads as it did. -/
def userSpreadsSpec : ChangeSpec := { name := "userSpreads", fn := fun _ => fun
  | [d1, d2, d3] => { results := [.lit (.bool true)], args := [d1, d2, d3] }
  | _ => none }
def userSpreadsRow : OpenClaim := { program := "ytheggklmkgffaaa", sum := "cc3c2814f89e0493f19bfa88bb78e8c1331f6215224e9e8e279407bb2e93a652", func := "lockkeeper/lockkeeperlaw09.UserSpreads", spec := "userSpreads", unfollowed := true, recurses := true, apart := false }
def UserSpreadsSaid : Prop := userSpreadsRow.holds Try.pinned (OpenSpec.ofChange userSpreadsSpec)

/-- ITS FALSE NEIGHBOUR: 'it returns false'. Refute it at one input. -/
def userSpreadsWrong : ChangeSpec := { name := "userSpreads", fn := fun _ => fun
  | [d1, d2, d3] => { results := [.lit (.bool false)], args := [d1, d2, d3] }
  | _ => none }
def UserSpreadsWrongFalsely : Prop := userSpreadsRow.holds Try.pinned (OpenSpec.ofChange userSpreadsWrong)

/- THE SECOND FORM. 'bulk': how many values and letters a reading holds, each counted each time it is reached (what is shared counts as often as it is met; a slice's spare places count too). A statement '..UptoSaid' is the law's where the arguments, and the package variables that the reading takes, are together of bulk at most 1048576: NARROWER than '..Said'. Prove '..Said' where nothing that the law and all that it calls make is longer than what came in: it says more and counts as full. Else prove '..UptoSaid'. A law counts once. -/
mutual
def uptoBulk {H : Type} : DataW H → Nat
  | .lit (.string bytes) => bytes.length + 1
  | .lit _ => 1
  | .nil => 1
  | .ptr d => uptoBulk d + 1
  | .slice elems spare => uptoBulkAll elems + uptoBulkAll spare + 1
  | .agg parts => uptoBulkAll parts + 1
  | .iface _ d => uptoBulk d + 1
  | .map entries => uptoBulkEntries entries + 1
  | .held _ => 1
def uptoBulkAll {H : Type} : List (DataW H) → Nat
  | [] => 0
  | d :: r => uptoBulk d + uptoBulkAll r
def uptoBulkEntries {H : Type} : List (Lit × DataW H) → Nat
  | [] => 0
  | x :: r => uptoBulkEntry x + uptoBulkEntries r
def uptoBulkEntry {H : Type} : Lit × DataW H → Nat
  | (.string bytes, d) => bytes.length + uptoBulk d + 1
  | (_, d) => uptoBulk d + 1
 end
def uptoSmall : (H : Type) → List (DataW H) → Bool := fun _ ds => decide (uptoBulkAll ds ≤ 1048576)
def OpenSpec.upto (s : _root_.Go.ChangeSpec) : _root_.Go.OpenSpec := { _root_.Go.OpenSpec.ofChange s with cond := some uptoSmall }

/-- 'lockkeeperlaw04.MixPairs', WHERE WHAT IT READS IS OF BULK AT MOST 1048576: true; the input reads as it did. -/
def mixPairsUptoRow : OpenClaim := { program := "ytheggklmkgffaaa", sum := "cc3c2814f89e0493f19bfa88bb78e8c1331f6215224e9e8e279407bb2e93a652", func := "lockkeeper/lockkeeperlaw04.MixPairs", spec := "mixPairs", unfollowed := true, recurses := true, apart := false, narrowed := true }
def MixPairsUptoSaid : Prop := mixPairsUptoRow.holds Try.pinned (OpenSpec.upto mixPairsSpec)

/-- 'lockkeeperlaw04.MixClasses', WHERE WHAT IT READS IS OF BULK AT MOST 1048576: true; the input reads as it did. -/
def mixClassesUptoRow : OpenClaim := { program := "ytheggklmkgffaaa", sum := "cc3c2814f89e0493f19bfa88bb78e8c1331f6215224e9e8e279407bb2e93a652", func := "lockkeeper/lockkeeperlaw04.MixClasses", spec := "mixClasses", unfollowed := true, recurses := true, apart := false, narrowed := true }
def MixClassesUptoSaid : Prop := mixClassesUptoRow.holds Try.pinned (OpenSpec.upto mixClassesSpec)

/-- 'lockkeeperlaw04.MixBack', WHERE WHAT IT READS IS OF BULK AT MOST 1048576: true; the input reads as it did. -/
def mixBackUptoRow : OpenClaim := { program := "ytheggklmkgffaaa", sum := "cc3c2814f89e0493f19bfa88bb78e8c1331f6215224e9e8e279407bb2e93a652", func := "lockkeeper/lockkeeperlaw04.MixBack", spec := "mixBack", unfollowed := true, recurses := true, apart := false, narrowed := true }
def MixBackUptoSaid : Prop := mixBackUptoRow.holds Try.pinned (OpenSpec.upto mixBackSpec)

/-- 'lockkeeperlaw09.UserClasses', WHERE WHAT IT READS IS OF BULK AT MOST 1048576: true; the input reads as it did. -/
def userClassesUptoRow : OpenClaim := { program := "ytheggklmkgffaaa", sum := "cc3c2814f89e0493f19bfa88bb78e8c1331f6215224e9e8e279407bb2e93a652", func := "lockkeeper/lockkeeperlaw09.UserClasses", spec := "userClasses", unfollowed := true, recurses := true, apart := false, narrowed := true }
def UserClassesUptoSaid : Prop := userClassesUptoRow.holds Try.pinned (OpenSpec.upto userClassesSpec)

/-- 'lockkeeperlaw09.UserStays', WHERE WHAT IT READS IS OF BULK AT MOST 1048576: true; the input reads as it did. -/
def userStaysUptoRow : OpenClaim := { program := "ytheggklmkgffaaa", sum := "cc3c2814f89e0493f19bfa88bb78e8c1331f6215224e9e8e279407bb2e93a652", func := "lockkeeper/lockkeeperlaw09.UserStays", spec := "userStays", unfollowed := true, recurses := true, apart := false, narrowed := true }
def UserStaysUptoSaid : Prop := userStaysUptoRow.holds Try.pinned (OpenSpec.upto userStaysSpec)

/-- 'lockkeeperlaw09.UserSpreads', WHERE WHAT IT READS IS OF BULK AT MOST 1048576: true; the input reads as it did. -/
def userSpreadsUptoRow : OpenClaim := { program := "ytheggklmkgffaaa", sum := "cc3c2814f89e0493f19bfa88bb78e8c1331f6215224e9e8e279407bb2e93a652", func := "lockkeeper/lockkeeperlaw09.UserSpreads", spec := "userSpreads", unfollowed := true, recurses := true, apart := false, narrowed := true }
def UserSpreadsUptoSaid : Prop := userSpreadsUptoRow.holds Try.pinned (OpenSpec.upto userSpreadsSpec)

end Rows
end Go.Proofs.Ytheggklmkgffaaa
