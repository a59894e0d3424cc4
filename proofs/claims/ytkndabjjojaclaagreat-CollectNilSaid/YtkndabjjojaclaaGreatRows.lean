/-
  No cell of these rows narrows 'for every input' (looked for: loops, veiled, ifaces, maps, wideKeys, modest, calm, conditions, laid).
  DERIVED. THE GIVEN ROWS OF THIS SEAT. 4 by the template 'for every input the law returns true; each argument reads behind the call as it read before'; 0 by the template 'total and deterministic' (their statements: YtkndabjjojaclaaGreatTotals.lean).
  GIVEN WITH THE SEED: the statements are not yours to turn. If you find one false, say at which input.
  Laid BY PROGRAM, IN A SANDBOX (cutbox-rows.mjs): the forced cells as the released guide's own fill.sh prints them over the translation 9f426cc37089defd… (all of the seat's roots in one cut). By AI agents, Wed Nov 11 2026. No macro, syntax, notation, axiom, sorry.
-/
import Derived.Test.YtkndabjjojaclaaGreatChecked
import GoSem.Claim
import GoSem.ClaimJoined
import GoSem.ClaimMapViews
import Derived.JoinedTies
import Derived.KernelRfl
namespace Go.Proofs.YtkndabjjojaclaaGreat
/- THE CELL 'sum', in the pinned program and in every row, IS THE sha256 OF THE DUMP (.gsa) THAT YtkndabjjojaclaaGreatProg.lean LOADS. Nothing in Lean hashes anything: it is a label: what it is worth is what the hold of that sum in a sandbox is worth. -/
noncomputable def Tryz.pinned : Pinned := { name := "ytkndabjjojaclaagreat", sum := "9f426cc37089defdb6934936b9ee6d12cdba2262b1bc2c7abe59919dc821e571", checked := Tryz.checked }
namespace Rows
def none {H : Type} : Left H := { results := [], args := [] }

/-- 'heirloomlaw13.CollectPieces': WHATEVER THE INPUT: true; the input reads as it did. -/
def collectPiecesSpec : ChangeSpec := { name := "collectPieces", fn := fun _ => fun
  | [d1, d2, d3] => { results := [.lit (.bool true)], args := [d1, d2, d3] }
  | _ => none }
def collectPiecesRow : OpenClaim := { program := "ytkndabjjojaclaagreat", sum := "9f426cc37089defdb6934936b9ee6d12cdba2262b1bc2c7abe59919dc821e571", func := "heirloom/heirloomlaw13.CollectPieces", spec := "collectPieces", unfollowed := true, recurses := true, plainKeys := false, apart := false }
def CollectPiecesSaid : Prop := collectPiecesRow.holds Tryz.pinned (OpenSpec.ofChange collectPiecesSpec)

/-- ITS FALSE NEIGHBOUR: 'it returns false'. Refute it at one input. -/
def collectPiecesWrong : ChangeSpec := { name := "collectPieces", fn := fun _ => fun
  | [d1, d2, d3] => { results := [.lit (.bool false)], args := [d1, d2, d3] }
  | _ => none }
def CollectPiecesWrongFalsely : Prop := collectPiecesRow.holds Tryz.pinned (OpenSpec.ofChange collectPiecesWrong)

/-- 'heirloomlaw13.CollectModes': WHATEVER THE INPUT: true; the input reads as it did. -/
def collectModesSpec : ChangeSpec := { name := "collectModes", fn := fun _ => fun
  | [d1, d2] => { results := [.lit (.bool true)], args := [d1, d2] }
  | _ => none }
def collectModesRow : OpenClaim := { program := "ytkndabjjojaclaagreat", sum := "9f426cc37089defdb6934936b9ee6d12cdba2262b1bc2c7abe59919dc821e571", func := "heirloom/heirloomlaw13.CollectModes", spec := "collectModes", unfollowed := true, recurses := true, plainKeys := false, apart := false }
def CollectModesSaid : Prop := collectModesRow.holds Tryz.pinned (OpenSpec.ofChange collectModesSpec)

/-- ITS FALSE NEIGHBOUR: 'it returns false'. Refute it at one input. -/
def collectModesWrong : ChangeSpec := { name := "collectModes", fn := fun _ => fun
  | [d1, d2] => { results := [.lit (.bool false)], args := [d1, d2] }
  | _ => none }
def CollectModesWrongFalsely : Prop := collectModesRow.holds Tryz.pinned (OpenSpec.ofChange collectModesWrong)

/-- 'heirloomlaw13.CollectNil': WHATEVER THE INPUT: true; the input reads as it did. -/
def collectNilSpec : ChangeSpec := { name := "collectNil", fn := fun _ => fun
  | [d1, d2, d3] => { results := [.lit (.bool true)], args := [d1, d2, d3] }
  | _ => none }
def collectNilRow : OpenClaim := { program := "ytkndabjjojaclaagreat", sum := "9f426cc37089defdb6934936b9ee6d12cdba2262b1bc2c7abe59919dc821e571", func := "heirloom/heirloomlaw13.CollectNil", spec := "collectNil", unfollowed := true, recurses := true, plainKeys := false, apart := false }
def CollectNilSaid : Prop := collectNilRow.holds Tryz.pinned (OpenSpec.ofChange collectNilSpec)

/-- ITS FALSE NEIGHBOUR: 'it returns false'. Refute it at one input. -/
def collectNilWrong : ChangeSpec := { name := "collectNil", fn := fun _ => fun
  | [d1, d2, d3] => { results := [.lit (.bool false)], args := [d1, d2, d3] }
  | _ => none }
def CollectNilWrongFalsely : Prop := collectNilRow.holds Tryz.pinned (OpenSpec.ofChange collectNilWrong)

/-- 'heirloomlaw13.CollectRules': WHATEVER THE INPUT: true; the input reads as it did. -/
def collectRulesSpec : ChangeSpec := { name := "collectRules", fn := fun _ => fun
  | [d1, d2] => { results := [.lit (.bool true)], args := [d1, d2] }
  | _ => none }
def collectRulesRow : OpenClaim := { program := "ytkndabjjojaclaagreat", sum := "9f426cc37089defdb6934936b9ee6d12cdba2262b1bc2c7abe59919dc821e571", func := "heirloom/heirloomlaw13.CollectRules", spec := "collectRules", unfollowed := true, recurses := true, plainKeys := false, apart := false }
def CollectRulesSaid : Prop := collectRulesRow.holds Tryz.pinned (OpenSpec.ofChange collectRulesSpec)

/-- ITS FALSE NEIGHBOUR: 'it returns false'. Refute it at one input. -/
def collectRulesWrong : ChangeSpec := { name := "collectRules", fn := fun _ => fun
  | [d1, d2] => { results := [.lit (.bool false)], args := [d1, d2] }
  | _ => none }
def CollectRulesWrongFalsely : Prop := collectRulesRow.holds Tryz.pinned (OpenSpec.ofChange collectRulesWrong)

/- THE SECOND FORM. 'bulk': how many values and letters a reading holds, each counted each time it is reached (what is shared counts as often as it is met; a slice's spare places count too). A statement '..UptoSaid' is the law's where the arguments, and the package variables that the reading takes, are together of bulk at most 1048576: NARROWER than '..Said'. Prove '..Said' where nothing that the law and all that it calls make is longer than what came in: it says more and counts as full. Else prove '..UptoSaid'. A law counts once. -/
mutual
def uptoBulk {H : Type} : DataW H → Nat
  | .lit (.string bytes) => bytes.length + 1
  | .lit _ => 1
  | .nil => 1
  | .ptr d => uptoBulk d + 1
  | .slice elems spare => uptoBulkAll elems + uptoBulkAll spare + 1
  | .agg parts => uptoBulkAll parts + 1
  | .iface _ d => uptoBulk d + 1
  | .map entries => uptoBulkEntries entries + 1
  | .held _ => 1
def uptoBulkAll {H : Type} : List (DataW H) → Nat
  | [] => 0
  | d :: r => uptoBulk d + uptoBulkAll r
def uptoBulkEntries {H : Type} : List (Lit × DataW H) → Nat
  | [] => 0
  | x :: r => uptoBulkEntry x + uptoBulkEntries r
def uptoBulkEntry {H : Type} : Lit × DataW H → Nat
  | (.string bytes, d) => bytes.length + uptoBulk d + 1
  | (_, d) => uptoBulk d + 1
 end
def uptoSmall : (H : Type) → List (DataW H) → Bool := fun _ ds => decide (uptoBulkAll ds ≤ 1048576)
def OpenSpec.upto (s : _root_.Go.ChangeSpec) : _root_.Go.OpenSpec := { _root_.Go.OpenSpec.ofChange s with cond := some uptoSmall }

/-- 'heirloomlaw13.CollectPieces', WHERE WHAT IT READS IS OF BULK AT MOST 1048576: true; the input reads as it did. -/
def collectPiecesUptoRow : OpenClaim := { program := "ytkndabjjojaclaagreat", sum := "9f426cc37089defdb6934936b9ee6d12cdba2262b1bc2c7abe59919dc821e571", func := "heirloom/heirloomlaw13.CollectPieces", spec := "collectPieces", unfollowed := true, recurses := true, plainKeys := false, apart := false, narrowed := true }
def CollectPiecesUptoSaid : Prop := collectPiecesUptoRow.holds Tryz.pinned (OpenSpec.upto collectPiecesSpec)

/-- 'heirloomlaw13.CollectModes', WHERE WHAT IT READS IS OF BULK AT MOST 1048576: true; the input reads as it did. -/
def collectModesUptoRow : OpenClaim := { program := "ytkndabjjojaclaagreat", sum := "9f426cc37089defdb6934936b9ee6d12cdba2262b1bc2c7abe59919dc821e571", func := "heirloom/heirloomlaw13.CollectModes", spec := "collectModes", unfollowed := true, recurses := true, plainKeys := false, apart := false, narrowed := true }
def CollectModesUptoSaid : Prop := collectModesUptoRow.holds Tryz.pinned (OpenSpec.upto collectModesSpec)

/-- 'heirloomlaw13.CollectNil', WHERE WHAT IT READS IS OF BULK AT MOST 1048576: true; the input reads as it did. -/
def collectNilUptoRow : OpenClaim := { program := "ytkndabjjojaclaagreat", sum := "9f426cc37089defdb6934936b9ee6d12cdba2262b1bc2c7abe59919dc821e571", func := "heirloom/heirloomlaw13.CollectNil", spec := "collectNil", unfollowed := true, recurses := true, plainKeys := false, apart := false, narrowed := true }
def CollectNilUptoSaid : Prop := collectNilUptoRow.holds Tryz.pinned (OpenSpec.upto collectNilSpec)

/-- 'heirloomlaw13.CollectRules', WHERE WHAT IT READS IS OF BULK AT MOST 1048576: true; the input reads as it did. -/
def collectRulesUptoRow : OpenClaim := { program := "ytkndabjjojaclaagreat", sum := "9f426cc37089defdb6934936b9ee6d12cdba2262b1bc2c7abe59919dc821e571", func := "heirloom/heirloomlaw13.CollectRules", spec := "collectRules", unfollowed := true, recurses := true, plainKeys := false, apart := false, narrowed := true }
def CollectRulesUptoSaid : Prop := collectRulesUptoRow.holds Tryz.pinned (OpenSpec.upto collectRulesSpec)

end Rows
end Go.Proofs.YtkndabjjojaclaaGreat
