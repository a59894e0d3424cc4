/-
  No cell of these rows narrows 'for every input' (looked for: loops, veiled, ifaces, maps, wideKeys, modest, calm, conditions, laid).
  DERIVED. THE GIVEN ROWS OF THIS SEAT. 8 by the template 'for every input the law returns true; each argument reads behind the call as it read before'; 0 by the template 'total and deterministic' (their statements: YtbjmmkfaikkidaaGreatTotals.lean).
  GIVEN WITH THE SEED: the statements are not yours to turn. If you find one false, say at which input.
  Laid BY PROGRAM, IN A SANDBOX (cutbox-rows.mjs): the forced cells as the released guide's own fill.sh prints them over the translation 57c750c2e128d659… (all of the seat's roots in one cut). By AI agents, Wed Nov 11 2026. No macro, syntax, notation, axiom, sorry.
-/
import Derived.Test.YtbjmmkfaikkidaaGreatChecked
import GoSem.Claim
import GoSem.ClaimJoined
import GoSem.ClaimMapViews
import Derived.JoinedTies
import Derived.KernelRfl
namespace Go.Proofs.YtbjmmkfaikkidaaGreat
/- THE CELL 'sum', in the pinned program and in every row, IS THE sha256 OF THE DUMP (.gsa) THAT YtbjmmkfaikkidaaGreatProg.lean LOADS. Nothing in Lean hashes anything: it is a label: what it is worth is what the hold of that sum in a sandbox is worth. -/
noncomputable def Tryz.pinned : Pinned := { name := "ytbjmmkfaikkidaagreat", sum := "57c750c2e128d6591983da5d18fadf1daaf5cd608a0f048e3f53708edbb1fff6", checked := Tryz.checked }
namespace Rows
def none {H : Type} : Left H := { results := [], args := [] }

/-- 'heirloomlaw14.HeapFull': WHATEVER THE INPUT: true; the input reads as it did. -/
def heapFullSpec : ChangeSpec := { name := "heapFull", fn := fun _ => fun
  | [d1, d2, d3] => { results := [.lit (.bool true)], args := [d1, d2, d3] }
  | _ => none }
def heapFullRow : OpenClaim := { program := "ytbjmmkfaikkidaagreat", sum := "57c750c2e128d6591983da5d18fadf1daaf5cd608a0f048e3f53708edbb1fff6", func := "heirloom/heirloomlaw14.HeapFull", spec := "heapFull", inPlace := ["math.Float64frombits"], unfollowed := true, recurses := true, plainKeys := false, apart := false }
def HeapFullSaid : Prop := heapFullRow.holds Tryz.pinned (OpenSpec.ofChange heapFullSpec)

/-- ITS FALSE NEIGHBOUR: 'it returns false'. Refute it at one input. -/
def heapFullWrong : ChangeSpec := { name := "heapFull", fn := fun _ => fun
  | [d1, d2, d3] => { results := [.lit (.bool false)], args := [d1, d2, d3] }
  | _ => none }
def HeapFullWrongFalsely : Prop := heapFullRow.holds Tryz.pinned (OpenSpec.ofChange heapFullWrong)

/-- 'heirloomlaw14.HeapInterns': WHATEVER THE INPUT: true; the input reads as it did. -/
def heapInternsSpec : ChangeSpec := { name := "heapInterns", fn := fun _ => fun
  | [d1, d2] => { results := [.lit (.bool true)], args := [d1, d2] }
  | _ => none }
def heapInternsRow : OpenClaim := { program := "ytbjmmkfaikkidaagreat", sum := "57c750c2e128d6591983da5d18fadf1daaf5cd608a0f048e3f53708edbb1fff6", func := "heirloom/heirloomlaw14.HeapInterns", spec := "heapInterns", inPlace := ["math.Float64frombits"], unfollowed := true, recurses := true, plainKeys := false, apart := false }
def HeapInternsSaid : Prop := heapInternsRow.holds Tryz.pinned (OpenSpec.ofChange heapInternsSpec)

/-- ITS FALSE NEIGHBOUR: 'it returns false'. Refute it at one input. -/
def heapInternsWrong : ChangeSpec := { name := "heapInterns", fn := fun _ => fun
  | [d1, d2] => { results := [.lit (.bool false)], args := [d1, d2] }
  | _ => none }
def HeapInternsWrongFalsely : Prop := heapInternsRow.holds Tryz.pinned (OpenSpec.ofChange heapInternsWrong)

/-- 'heirloomlaw14.HeapKeeps': WHATEVER THE INPUT: true; the input reads as it did. -/
def heapKeepsSpec : ChangeSpec := { name := "heapKeeps", fn := fun _ => fun
  | [d] => { results := [.lit (.bool true)], args := [d] }
  | _ => none }
def heapKeepsRow : OpenClaim := { program := "ytbjmmkfaikkidaagreat", sum := "57c750c2e128d6591983da5d18fadf1daaf5cd608a0f048e3f53708edbb1fff6", func := "heirloom/heirloomlaw14.HeapKeeps", spec := "heapKeeps", inPlace := ["math.Float64frombits"], unfollowed := true, recurses := true, plainKeys := false, apart := false }
def HeapKeepsSaid : Prop := heapKeepsRow.holds Tryz.pinned (OpenSpec.ofChange heapKeepsSpec)

/-- ITS FALSE NEIGHBOUR: 'it returns false'. Refute it at one input. -/
def heapKeepsWrong : ChangeSpec := { name := "heapKeeps", fn := fun _ => fun
  | [d] => { results := [.lit (.bool false)], args := [d] }
  | _ => none }
def HeapKeepsWrongFalsely : Prop := heapKeepsRow.holds Tryz.pinned (OpenSpec.ofChange heapKeepsWrong)

/-- 'heirloomlaw14.HeapTight': WHATEVER THE INPUT: true; the input reads as it did. -/
def heapTightSpec : ChangeSpec := { name := "heapTight", fn := fun _ => fun
  | [d1, d2] => { results := [.lit (.bool true)], args := [d1, d2] }
  | _ => none }
def heapTightRow : OpenClaim := { program := "ytbjmmkfaikkidaagreat", sum := "57c750c2e128d6591983da5d18fadf1daaf5cd608a0f048e3f53708edbb1fff6", func := "heirloom/heirloomlaw14.HeapTight", spec := "heapTight", inPlace := ["math.Float64frombits"], unfollowed := true, recurses := true, plainKeys := false, apart := false }
def HeapTightSaid : Prop := heapTightRow.holds Tryz.pinned (OpenSpec.ofChange heapTightSpec)

/-- ITS FALSE NEIGHBOUR: 'it returns false'. Refute it at one input. -/
def heapTightWrong : ChangeSpec := { name := "heapTight", fn := fun _ => fun
  | [d1, d2] => { results := [.lit (.bool false)], args := [d1, d2] }
  | _ => none }
def HeapTightWrongFalsely : Prop := heapTightRow.holds Tryz.pinned (OpenSpec.ofChange heapTightWrong)

/-- 'heirloomlaw14.HeapOrder': WHATEVER THE INPUT: true; the input reads as it did. -/
def heapOrderSpec : ChangeSpec := { name := "heapOrder", fn := fun _ => fun
  | [d1, d2] => { results := [.lit (.bool true)], args := [d1, d2] }
  | _ => none }
def heapOrderRow : OpenClaim := { program := "ytbjmmkfaikkidaagreat", sum := "57c750c2e128d6591983da5d18fadf1daaf5cd608a0f048e3f53708edbb1fff6", func := "heirloom/heirloomlaw14.HeapOrder", spec := "heapOrder", inPlace := ["math.Float64frombits"], unfollowed := true, recurses := true, plainKeys := false, apart := false }
def HeapOrderSaid : Prop := heapOrderRow.holds Tryz.pinned (OpenSpec.ofChange heapOrderSpec)

/-- ITS FALSE NEIGHBOUR: 'it returns false'. Refute it at one input. -/
def heapOrderWrong : ChangeSpec := { name := "heapOrder", fn := fun _ => fun
  | [d1, d2] => { results := [.lit (.bool false)], args := [d1, d2] }
  | _ => none }
def HeapOrderWrongFalsely : Prop := heapOrderRow.holds Tryz.pinned (OpenSpec.ofChange heapOrderWrong)

/-- 'heirloomlaw14.HeapFreed': WHATEVER THE INPUT: true; the input reads as it did. -/
def heapFreedSpec : ChangeSpec := { name := "heapFreed", fn := fun _ => fun
  | [d] => { results := [.lit (.bool true)], args := [d] }
  | _ => none }
def heapFreedRow : OpenClaim := { program := "ytbjmmkfaikkidaagreat", sum := "57c750c2e128d6591983da5d18fadf1daaf5cd608a0f048e3f53708edbb1fff6", func := "heirloom/heirloomlaw14.HeapFreed", spec := "heapFreed", inPlace := ["math.Float64frombits"], unfollowed := true, recurses := true, plainKeys := false, apart := false }
def HeapFreedSaid : Prop := heapFreedRow.holds Tryz.pinned (OpenSpec.ofChange heapFreedSpec)

/-- ITS FALSE NEIGHBOUR: 'it returns false'. Refute it at one input. -/
def heapFreedWrong : ChangeSpec := { name := "heapFreed", fn := fun _ => fun
  | [d] => { results := [.lit (.bool false)], args := [d] }
  | _ => none }
def HeapFreedWrongFalsely : Prop := heapFreedRow.holds Tryz.pinned (OpenSpec.ofChange heapFreedWrong)

/-- 'heirloomlaw14.HeapNil': WHATEVER THE INPUT: true; the input reads as it did. -/
def heapNilSpec : ChangeSpec := { name := "heapNil", fn := fun _ => fun
  | [d1, d2, d3] => { results := [.lit (.bool true)], args := [d1, d2, d3] }
  | _ => none }
def heapNilRow : OpenClaim := { program := "ytbjmmkfaikkidaagreat", sum := "57c750c2e128d6591983da5d18fadf1daaf5cd608a0f048e3f53708edbb1fff6", func := "heirloom/heirloomlaw14.HeapNil", spec := "heapNil", inPlace := ["math.Float64frombits"], unfollowed := true, recurses := true, plainKeys := false, apart := false }
def HeapNilSaid : Prop := heapNilRow.holds Tryz.pinned (OpenSpec.ofChange heapNilSpec)

/-- ITS FALSE NEIGHBOUR: 'it returns false'. Refute it at one input. -/
def heapNilWrong : ChangeSpec := { name := "heapNil", fn := fun _ => fun
  | [d1, d2, d3] => { results := [.lit (.bool false)], args := [d1, d2, d3] }
  | _ => none }
def HeapNilWrongFalsely : Prop := heapNilRow.holds Tryz.pinned (OpenSpec.ofChange heapNilWrong)

/-- 'heirloomlaw14.HeapRules': WHATEVER THE INPUT: true; the input reads as it did. -/
def heapRulesSpec : ChangeSpec := { name := "heapRules", fn := fun _ => fun
  | [d1, d2] => { results := [.lit (.bool true)], args := [d1, d2] }
  | _ => none }
def heapRulesRow : OpenClaim := { program := "ytbjmmkfaikkidaagreat", sum := "57c750c2e128d6591983da5d18fadf1daaf5cd608a0f048e3f53708edbb1fff6", func := "heirloom/heirloomlaw14.HeapRules", spec := "heapRules", inPlace := ["math.Float64frombits"], unfollowed := true, recurses := true, plainKeys := false, apart := false }
def HeapRulesSaid : Prop := heapRulesRow.holds Tryz.pinned (OpenSpec.ofChange heapRulesSpec)

/-- ITS FALSE NEIGHBOUR: 'it returns false'. Refute it at one input. -/
def heapRulesWrong : ChangeSpec := { name := "heapRules", fn := fun _ => fun
  | [d1, d2] => { results := [.lit (.bool false)], args := [d1, d2] }
  | _ => none }
def HeapRulesWrongFalsely : Prop := heapRulesRow.holds Tryz.pinned (OpenSpec.ofChange heapRulesWrong)

/- THE SECOND FORM. 'bulk': how many values and letters a reading holds, each counted each time it is reached (what is shared counts as often as it is met; a slice's spare places count too). A statement '..UptoSaid' is the law's where the arguments, and the package variables that the reading takes, are together of bulk at most 1048576: NARROWER than '..Said'. Prove '..Said' where nothing that the law and all that it calls make is longer than what came in: it says more and counts as full. Else prove '..UptoSaid'. A law counts once. -/
mutual
def uptoBulk {H : Type} : DataW H → Nat
  | .lit (.string bytes) => bytes.length + 1
  | .lit _ => 1
  | .nil => 1
  | .ptr d => uptoBulk d + 1
  | .slice elems spare => uptoBulkAll elems + uptoBulkAll spare + 1
  | .agg parts => uptoBulkAll parts + 1
  | .iface _ d => uptoBulk d + 1
  | .map entries => uptoBulkEntries entries + 1
  | .held _ => 1
def uptoBulkAll {H : Type} : List (DataW H) → Nat
  | [] => 0
  | d :: r => uptoBulk d + uptoBulkAll r
def uptoBulkEntries {H : Type} : List (Lit × DataW H) → Nat
  | [] => 0
  | x :: r => uptoBulkEntry x + uptoBulkEntries r
def uptoBulkEntry {H : Type} : Lit × DataW H → Nat
  | (.string bytes, d) => bytes.length + uptoBulk d + 1
  | (_, d) => uptoBulk d + 1
 end
def uptoSmall : (H : Type) → List (DataW H) → Bool := fun _ ds => decide (uptoBulkAll ds ≤ 1048576)
def OpenSpec.upto (s : _root_.Go.ChangeSpec) : _root_.Go.OpenSpec := { _root_.Go.OpenSpec.ofChange s with cond := some uptoSmall }

/-- 'heirloomlaw14.HeapFull', WHERE WHAT IT READS IS OF BULK AT MOST 1048576: true; the input reads as it did. -/
def heapFullUptoRow : OpenClaim := { program := "ytbjmmkfaikkidaagreat", sum := "57c750c2e128d6591983da5d18fadf1daaf5cd608a0f048e3f53708edbb1fff6", func := "heirloom/heirloomlaw14.HeapFull", spec := "heapFull", inPlace := ["math.Float64frombits"], unfollowed := true, recurses := true, plainKeys := false, apart := false, narrowed := true }
def HeapFullUptoSaid : Prop := heapFullUptoRow.holds Tryz.pinned (OpenSpec.upto heapFullSpec)

/-- 'heirloomlaw14.HeapInterns', WHERE WHAT IT READS IS OF BULK AT MOST 1048576: true; the input reads as it did. -/
def heapInternsUptoRow : OpenClaim := { program := "ytbjmmkfaikkidaagreat", sum := "57c750c2e128d6591983da5d18fadf1daaf5cd608a0f048e3f53708edbb1fff6", func := "heirloom/heirloomlaw14.HeapInterns", spec := "heapInterns", inPlace := ["math.Float64frombits"], unfollowed := true, recurses := true, plainKeys := false, apart := false, narrowed := true }
def HeapInternsUptoSaid : Prop := heapInternsUptoRow.holds Tryz.pinned (OpenSpec.upto heapInternsSpec)

/-- 'heirloomlaw14.HeapKeeps', WHERE WHAT IT READS IS OF BULK AT MOST 1048576: true; the input reads as it did. -/
def heapKeepsUptoRow : OpenClaim := { program := "ytbjmmkfaikkidaagreat", sum := "57c750c2e128d6591983da5d18fadf1daaf5cd608a0f048e3f53708edbb1fff6", func := "heirloom/heirloomlaw14.HeapKeeps", spec := "heapKeeps", inPlace := ["math.Float64frombits"], unfollowed := true, recurses := true, plainKeys := false, apart := false, narrowed := true }
def HeapKeepsUptoSaid : Prop := heapKeepsUptoRow.holds Tryz.pinned (OpenSpec.upto heapKeepsSpec)

/-- 'heirloomlaw14.HeapTight', WHERE WHAT IT READS IS OF BULK AT MOST 1048576: true; the input reads as it did. -/
def heapTightUptoRow : OpenClaim := { program := "ytbjmmkfaikkidaagreat", sum := "57c750c2e128d6591983da5d18fadf1daaf5cd608a0f048e3f53708edbb1fff6", func := "heirloom/heirloomlaw14.HeapTight", spec := "heapTight", inPlace := ["math.Float64frombits"], unfollowed := true, recurses := true, plainKeys := false, apart := false, narrowed := true }
def HeapTightUptoSaid : Prop := heapTightUptoRow.holds Tryz.pinned (OpenSpec.upto heapTightSpec)

/-- 'heirloomlaw14.HeapOrder', WHERE WHAT IT READS IS OF BULK AT MOST 1048576: true; the input reads as it did. -/
def heapOrderUptoRow : OpenClaim := { program := "ytbjmmkfaikkidaagreat", sum := "57c750c2e128d6591983da5d18fadf1daaf5cd608a0f048e3f53708edbb1fff6", func := "heirloom/heirloomlaw14.HeapOrder", spec := "heapOrder", inPlace := ["math.Float64frombits"], unfollowed := true, recurses := true, plainKeys := false, apart := false, narrowed := true }
def HeapOrderUptoSaid : Prop := heapOrderUptoRow.holds Tryz.pinned (OpenSpec.upto heapOrderSpec)

/-- 'heirloomlaw14.HeapFreed', WHERE WHAT IT READS IS OF BULK AT MOST 1048576: true; the input reads as it did. -/
def heapFreedUptoRow : OpenClaim := { program := "ytbjmmkfaikkidaagreat", sum := "57c750c2e128d6591983da5d18fadf1daaf5cd608a0f048e3f53708edbb1fff6", func := "heirloom/heirloomlaw14.HeapFreed", spec := "heapFreed", inPlace := ["math.Float64frombits"], unfollowed := true, recurses := true, plainKeys := false, apart := false, narrowed := true }
def HeapFreedUptoSaid : Prop := heapFreedUptoRow.holds Tryz.pinned (OpenSpec.upto heapFreedSpec)

/-- 'heirloomlaw14.HeapNil', WHERE WHAT IT READS IS OF BULK AT MOST 1048576: true; the input reads as it did. -/
def heapNilUptoRow : OpenClaim := { program := "ytbjmmkfaikkidaagreat", sum := "57c750c2e128d6591983da5d18fadf1daaf5cd608a0f048e3f53708edbb1fff6", func := "heirloom/heirloomlaw14.HeapNil", spec := "heapNil", inPlace := ["math.Float64frombits"], unfollowed := true, recurses := true, plainKeys := false, apart := false, narrowed := true }
def HeapNilUptoSaid : Prop := heapNilUptoRow.holds Tryz.pinned (OpenSpec.upto heapNilSpec)

/-- 'heirloomlaw14.HeapRules', WHERE WHAT IT READS IS OF BULK AT MOST 1048576: true; the input reads as it did. -/
def heapRulesUptoRow : OpenClaim := { program := "ytbjmmkfaikkidaagreat", sum := "57c750c2e128d6591983da5d18fadf1daaf5cd608a0f048e3f53708edbb1fff6", func := "heirloom/heirloomlaw14.HeapRules", spec := "heapRules", inPlace := ["math.Float64frombits"], unfollowed := true, recurses := true, plainKeys := false, apart := false, narrowed := true }
def HeapRulesUptoSaid : Prop := heapRulesUptoRow.holds Tryz.pinned (OpenSpec.upto heapRulesSpec)

end Rows
end Go.Proofs.YtbjmmkfaikkidaaGreat
