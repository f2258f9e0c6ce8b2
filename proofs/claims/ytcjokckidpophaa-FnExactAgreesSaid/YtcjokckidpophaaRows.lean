/-
  No cell of these rows narrows 'for every input' (looked for: loops, veiled, ifaces, maps, wideKeys, modest, calm, conditions, laid).
  DERIVED. THE GIVEN ROWS OF THIS SEAT. 6 by the template 'for every input the law returns true; each argument reads behind the call as it read before'; 0 by the template 'total and deterministic' (their statements: YtcjokckidpophaaTotals.lean).
  GIVEN WITH THE SEED: the statements are not yours to turn. If you find one false, say at which input.
  Laid BY PROGRAM, IN A SANDBOX (cutbox-rows.mjs): the forced cells as the released guide's own fill.sh prints them over the translation 018eaf81fb338abb… (all of the seat's roots in one cut). By AI agents, Wed Nov 11 2026. No macro, syntax, notation, axiom, sorry.
-/
import Derived.Test.YtcjokckidpophaaChecked
import GoSem.Claim
import GoSem.ClaimJoined
import GoSem.ClaimMapViews
import Derived.JoinedTies
import Derived.KernelRfl
namespace Go.Proofs.Ytcjokckidpophaa
/- THE CELL 'sum', in the pinned program and in every row, IS THE sha256 OF THE DUMP (.gsa) THAT YtcjokckidpophaaProg.lean LOADS. Nothing in Lean hashes anything: it is a label: what it is worth is what the hold of that sum in a sandbox is worth. -/
noncomputable def Try.pinned : Pinned := { name := "ytcjokckidpophaa", sum := "018eaf81fb338abbc17cc68b7e0a98f98c5777513cec4117cb89de9add8abecc", checked := Try.checked }
namespace Rows
def none {H : Type} : Left H := { results := [], args := [] }

/-- 'laws.FnExactAgrees': WHATEVER THE INPUT: true; the input reads as it did. -/
def fnExactAgreesSpec : ChangeSpec := { name := "fnExactAgrees", fn := fun _ => fun
  | [d1, d2, d3] => { results := [.lit (.bool true)], args := [d1, d2, d3] }
  | _ => none }
def fnExactAgreesRow : OpenClaim := { program := "ytcjokckidpophaa", sum := "018eaf81fb338abbc17cc68b7e0a98f98c5777513cec4117cb89de9add8abecc", func := "loop.example/g01388/laws.FnExactAgrees", spec := "fnExactAgrees", unfollowed := true, recurses := true, apart := false }
def FnExactAgreesSaid : Prop := fnExactAgreesRow.holds Try.pinned (OpenSpec.ofChange fnExactAgreesSpec)

/-- ITS FALSE NEIGHBOUR: 'it returns false'. Refute it at one input. -/
def fnExactAgreesWrong : ChangeSpec := { name := "fnExactAgrees", fn := fun _ => fun
  | [d1, d2, d3] => { results := [.lit (.bool false)], args := [d1, d2, d3] }
  | _ => none }
def FnExactAgreesWrongFalsely : Prop := fnExactAgreesRow.holds Try.pinned (OpenSpec.ofChange fnExactAgreesWrong)

/-- 'laws.FnExactCountAgreeing': WHATEVER THE INPUT: true; the input reads as it did. -/
def fnExactCountAgreeingSpec : ChangeSpec := { name := "fnExactCountAgreeing", fn := fun _ => fun
  | [d1, d2] => { results := [.lit (.bool true)], args := [d1, d2] }
  | _ => none }
def fnExactCountAgreeingRow : OpenClaim := { program := "ytcjokckidpophaa", sum := "018eaf81fb338abbc17cc68b7e0a98f98c5777513cec4117cb89de9add8abecc", func := "loop.example/g01388/laws.FnExactCountAgreeing", spec := "fnExactCountAgreeing", unfollowed := true, recurses := true, apart := false }
def FnExactCountAgreeingSaid : Prop := fnExactCountAgreeingRow.holds Try.pinned (OpenSpec.ofChange fnExactCountAgreeingSpec)

/-- ITS FALSE NEIGHBOUR: 'it returns false'. Refute it at one input. -/
def fnExactCountAgreeingWrong : ChangeSpec := { name := "fnExactCountAgreeing", fn := fun _ => fun
  | [d1, d2] => { results := [.lit (.bool false)], args := [d1, d2] }
  | _ => none }
def FnExactCountAgreeingWrongFalsely : Prop := fnExactCountAgreeingRow.holds Try.pinned (OpenSpec.ofChange fnExactCountAgreeingWrong)

/-- 'laws.FnExactSharesOf': WHATEVER THE INPUT: true; the input reads as it did. -/
def fnExactSharesOfSpec : ChangeSpec := { name := "fnExactSharesOf", fn := fun _ => fun
  | [d1, d2] => { results := [.lit (.bool true)], args := [d1, d2] }
  | _ => none }
def fnExactSharesOfRow : OpenClaim := { program := "ytcjokckidpophaa", sum := "018eaf81fb338abbc17cc68b7e0a98f98c5777513cec4117cb89de9add8abecc", func := "loop.example/g01388/laws.FnExactSharesOf", spec := "fnExactSharesOf", unfollowed := true, recurses := true, apart := false }
def FnExactSharesOfSaid : Prop := fnExactSharesOfRow.holds Try.pinned (OpenSpec.ofChange fnExactSharesOfSpec)

/-- ITS FALSE NEIGHBOUR: 'it returns false'. Refute it at one input. -/
def fnExactSharesOfWrong : ChangeSpec := { name := "fnExactSharesOf", fn := fun _ => fun
  | [d1, d2] => { results := [.lit (.bool false)], args := [d1, d2] }
  | _ => none }
def FnExactSharesOfWrongFalsely : Prop := fnExactSharesOfRow.holds Try.pinned (OpenSpec.ofChange fnExactSharesOfWrong)

/-- 'laws.FnExactBestCell': WHATEVER THE INPUT: true; the input reads as it did. -/
def fnExactBestCellSpec : ChangeSpec := { name := "fnExactBestCell", fn := fun _ => fun
  | [d1, d2] => { results := [.lit (.bool true)], args := [d1, d2] }
  | _ => none }
def fnExactBestCellRow : OpenClaim := { program := "ytcjokckidpophaa", sum := "018eaf81fb338abbc17cc68b7e0a98f98c5777513cec4117cb89de9add8abecc", func := "loop.example/g01388/laws.FnExactBestCell", spec := "fnExactBestCell", unfollowed := true, recurses := true, apart := false }
def FnExactBestCellSaid : Prop := fnExactBestCellRow.holds Try.pinned (OpenSpec.ofChange fnExactBestCellSpec)

/-- ITS FALSE NEIGHBOUR: 'it returns false'. Refute it at one input. -/
def fnExactBestCellWrong : ChangeSpec := { name := "fnExactBestCell", fn := fun _ => fun
  | [d1, d2] => { results := [.lit (.bool false)], args := [d1, d2] }
  | _ => none }
def FnExactBestCellWrongFalsely : Prop := fnExactBestCellRow.holds Try.pinned (OpenSpec.ofChange fnExactBestCellWrong)

/-- 'laws.FnExactCertainCells': WHATEVER THE INPUT: true; the input reads as it did. -/
def fnExactCertainCellsSpec : ChangeSpec := { name := "fnExactCertainCells", fn := fun _ => fun
  | [d1, d2] => { results := [.lit (.bool true)], args := [d1, d2] }
  | _ => none }
def fnExactCertainCellsRow : OpenClaim := { program := "ytcjokckidpophaa", sum := "018eaf81fb338abbc17cc68b7e0a98f98c5777513cec4117cb89de9add8abecc", func := "loop.example/g01388/laws.FnExactCertainCells", spec := "fnExactCertainCells", unfollowed := true, recurses := true, apart := false }
def FnExactCertainCellsSaid : Prop := fnExactCertainCellsRow.holds Try.pinned (OpenSpec.ofChange fnExactCertainCellsSpec)

/-- ITS FALSE NEIGHBOUR: 'it returns false'. Refute it at one input. -/
def fnExactCertainCellsWrong : ChangeSpec := { name := "fnExactCertainCells", fn := fun _ => fun
  | [d1, d2] => { results := [.lit (.bool false)], args := [d1, d2] }
  | _ => none }
def FnExactCertainCellsWrongFalsely : Prop := fnExactCertainCellsRow.holds Try.pinned (OpenSpec.ofChange fnExactCertainCellsWrong)

/-- 'laws.FnExactHuntFleet': WHATEVER THE INPUT: true; the input reads as it did. -/
def fnExactHuntFleetSpec : ChangeSpec := { name := "fnExactHuntFleet", fn := fun _ => fun
  | [d1, d2] => { results := [.lit (.bool true)], args := [d1, d2] }
  | _ => none }
def fnExactHuntFleetRow : OpenClaim := { program := "ytcjokckidpophaa", sum := "018eaf81fb338abbc17cc68b7e0a98f98c5777513cec4117cb89de9add8abecc", func := "loop.example/g01388/laws.FnExactHuntFleet", spec := "fnExactHuntFleet", unfollowed := true, recurses := true, apart := false }
def FnExactHuntFleetSaid : Prop := fnExactHuntFleetRow.holds Try.pinned (OpenSpec.ofChange fnExactHuntFleetSpec)

/-- ITS FALSE NEIGHBOUR: 'it returns false'. Refute it at one input. -/
def fnExactHuntFleetWrong : ChangeSpec := { name := "fnExactHuntFleet", fn := fun _ => fun
  | [d1, d2] => { results := [.lit (.bool false)], args := [d1, d2] }
  | _ => none }
def FnExactHuntFleetWrongFalsely : Prop := fnExactHuntFleetRow.holds Try.pinned (OpenSpec.ofChange fnExactHuntFleetWrong)

/- THE SECOND FORM. 'bulk': how many values and letters a reading holds, each counted each time it is reached (what is shared counts as often as it is met; a slice's spare places count too). A statement '..UptoSaid' is the law's where the arguments, and the package variables that the reading takes, are together of bulk at most 1048576: NARROWER than '..Said'. Prove '..Said' where nothing that the law and all that it calls make is longer than what came in: it says more and counts as full. Else prove '..UptoSaid'. A law counts once. -/
mutual
def uptoBulk {H : Type} : DataW H → Nat
  | .lit (.string bytes) => bytes.length + 1
  | .lit _ => 1
  | .nil => 1
  | .ptr d => uptoBulk d + 1
  | .slice elems spare => uptoBulkAll elems + uptoBulkAll spare + 1
  | .agg parts => uptoBulkAll parts + 1
  | .iface _ d => uptoBulk d + 1
  | .map entries => uptoBulkEntries entries + 1
  | .held _ => 1
def uptoBulkAll {H : Type} : List (DataW H) → Nat
  | [] => 0
  | d :: r => uptoBulk d + uptoBulkAll r
def uptoBulkEntries {H : Type} : List (Lit × DataW H) → Nat
  | [] => 0
  | x :: r => uptoBulkEntry x + uptoBulkEntries r
def uptoBulkEntry {H : Type} : Lit × DataW H → Nat
  | (.string bytes, d) => bytes.length + uptoBulk d + 1
  | (_, d) => uptoBulk d + 1
 end
def uptoSmall : (H : Type) → List (DataW H) → Bool := fun _ ds => decide (uptoBulkAll ds ≤ 1048576)
def OpenSpec.upto (s : _root_.Go.ChangeSpec) : _root_.Go.OpenSpec := { _root_.Go.OpenSpec.ofChange s with cond := some uptoSmall }

/-- 'laws.FnExactAgrees', WHERE WHAT IT READS IS OF BULK AT MOST 1048576: true; the input reads as it did. -/
def fnExactAgreesUptoRow : OpenClaim := { program := "ytcjokckidpophaa", sum := "018eaf81fb338abbc17cc68b7e0a98f98c5777513cec4117cb89de9add8abecc", func := "loop.example/g01388/laws.FnExactAgrees", spec := "fnExactAgrees", unfollowed := true, recurses := true, apart := false, narrowed := true }
def FnExactAgreesUptoSaid : Prop := fnExactAgreesUptoRow.holds Try.pinned (OpenSpec.upto fnExactAgreesSpec)

/-- 'laws.FnExactCountAgreeing', WHERE WHAT IT READS IS OF BULK AT MOST 1048576: true; the input reads as it did. -/
def fnExactCountAgreeingUptoRow : OpenClaim := { program := "ytcjokckidpophaa", sum := "018eaf81fb338abbc17cc68b7e0a98f98c5777513cec4117cb89de9add8abecc", func := "loop.example/g01388/laws.FnExactCountAgreeing", spec := "fnExactCountAgreeing", unfollowed := true, recurses := true, apart := false, narrowed := true }
def FnExactCountAgreeingUptoSaid : Prop := fnExactCountAgreeingUptoRow.holds Try.pinned (OpenSpec.upto fnExactCountAgreeingSpec)

/-- 'laws.FnExactSharesOf', WHERE WHAT IT READS IS OF BULK AT MOST 1048576: true; the input reads as it did. -/
def fnExactSharesOfUptoRow : OpenClaim := { program := "ytcjokckidpophaa", sum := "018eaf81fb338abbc17cc68b7e0a98f98c5777513cec4117cb89de9add8abecc", func := "loop.example/g01388/laws.FnExactSharesOf", spec := "fnExactSharesOf", unfollowed := true, recurses := true, apart := false, narrowed := true }
def FnExactSharesOfUptoSaid : Prop := fnExactSharesOfUptoRow.holds Try.pinned (OpenSpec.upto fnExactSharesOfSpec)

/-- 'laws.FnExactBestCell', WHERE WHAT IT READS IS OF BULK AT MOST 1048576: true; the input reads as it did. -/
def fnExactBestCellUptoRow : OpenClaim := { program := "ytcjokckidpophaa", sum := "018eaf81fb338abbc17cc68b7e0a98f98c5777513cec4117cb89de9add8abecc", func := "loop.example/g01388/laws.FnExactBestCell", spec := "fnExactBestCell", unfollowed := true, recurses := true, apart := false, narrowed := true }
def FnExactBestCellUptoSaid : Prop := fnExactBestCellUptoRow.holds Try.pinned (OpenSpec.upto fnExactBestCellSpec)

/-- 'laws.FnExactCertainCells', WHERE WHAT IT READS IS OF BULK AT MOST 1048576: true; the input reads as it did. -/
def fnExactCertainCellsUptoRow : OpenClaim := { program := "ytcjokckidpophaa", sum := "018eaf81fb338abbc17cc68b7e0a98f98c5777513cec4117cb89de9add8abecc", func := "loop.example/g01388/laws.FnExactCertainCells", spec := "fnExactCertainCells", unfollowed := true, recurses := true, apart := false, narrowed := true }
def FnExactCertainCellsUptoSaid : Prop := fnExactCertainCellsUptoRow.holds Try.pinned (OpenSpec.upto fnExactCertainCellsSpec)

/-- 'laws.FnExactHuntFleet', WHERE WHAT IT READS IS OF BULK AT MOST 1048576: true; the input reads as it did. -/
def fnExactHuntFleetUptoRow : OpenClaim := { program := "ytcjokckidpophaa", sum := "018eaf81fb338abbc17cc68b7e0a98f98c5777513cec4117cb89de9add8abecc", func := "loop.example/g01388/laws.FnExactHuntFleet", spec := "fnExactHuntFleet", unfollowed := true, recurses := true, apart := false, narrowed := true }
def FnExactHuntFleetUptoSaid : Prop := fnExactHuntFleetUptoRow.holds Try.pinned (OpenSpec.upto fnExactHuntFleetSpec)

end Rows
end Go.Proofs.Ytcjokckidpophaa
