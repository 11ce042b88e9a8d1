/-
  No cell of these rows narrows 'for every input' (looked for: loops, veiled, ifaces, maps, wideKeys, modest, calm, conditions, laid).
  DERIVED. THE GIVEN ROWS OF THIS SEAT. 9 by the template 'for every input the law returns true; each argument reads behind the call as it read before'; 0 by the template 'total and deterministic' (their statements: YtknondpcbpgpoaaGreatTotals.lean).
  GIVEN WITH THE SEED: the statements are not yours to turn. If you find one false, say at which input.
  Laid BY PROGRAM, IN A SANDBOX (cutbox-rows.mjs): the forced cells as the released guide's own fill.sh prints them over the translation a29728696db4d844… (all of the seat's roots in one cut). By AI agents, Wed Nov 11 2026. No macro, syntax, notation, axiom, sorry.
-/
import Derived.Test.YtknondpcbpgpoaaGreatChecked
import GoSem.Claim
import GoSem.ClaimJoined
import GoSem.ClaimMapViews
import Derived.JoinedTies
import Derived.KernelRfl
namespace Go.Proofs.YtknondpcbpgpoaaGreat
/- THE CELL 'sum', in the pinned program and in every row, IS THE sha256 OF THE DUMP (.gsa) THAT YtknondpcbpgpoaaGreatProg.lean LOADS. Nothing in Lean hashes anything: it is a label: what it is worth is what the hold of that sum in a sandbox is worth. -/
noncomputable def Tryz.pinned : Pinned := { name := "ytknondpcbpgpoaagreat", sum := "a29728696db4d8448fe46a53070f4b721c68a1bd4ef94c2fdcebdf905f8d9f92", checked := Tryz.checked }
namespace Rows
def none {H : Type} : Left H := { results := [], args := [] }

/-- 'laws.FnExactExportOf': WHATEVER THE INPUT: true; the input reads as it did. -/
def fnExactExportOfSpec : ChangeSpec := { name := "fnExactExportOf", fn := fun _ => fun
  | [d] => { results := [.lit (.bool true)], args := [d] }
  | _ => none }
def fnExactExportOfRow : OpenClaim := { program := "ytknondpcbpgpoaagreat", sum := "a29728696db4d8448fe46a53070f4b721c68a1bd4ef94c2fdcebdf905f8d9f92", func := "loop.example/g00837/laws.FnExactExportOf", spec := "fnExactExportOf", unfollowed := true, recurses := true, apart := false }
def FnExactExportOfSaid : Prop := fnExactExportOfRow.holds Tryz.pinned (OpenSpec.ofChange fnExactExportOfSpec)

/-- ITS FALSE NEIGHBOUR: 'it returns false'. Refute it at one input. -/
def fnExactExportOfWrong : ChangeSpec := { name := "fnExactExportOf", fn := fun _ => fun
  | [d] => { results := [.lit (.bool false)], args := [d] }
  | _ => none }
def FnExactExportOfWrongFalsely : Prop := fnExactExportOfRow.holds Tryz.pinned (OpenSpec.ofChange fnExactExportOfWrong)

/-- 'laws.FnExactReadFile': WHATEVER THE INPUT: true; the input reads as it did. -/
def fnExactReadFileSpec : ChangeSpec := { name := "fnExactReadFile", fn := fun _ => fun
  | [d] => { results := [.lit (.bool true)], args := [d] }
  | _ => none }
def fnExactReadFileRow : OpenClaim := { program := "ytknondpcbpgpoaagreat", sum := "a29728696db4d8448fe46a53070f4b721c68a1bd4ef94c2fdcebdf905f8d9f92", func := "loop.example/g00837/laws.FnExactReadFile", spec := "fnExactReadFile", unfollowed := true, recurses := true, apart := false }
def FnExactReadFileSaid : Prop := fnExactReadFileRow.holds Tryz.pinned (OpenSpec.ofChange fnExactReadFileSpec)

/-- ITS FALSE NEIGHBOUR: 'it returns false'. Refute it at one input. -/
def fnExactReadFileWrong : ChangeSpec := { name := "fnExactReadFile", fn := fun _ => fun
  | [d] => { results := [.lit (.bool false)], args := [d] }
  | _ => none }
def FnExactReadFileWrongFalsely : Prop := fnExactReadFileRow.holds Tryz.pinned (OpenSpec.ofChange fnExactReadFileWrong)

/-- 'laws.FnExactModsOf': WHATEVER THE INPUT: true; the input reads as it did. -/
def fnExactModsOfSpec : ChangeSpec := { name := "fnExactModsOf", fn := fun _ => fun
  | [d] => { results := [.lit (.bool true)], args := [d] }
  | _ => none }
def fnExactModsOfRow : OpenClaim := { program := "ytknondpcbpgpoaagreat", sum := "a29728696db4d8448fe46a53070f4b721c68a1bd4ef94c2fdcebdf905f8d9f92", func := "loop.example/g00837/laws.FnExactModsOf", spec := "fnExactModsOf", unfollowed := true, recurses := true, apart := false }
def FnExactModsOfSaid : Prop := fnExactModsOfRow.holds Tryz.pinned (OpenSpec.ofChange fnExactModsOfSpec)

/-- ITS FALSE NEIGHBOUR: 'it returns false'. Refute it at one input. -/
def fnExactModsOfWrong : ChangeSpec := { name := "fnExactModsOf", fn := fun _ => fun
  | [d] => { results := [.lit (.bool false)], args := [d] }
  | _ => none }
def FnExactModsOfWrongFalsely : Prop := fnExactModsOfRow.holds Tryz.pinned (OpenSpec.ofChange fnExactModsOfWrong)

/-- 'laws.FnExactDropModule': WHATEVER THE INPUT: true; the input reads as it did. -/
def fnExactDropModuleSpec : ChangeSpec := { name := "fnExactDropModule", fn := fun _ => fun
  | [d1, d2] => { results := [.lit (.bool true)], args := [d1, d2] }
  | _ => none }
def fnExactDropModuleRow : OpenClaim := { program := "ytknondpcbpgpoaagreat", sum := "a29728696db4d8448fe46a53070f4b721c68a1bd4ef94c2fdcebdf905f8d9f92", func := "loop.example/g00837/laws.FnExactDropModule", spec := "fnExactDropModule", unfollowed := true, recurses := true, apart := false }
def FnExactDropModuleSaid : Prop := fnExactDropModuleRow.holds Tryz.pinned (OpenSpec.ofChange fnExactDropModuleSpec)

/-- ITS FALSE NEIGHBOUR: 'it returns false'. Refute it at one input. -/
def fnExactDropModuleWrong : ChangeSpec := { name := "fnExactDropModule", fn := fun _ => fun
  | [d1, d2] => { results := [.lit (.bool false)], args := [d1, d2] }
  | _ => none }
def FnExactDropModuleWrongFalsely : Prop := fnExactDropModuleRow.holds Tryz.pinned (OpenSpec.ofChange fnExactDropModuleWrong)

/-- 'laws.FnExactSeenIn': WHATEVER THE INPUT: true; the input reads as it did. -/
def fnExactSeenInSpec : ChangeSpec := { name := "fnExactSeenIn", fn := fun _ => fun
  | [d1, d2] => { results := [.lit (.bool true)], args := [d1, d2] }
  | _ => none }
def fnExactSeenInRow : OpenClaim := { program := "ytknondpcbpgpoaagreat", sum := "a29728696db4d8448fe46a53070f4b721c68a1bd4ef94c2fdcebdf905f8d9f92", func := "loop.example/g00837/laws.FnExactSeenIn", spec := "fnExactSeenIn", unfollowed := true, recurses := true, apart := false }
def FnExactSeenInSaid : Prop := fnExactSeenInRow.holds Tryz.pinned (OpenSpec.ofChange fnExactSeenInSpec)

/-- ITS FALSE NEIGHBOUR: 'it returns false'. Refute it at one input. -/
def fnExactSeenInWrong : ChangeSpec := { name := "fnExactSeenIn", fn := fun _ => fun
  | [d1, d2] => { results := [.lit (.bool false)], args := [d1, d2] }
  | _ => none }
def FnExactSeenInWrongFalsely : Prop := fnExactSeenInRow.holds Tryz.pinned (OpenSpec.ofChange fnExactSeenInWrong)

/-- 'laws.FnExactCheckSeen': WHATEVER THE INPUT: true; the input reads as it did. -/
def fnExactCheckSeenSpec : ChangeSpec := { name := "fnExactCheckSeen", fn := fun _ => fun
  | [d1, d2] => { results := [.lit (.bool true)], args := [d1, d2] }
  | _ => none }
def fnExactCheckSeenRow : OpenClaim := { program := "ytknondpcbpgpoaagreat", sum := "a29728696db4d8448fe46a53070f4b721c68a1bd4ef94c2fdcebdf905f8d9f92", func := "loop.example/g00837/laws.FnExactCheckSeen", spec := "fnExactCheckSeen", unfollowed := true, recurses := true, apart := false }
def FnExactCheckSeenSaid : Prop := fnExactCheckSeenRow.holds Tryz.pinned (OpenSpec.ofChange fnExactCheckSeenSpec)

/-- ITS FALSE NEIGHBOUR: 'it returns false'. Refute it at one input. -/
def fnExactCheckSeenWrong : ChangeSpec := { name := "fnExactCheckSeen", fn := fun _ => fun
  | [d1, d2] => { results := [.lit (.bool false)], args := [d1, d2] }
  | _ => none }
def FnExactCheckSeenWrongFalsely : Prop := fnExactCheckSeenRow.holds Tryz.pinned (OpenSpec.ofChange fnExactCheckSeenWrong)

/-- 'laws.FnExactStaleIn': WHATEVER THE INPUT: true; the input reads as it did. -/
def fnExactStaleInSpec : ChangeSpec := { name := "fnExactStaleIn", fn := fun _ => fun
  | [d] => { results := [.lit (.bool true)], args := [d] }
  | _ => none }
def fnExactStaleInRow : OpenClaim := { program := "ytknondpcbpgpoaagreat", sum := "a29728696db4d8448fe46a53070f4b721c68a1bd4ef94c2fdcebdf905f8d9f92", func := "loop.example/g00837/laws.FnExactStaleIn", spec := "fnExactStaleIn", unfollowed := true, recurses := true, apart := false }
def FnExactStaleInSaid : Prop := fnExactStaleInRow.holds Tryz.pinned (OpenSpec.ofChange fnExactStaleInSpec)

/-- ITS FALSE NEIGHBOUR: 'it returns false'. Refute it at one input. -/
def fnExactStaleInWrong : ChangeSpec := { name := "fnExactStaleIn", fn := fun _ => fun
  | [d] => { results := [.lit (.bool false)], args := [d] }
  | _ => none }
def FnExactStaleInWrongFalsely : Prop := fnExactStaleInRow.holds Tryz.pinned (OpenSpec.ofChange fnExactStaleInWrong)

/-- 'laws.FnExactWhyStale': WHATEVER THE INPUT: true; the input reads as it did. -/
def fnExactWhyStaleSpec : ChangeSpec := { name := "fnExactWhyStale", fn := fun _ => fun
  | [d1, d2] => { results := [.lit (.bool true)], args := [d1, d2] }
  | _ => none }
def fnExactWhyStaleRow : OpenClaim := { program := "ytknondpcbpgpoaagreat", sum := "a29728696db4d8448fe46a53070f4b721c68a1bd4ef94c2fdcebdf905f8d9f92", func := "loop.example/g00837/laws.FnExactWhyStale", spec := "fnExactWhyStale", unfollowed := true, recurses := true, apart := false }
def FnExactWhyStaleSaid : Prop := fnExactWhyStaleRow.holds Tryz.pinned (OpenSpec.ofChange fnExactWhyStaleSpec)

/-- ITS FALSE NEIGHBOUR: 'it returns false'. Refute it at one input. -/
def fnExactWhyStaleWrong : ChangeSpec := { name := "fnExactWhyStale", fn := fun _ => fun
  | [d1, d2] => { results := [.lit (.bool false)], args := [d1, d2] }
  | _ => none }
def FnExactWhyStaleWrongFalsely : Prop := fnExactWhyStaleRow.holds Tryz.pinned (OpenSpec.ofChange fnExactWhyStaleWrong)

/-- 'laws.FnExactPutFile': WHATEVER THE INPUT: true; the input reads as it did. -/
def fnExactPutFileSpec : ChangeSpec := { name := "fnExactPutFile", fn := fun _ => fun
  | [d1, d2] => { results := [.lit (.bool true)], args := [d1, d2] }
  | _ => none }
def fnExactPutFileRow : OpenClaim := { program := "ytknondpcbpgpoaagreat", sum := "a29728696db4d8448fe46a53070f4b721c68a1bd4ef94c2fdcebdf905f8d9f92", func := "loop.example/g00837/laws.FnExactPutFile", spec := "fnExactPutFile", unfollowed := true, recurses := true, apart := false }
def FnExactPutFileSaid : Prop := fnExactPutFileRow.holds Tryz.pinned (OpenSpec.ofChange fnExactPutFileSpec)

/-- ITS FALSE NEIGHBOUR: 'it returns false'. Refute it at one input. -/
def fnExactPutFileWrong : ChangeSpec := { name := "fnExactPutFile", fn := fun _ => fun
  | [d1, d2] => { results := [.lit (.bool false)], args := [d1, d2] }
  | _ => none }
def FnExactPutFileWrongFalsely : Prop := fnExactPutFileRow.holds Tryz.pinned (OpenSpec.ofChange fnExactPutFileWrong)

/- THE SECOND FORM. 'bulk': how many values and letters a reading holds, each counted each time it is reached (what is shared counts as often as it is met; a slice's spare places count too). A statement '..UptoSaid' is the law's where the arguments, and the package variables that the reading takes, are together of bulk at most 1048576: NARROWER than '..Said'. Prove '..Said' where nothing that the law and all that it calls make is longer than what came in: it says more and counts as full. Else prove '..UptoSaid'. A law counts once. -/
mutual
def uptoBulk {H : Type} : DataW H → Nat
  | .lit (.string bytes) => bytes.length + 1
  | .lit _ => 1
  | .nil => 1
  | .ptr d => uptoBulk d + 1
  | .slice elems spare => uptoBulkAll elems + uptoBulkAll spare + 1
  | .agg parts => uptoBulkAll parts + 1
  | .iface _ d => uptoBulk d + 1
  | .map entries => uptoBulkEntries entries + 1
  | .held _ => 1
def uptoBulkAll {H : Type} : List (DataW H) → Nat
  | [] => 0
  | d :: r => uptoBulk d + uptoBulkAll r
def uptoBulkEntries {H : Type} : List (Lit × DataW H) → Nat
  | [] => 0
  | x :: r => uptoBulkEntry x + uptoBulkEntries r
def uptoBulkEntry {H : Type} : Lit × DataW H → Nat
  | (.string bytes, d) => bytes.length + uptoBulk d + 1
  | (_, d) => uptoBulk d + 1
 end
def uptoSmall : (H : Type) → List (DataW H) → Bool := fun _ ds => decide (uptoBulkAll ds ≤ 1048576)
def OpenSpec.upto (s : _root_.Go.ChangeSpec) : _root_.Go.OpenSpec := { _root_.Go.OpenSpec.ofChange s with cond := some uptoSmall }

/-- 'laws.FnExactExportOf', WHERE WHAT IT READS IS OF BULK AT MOST 1048576: true; the input reads as it did. -/
def fnExactExportOfUptoRow : OpenClaim := { program := "ytknondpcbpgpoaagreat", sum := "a29728696db4d8448fe46a53070f4b721c68a1bd4ef94c2fdcebdf905f8d9f92", func := "loop.example/g00837/laws.FnExactExportOf", spec := "fnExactExportOf", unfollowed := true, recurses := true, apart := false, narrowed := true }
def FnExactExportOfUptoSaid : Prop := fnExactExportOfUptoRow.holds Tryz.pinned (OpenSpec.upto fnExactExportOfSpec)

/-- 'laws.FnExactReadFile', WHERE WHAT IT READS IS OF BULK AT MOST 1048576: true; the input reads as it did. -/
def fnExactReadFileUptoRow : OpenClaim := { program := "ytknondpcbpgpoaagreat", sum := "a29728696db4d8448fe46a53070f4b721c68a1bd4ef94c2fdcebdf905f8d9f92", func := "loop.example/g00837/laws.FnExactReadFile", spec := "fnExactReadFile", unfollowed := true, recurses := true, apart := false, narrowed := true }
def FnExactReadFileUptoSaid : Prop := fnExactReadFileUptoRow.holds Tryz.pinned (OpenSpec.upto fnExactReadFileSpec)

/-- 'laws.FnExactModsOf', WHERE WHAT IT READS IS OF BULK AT MOST 1048576: true; the input reads as it did. -/
def fnExactModsOfUptoRow : OpenClaim := { program := "ytknondpcbpgpoaagreat", sum := "a29728696db4d8448fe46a53070f4b721c68a1bd4ef94c2fdcebdf905f8d9f92", func := "loop.example/g00837/laws.FnExactModsOf", spec := "fnExactModsOf", unfollowed := true, recurses := true, apart := false, narrowed := true }
def FnExactModsOfUptoSaid : Prop := fnExactModsOfUptoRow.holds Tryz.pinned (OpenSpec.upto fnExactModsOfSpec)

/-- 'laws.FnExactDropModule', WHERE WHAT IT READS IS OF BULK AT MOST 1048576: true; the input reads as it did. -/
def fnExactDropModuleUptoRow : OpenClaim := { program := "ytknondpcbpgpoaagreat", sum := "a29728696db4d8448fe46a53070f4b721c68a1bd4ef94c2fdcebdf905f8d9f92", func := "loop.example/g00837/laws.FnExactDropModule", spec := "fnExactDropModule", unfollowed := true, recurses := true, apart := false, narrowed := true }
def FnExactDropModuleUptoSaid : Prop := fnExactDropModuleUptoRow.holds Tryz.pinned (OpenSpec.upto fnExactDropModuleSpec)

/-- 'laws.FnExactSeenIn', WHERE WHAT IT READS IS OF BULK AT MOST 1048576: true; the input reads as it did. -/
def fnExactSeenInUptoRow : OpenClaim := { program := "ytknondpcbpgpoaagreat", sum := "a29728696db4d8448fe46a53070f4b721c68a1bd4ef94c2fdcebdf905f8d9f92", func := "loop.example/g00837/laws.FnExactSeenIn", spec := "fnExactSeenIn", unfollowed := true, recurses := true, apart := false, narrowed := true }
def FnExactSeenInUptoSaid : Prop := fnExactSeenInUptoRow.holds Tryz.pinned (OpenSpec.upto fnExactSeenInSpec)

/-- 'laws.FnExactCheckSeen', WHERE WHAT IT READS IS OF BULK AT MOST 1048576: true; the input reads as it did. -/
def fnExactCheckSeenUptoRow : OpenClaim := { program := "ytknondpcbpgpoaagreat", sum := "a29728696db4d8448fe46a53070f4b721c68a1bd4ef94c2fdcebdf905f8d9f92", func := "loop.example/g00837/laws.FnExactCheckSeen", spec := "fnExactCheckSeen", unfollowed := true, recurses := true, apart := false, narrowed := true }
def FnExactCheckSeenUptoSaid : Prop := fnExactCheckSeenUptoRow.holds Tryz.pinned (OpenSpec.upto fnExactCheckSeenSpec)

/-- 'laws.FnExactStaleIn', WHERE WHAT IT READS IS OF BULK AT MOST 1048576: true; the input reads as it did. -/
def fnExactStaleInUptoRow : OpenClaim := { program := "ytknondpcbpgpoaagreat", sum := "a29728696db4d8448fe46a53070f4b721c68a1bd4ef94c2fdcebdf905f8d9f92", func := "loop.example/g00837/laws.FnExactStaleIn", spec := "fnExactStaleIn", unfollowed := true, recurses := true, apart := false, narrowed := true }
def FnExactStaleInUptoSaid : Prop := fnExactStaleInUptoRow.holds Tryz.pinned (OpenSpec.upto fnExactStaleInSpec)

/-- 'laws.FnExactWhyStale', WHERE WHAT IT READS IS OF BULK AT MOST 1048576: true; the input reads as it did. -/
def fnExactWhyStaleUptoRow : OpenClaim := { program := "ytknondpcbpgpoaagreat", sum := "a29728696db4d8448fe46a53070f4b721c68a1bd4ef94c2fdcebdf905f8d9f92", func := "loop.example/g00837/laws.FnExactWhyStale", spec := "fnExactWhyStale", unfollowed := true, recurses := true, apart := false, narrowed := true }
def FnExactWhyStaleUptoSaid : Prop := fnExactWhyStaleUptoRow.holds Tryz.pinned (OpenSpec.upto fnExactWhyStaleSpec)

/-- 'laws.FnExactPutFile', WHERE WHAT IT READS IS OF BULK AT MOST 1048576: true; the input reads as it did. -/
def fnExactPutFileUptoRow : OpenClaim := { program := "ytknondpcbpgpoaagreat", sum := "a29728696db4d8448fe46a53070f4b721c68a1bd4ef94c2fdcebdf905f8d9f92", func := "loop.example/g00837/laws.FnExactPutFile", spec := "fnExactPutFile", unfollowed := true, recurses := true, apart := false, narrowed := true }
def FnExactPutFileUptoSaid : Prop := fnExactPutFileUptoRow.holds Tryz.pinned (OpenSpec.upto fnExactPutFileSpec)

end Rows
end Go.Proofs.YtknondpcbpgpoaaGreat
