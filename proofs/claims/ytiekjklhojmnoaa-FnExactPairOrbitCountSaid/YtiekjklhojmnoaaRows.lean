/-
  No cell of these rows narrows 'for every input' (looked for: loops, veiled, ifaces, maps, wideKeys, modest, calm, conditions, laid).
  DERIVED. THE GIVEN ROWS OF THIS SEAT. 12 by the template 'for every input the law returns true; each argument reads behind the call as it read before'; 0 by the template 'total and deterministic' (their statements: YtiekjklhojmnoaaTotals.lean).
  GIVEN WITH THE SEED: the statements are not yours to turn. If you find one false, say at which input.
  Laid BY PROGRAM, IN A SANDBOX (cutbox-rows.mjs): the forced cells as the released guide's own fill.sh prints them over the translation 62a9a57c4aa4dccb… (all of the seat's roots in one cut). By AI agents, Wed Nov 11 2026. No macro, syntax, notation, axiom, sorry.
-/
import Derived.Test.YtiekjklhojmnoaaChecked
import GoSem.Claim
import GoSem.ClaimJoined
import GoSem.ClaimMapViews
import Derived.JoinedTies
import Derived.KernelRfl
namespace Go.Proofs.Ytiekjklhojmnoaa
/- THE CELL 'sum', in the pinned program and in every row, IS THE sha256 OF THE DUMP (.gsa) THAT YtiekjklhojmnoaaProg.lean LOADS. Nothing in Lean hashes anything: it is a label: what it is worth is what the hold of that sum in a sandbox is worth. -/
noncomputable def Try.pinned : Pinned := { name := "ytiekjklhojmnoaa", sum := "62a9a57c4aa4dccb486d556feb461835b7a1b55a9bea5727b0f8c69290b0aa76", checked := Try.checked }
namespace Rows
def none {H : Type} : Left H := { results := [], args := [] }

/-- 'laws.FnExactEvaluateWord': WHATEVER THE INPUT: true; the input reads as it did. -/
def fnExactEvaluateWordSpec : ChangeSpec := { name := "fnExactEvaluateWord", fn := fun _ => fun
  | [d1, d2, d3] => { results := [.lit (.bool true)], args := [d1, d2, d3] }
  | _ => none }
def fnExactEvaluateWordRow : OpenClaim := { program := "ytiekjklhojmnoaa", sum := "62a9a57c4aa4dccb486d556feb461835b7a1b55a9bea5727b0f8c69290b0aa76", func := "loop.example/g00855/laws.FnExactEvaluateWord", spec := "fnExactEvaluateWord", unfollowed := true, recurses := true, apart := false }
def FnExactEvaluateWordSaid : Prop := fnExactEvaluateWordRow.holds Try.pinned (OpenSpec.ofChange fnExactEvaluateWordSpec)

/-- ITS FALSE NEIGHBOUR: 'it returns false'. Refute it at one input. -/
def fnExactEvaluateWordWrong : ChangeSpec := { name := "fnExactEvaluateWord", fn := fun _ => fun
  | [d1, d2, d3] => { results := [.lit (.bool false)], args := [d1, d2, d3] }
  | _ => none }
def FnExactEvaluateWordWrongFalsely : Prop := fnExactEvaluateWordRow.holds Try.pinned (OpenSpec.ofChange fnExactEvaluateWordWrong)

/-- 'laws.FnExactShortestWordTo': WHATEVER THE INPUT: true; the input reads as it did. -/
def fnExactShortestWordToSpec : ChangeSpec := { name := "fnExactShortestWordTo", fn := fun _ => fun
  | [d1, d2, d3, d4] => { results := [.lit (.bool true)], args := [d1, d2, d3, d4] }
  | _ => none }
def fnExactShortestWordToRow : OpenClaim := { program := "ytiekjklhojmnoaa", sum := "62a9a57c4aa4dccb486d556feb461835b7a1b55a9bea5727b0f8c69290b0aa76", func := "loop.example/g00855/laws.FnExactShortestWordTo", spec := "fnExactShortestWordTo", unfollowed := true, recurses := true, apart := false }
def FnExactShortestWordToSaid : Prop := fnExactShortestWordToRow.holds Try.pinned (OpenSpec.ofChange fnExactShortestWordToSpec)

/-- ITS FALSE NEIGHBOUR: 'it returns false'. Refute it at one input. -/
def fnExactShortestWordToWrong : ChangeSpec := { name := "fnExactShortestWordTo", fn := fun _ => fun
  | [d1, d2, d3, d4] => { results := [.lit (.bool false)], args := [d1, d2, d3, d4] }
  | _ => none }
def FnExactShortestWordToWrongFalsely : Prop := fnExactShortestWordToRow.holds Try.pinned (OpenSpec.ofChange fnExactShortestWordToWrong)

/-- 'laws.FnExactIsTransitive': WHATEVER THE INPUT: true; the input reads as it did. -/
def fnExactIsTransitiveSpec : ChangeSpec := { name := "fnExactIsTransitive", fn := fun _ => fun
  | [d1, d2] => { results := [.lit (.bool true)], args := [d1, d2] }
  | _ => none }
def fnExactIsTransitiveRow : OpenClaim := { program := "ytiekjklhojmnoaa", sum := "62a9a57c4aa4dccb486d556feb461835b7a1b55a9bea5727b0f8c69290b0aa76", func := "loop.example/g00855/laws.FnExactIsTransitive", spec := "fnExactIsTransitive", unfollowed := true, recurses := true, apart := false }
def FnExactIsTransitiveSaid : Prop := fnExactIsTransitiveRow.holds Try.pinned (OpenSpec.ofChange fnExactIsTransitiveSpec)

/-- ITS FALSE NEIGHBOUR: 'it returns false'. Refute it at one input. -/
def fnExactIsTransitiveWrong : ChangeSpec := { name := "fnExactIsTransitive", fn := fun _ => fun
  | [d1, d2] => { results := [.lit (.bool false)], args := [d1, d2] }
  | _ => none }
def FnExactIsTransitiveWrongFalsely : Prop := fnExactIsTransitiveRow.holds Try.pinned (OpenSpec.ofChange fnExactIsTransitiveWrong)

/-- 'laws.FnExactOrbit': WHATEVER THE INPUT: true; the input reads as it did. -/
def fnExactOrbitSpec : ChangeSpec := { name := "fnExactOrbit", fn := fun _ => fun
  | [d1, d2, d3] => { results := [.lit (.bool true)], args := [d1, d2, d3] }
  | _ => none }
def fnExactOrbitRow : OpenClaim := { program := "ytiekjklhojmnoaa", sum := "62a9a57c4aa4dccb486d556feb461835b7a1b55a9bea5727b0f8c69290b0aa76", func := "loop.example/g00855/laws.FnExactOrbit", spec := "fnExactOrbit", unfollowed := true, recurses := true, apart := false }
def FnExactOrbitSaid : Prop := fnExactOrbitRow.holds Try.pinned (OpenSpec.ofChange fnExactOrbitSpec)

/-- ITS FALSE NEIGHBOUR: 'it returns false'. Refute it at one input. -/
def fnExactOrbitWrong : ChangeSpec := { name := "fnExactOrbit", fn := fun _ => fun
  | [d1, d2, d3] => { results := [.lit (.bool false)], args := [d1, d2, d3] }
  | _ => none }
def FnExactOrbitWrongFalsely : Prop := fnExactOrbitRow.holds Try.pinned (OpenSpec.ofChange fnExactOrbitWrong)

/-- 'laws.FnExactFixedPoints': WHATEVER THE INPUT: true; the input reads as it did. -/
def fnExactFixedPointsSpec : ChangeSpec := { name := "fnExactFixedPoints", fn := fun _ => fun
  | [d1, d2] => { results := [.lit (.bool true)], args := [d1, d2] }
  | _ => none }
def fnExactFixedPointsRow : OpenClaim := { program := "ytiekjklhojmnoaa", sum := "62a9a57c4aa4dccb486d556feb461835b7a1b55a9bea5727b0f8c69290b0aa76", func := "loop.example/g00855/laws.FnExactFixedPoints", spec := "fnExactFixedPoints", unfollowed := true, recurses := true, apart := false }
def FnExactFixedPointsSaid : Prop := fnExactFixedPointsRow.holds Try.pinned (OpenSpec.ofChange fnExactFixedPointsSpec)

/-- ITS FALSE NEIGHBOUR: 'it returns false'. Refute it at one input. -/
def fnExactFixedPointsWrong : ChangeSpec := { name := "fnExactFixedPoints", fn := fun _ => fun
  | [d1, d2] => { results := [.lit (.bool false)], args := [d1, d2] }
  | _ => none }
def FnExactFixedPointsWrongFalsely : Prop := fnExactFixedPointsRow.holds Try.pinned (OpenSpec.ofChange fnExactFixedPointsWrong)

/-- 'laws.FnExactOrbits': WHATEVER THE INPUT: true; the input reads as it did. -/
def fnExactOrbitsSpec : ChangeSpec := { name := "fnExactOrbits", fn := fun _ => fun
  | [d1, d2] => { results := [.lit (.bool true)], args := [d1, d2] }
  | _ => none }
def fnExactOrbitsRow : OpenClaim := { program := "ytiekjklhojmnoaa", sum := "62a9a57c4aa4dccb486d556feb461835b7a1b55a9bea5727b0f8c69290b0aa76", func := "loop.example/g00855/laws.FnExactOrbits", spec := "fnExactOrbits", unfollowed := true, recurses := true, apart := false }
def FnExactOrbitsSaid : Prop := fnExactOrbitsRow.holds Try.pinned (OpenSpec.ofChange fnExactOrbitsSpec)

/-- ITS FALSE NEIGHBOUR: 'it returns false'. Refute it at one input. -/
def fnExactOrbitsWrong : ChangeSpec := { name := "fnExactOrbits", fn := fun _ => fun
  | [d1, d2] => { results := [.lit (.bool false)], args := [d1, d2] }
  | _ => none }
def FnExactOrbitsWrongFalsely : Prop := fnExactOrbitsRow.holds Try.pinned (OpenSpec.ofChange fnExactOrbitsWrong)

/-- 'laws.FnExactPairOrbitCount': WHATEVER THE INPUT: true; the input reads as it did. -/
def fnExactPairOrbitCountSpec : ChangeSpec := { name := "fnExactPairOrbitCount", fn := fun _ => fun
  | [d1, d2] => { results := [.lit (.bool true)], args := [d1, d2] }
  | _ => none }
def fnExactPairOrbitCountRow : OpenClaim := { program := "ytiekjklhojmnoaa", sum := "62a9a57c4aa4dccb486d556feb461835b7a1b55a9bea5727b0f8c69290b0aa76", func := "loop.example/g00855/laws.FnExactPairOrbitCount", spec := "fnExactPairOrbitCount", unfollowed := true, recurses := true, apart := false }
def FnExactPairOrbitCountSaid : Prop := fnExactPairOrbitCountRow.holds Try.pinned (OpenSpec.ofChange fnExactPairOrbitCountSpec)

/-- ITS FALSE NEIGHBOUR: 'it returns false'. Refute it at one input. -/
def fnExactPairOrbitCountWrong : ChangeSpec := { name := "fnExactPairOrbitCount", fn := fun _ => fun
  | [d1, d2] => { results := [.lit (.bool false)], args := [d1, d2] }
  | _ => none }
def FnExactPairOrbitCountWrongFalsely : Prop := fnExactPairOrbitCountRow.holds Try.pinned (OpenSpec.ofChange fnExactPairOrbitCountWrong)

/-- 'laws.FnExactMinimalBlockSystem': WHATEVER THE INPUT: true; the input reads as it did. -/
def fnExactMinimalBlockSystemSpec : ChangeSpec := { name := "fnExactMinimalBlockSystem", fn := fun _ => fun
  | [d1, d2, d3, d4] => { results := [.lit (.bool true)], args := [d1, d2, d3, d4] }
  | _ => none }
def fnExactMinimalBlockSystemRow : OpenClaim := { program := "ytiekjklhojmnoaa", sum := "62a9a57c4aa4dccb486d556feb461835b7a1b55a9bea5727b0f8c69290b0aa76", func := "loop.example/g00855/laws.FnExactMinimalBlockSystem", spec := "fnExactMinimalBlockSystem", unfollowed := true, recurses := true, apart := false }
def FnExactMinimalBlockSystemSaid : Prop := fnExactMinimalBlockSystemRow.holds Try.pinned (OpenSpec.ofChange fnExactMinimalBlockSystemSpec)

/-- ITS FALSE NEIGHBOUR: 'it returns false'. Refute it at one input. -/
def fnExactMinimalBlockSystemWrong : ChangeSpec := { name := "fnExactMinimalBlockSystem", fn := fun _ => fun
  | [d1, d2, d3, d4] => { results := [.lit (.bool false)], args := [d1, d2, d3, d4] }
  | _ => none }
def FnExactMinimalBlockSystemWrongFalsely : Prop := fnExactMinimalBlockSystemRow.holds Try.pinned (OpenSpec.ofChange fnExactMinimalBlockSystemWrong)

/-- 'laws.FnExactIsBlockSystem': WHATEVER THE INPUT: true; the input reads as it did. -/
def fnExactIsBlockSystemSpec : ChangeSpec := { name := "fnExactIsBlockSystem", fn := fun _ => fun
  | [d1, d2, d3] => { results := [.lit (.bool true)], args := [d1, d2, d3] }
  | _ => none }
def fnExactIsBlockSystemRow : OpenClaim := { program := "ytiekjklhojmnoaa", sum := "62a9a57c4aa4dccb486d556feb461835b7a1b55a9bea5727b0f8c69290b0aa76", func := "loop.example/g00855/laws.FnExactIsBlockSystem", spec := "fnExactIsBlockSystem", unfollowed := true, recurses := true, apart := false }
def FnExactIsBlockSystemSaid : Prop := fnExactIsBlockSystemRow.holds Try.pinned (OpenSpec.ofChange fnExactIsBlockSystemSpec)

/-- ITS FALSE NEIGHBOUR: 'it returns false'. Refute it at one input. -/
def fnExactIsBlockSystemWrong : ChangeSpec := { name := "fnExactIsBlockSystem", fn := fun _ => fun
  | [d1, d2, d3] => { results := [.lit (.bool false)], args := [d1, d2, d3] }
  | _ => none }
def FnExactIsBlockSystemWrongFalsely : Prop := fnExactIsBlockSystemRow.holds Try.pinned (OpenSpec.ofChange fnExactIsBlockSystemWrong)

/-- 'laws.FnExactJoinBlockSystems': WHATEVER THE INPUT: true; the input reads as it did. -/
def fnExactJoinBlockSystemsSpec : ChangeSpec := { name := "fnExactJoinBlockSystems", fn := fun _ => fun
  | [d1, d2, d3] => { results := [.lit (.bool true)], args := [d1, d2, d3] }
  | _ => none }
def fnExactJoinBlockSystemsRow : OpenClaim := { program := "ytiekjklhojmnoaa", sum := "62a9a57c4aa4dccb486d556feb461835b7a1b55a9bea5727b0f8c69290b0aa76", func := "loop.example/g00855/laws.FnExactJoinBlockSystems", spec := "fnExactJoinBlockSystems", apart := false }
def FnExactJoinBlockSystemsSaid : Prop := fnExactJoinBlockSystemsRow.holds Try.pinned (OpenSpec.ofChange fnExactJoinBlockSystemsSpec)

/-- ITS FALSE NEIGHBOUR: 'it returns false'. Refute it at one input. -/
def fnExactJoinBlockSystemsWrong : ChangeSpec := { name := "fnExactJoinBlockSystems", fn := fun _ => fun
  | [d1, d2, d3] => { results := [.lit (.bool false)], args := [d1, d2, d3] }
  | _ => none }
def FnExactJoinBlockSystemsWrongFalsely : Prop := fnExactJoinBlockSystemsRow.holds Try.pinned (OpenSpec.ofChange fnExactJoinBlockSystemsWrong)

/-- 'laws.FnExactBlockAction': WHATEVER THE INPUT: true; the input reads as it did. -/
def fnExactBlockActionSpec : ChangeSpec := { name := "fnExactBlockAction", fn := fun _ => fun
  | [d1, d2, d3] => { results := [.lit (.bool true)], args := [d1, d2, d3] }
  | _ => none }
def fnExactBlockActionRow : OpenClaim := { program := "ytiekjklhojmnoaa", sum := "62a9a57c4aa4dccb486d556feb461835b7a1b55a9bea5727b0f8c69290b0aa76", func := "loop.example/g00855/laws.FnExactBlockAction", spec := "fnExactBlockAction", unfollowed := true, recurses := true, apart := false }
def FnExactBlockActionSaid : Prop := fnExactBlockActionRow.holds Try.pinned (OpenSpec.ofChange fnExactBlockActionSpec)

/-- ITS FALSE NEIGHBOUR: 'it returns false'. Refute it at one input. -/
def fnExactBlockActionWrong : ChangeSpec := { name := "fnExactBlockAction", fn := fun _ => fun
  | [d1, d2, d3] => { results := [.lit (.bool false)], args := [d1, d2, d3] }
  | _ => none }
def FnExactBlockActionWrongFalsely : Prop := fnExactBlockActionRow.holds Try.pinned (OpenSpec.ofChange fnExactBlockActionWrong)

/-- 'laws.FnExactMinimalBlockSystems': WHATEVER THE INPUT: true; the input reads as it did. -/
def fnExactMinimalBlockSystemsSpec : ChangeSpec := { name := "fnExactMinimalBlockSystems", fn := fun _ => fun
  | [d1, d2] => { results := [.lit (.bool true)], args := [d1, d2] }
  | _ => none }
def fnExactMinimalBlockSystemsRow : OpenClaim := { program := "ytiekjklhojmnoaa", sum := "62a9a57c4aa4dccb486d556feb461835b7a1b55a9bea5727b0f8c69290b0aa76", func := "loop.example/g00855/laws.FnExactMinimalBlockSystems", spec := "fnExactMinimalBlockSystems", unfollowed := true, recurses := true, apart := false }
def FnExactMinimalBlockSystemsSaid : Prop := fnExactMinimalBlockSystemsRow.holds Try.pinned (OpenSpec.ofChange fnExactMinimalBlockSystemsSpec)

/-- ITS FALSE NEIGHBOUR: 'it returns false'. Refute it at one input. -/
def fnExactMinimalBlockSystemsWrong : ChangeSpec := { name := "fnExactMinimalBlockSystems", fn := fun _ => fun
  | [d1, d2] => { results := [.lit (.bool false)], args := [d1, d2] }
  | _ => none }
def FnExactMinimalBlockSystemsWrongFalsely : Prop := fnExactMinimalBlockSystemsRow.holds Try.pinned (OpenSpec.ofChange fnExactMinimalBlockSystemsWrong)

/- THE SECOND FORM. 'bulk': how many values and letters a reading holds, each counted each time it is reached (what is shared counts as often as it is met; a slice's spare places count too). A statement '..UptoSaid' is the law's where the arguments, and the package variables that the reading takes, are together of bulk at most 1048576: NARROWER than '..Said'. Prove '..Said' where nothing that the law and all that it calls make is longer than what came in: it says more and counts as full. Else prove '..UptoSaid'. A law counts once. -/
mutual
def uptoBulk {H : Type} : DataW H → Nat
  | .lit (.string bytes) => bytes.length + 1
  | .lit _ => 1
  | .nil => 1
  | .ptr d => uptoBulk d + 1
  | .slice elems spare => uptoBulkAll elems + uptoBulkAll spare + 1
  | .agg parts => uptoBulkAll parts + 1
  | .iface _ d => uptoBulk d + 1
  | .map entries => uptoBulkEntries entries + 1
  | .held _ => 1
def uptoBulkAll {H : Type} : List (DataW H) → Nat
  | [] => 0
  | d :: r => uptoBulk d + uptoBulkAll r
def uptoBulkEntries {H : Type} : List (Lit × DataW H) → Nat
  | [] => 0
  | x :: r => uptoBulkEntry x + uptoBulkEntries r
def uptoBulkEntry {H : Type} : Lit × DataW H → Nat
  | (.string bytes, d) => bytes.length + uptoBulk d + 1
  | (_, d) => uptoBulk d + 1
 end
def uptoSmall : (H : Type) → List (DataW H) → Bool := fun _ ds => decide (uptoBulkAll ds ≤ 1048576)
def OpenSpec.upto (s : _root_.Go.ChangeSpec) : _root_.Go.OpenSpec := { _root_.Go.OpenSpec.ofChange s with cond := some uptoSmall }

/-- 'laws.FnExactEvaluateWord', WHERE WHAT IT READS IS OF BULK AT MOST 1048576: true; the input reads as it did. -/
def fnExactEvaluateWordUptoRow : OpenClaim := { program := "ytiekjklhojmnoaa", sum := "62a9a57c4aa4dccb486d556feb461835b7a1b55a9bea5727b0f8c69290b0aa76", func := "loop.example/g00855/laws.FnExactEvaluateWord", spec := "fnExactEvaluateWord", unfollowed := true, recurses := true, apart := false, narrowed := true }
def FnExactEvaluateWordUptoSaid : Prop := fnExactEvaluateWordUptoRow.holds Try.pinned (OpenSpec.upto fnExactEvaluateWordSpec)

/-- 'laws.FnExactShortestWordTo', WHERE WHAT IT READS IS OF BULK AT MOST 1048576: true; the input reads as it did. -/
def fnExactShortestWordToUptoRow : OpenClaim := { program := "ytiekjklhojmnoaa", sum := "62a9a57c4aa4dccb486d556feb461835b7a1b55a9bea5727b0f8c69290b0aa76", func := "loop.example/g00855/laws.FnExactShortestWordTo", spec := "fnExactShortestWordTo", unfollowed := true, recurses := true, apart := false, narrowed := true }
def FnExactShortestWordToUptoSaid : Prop := fnExactShortestWordToUptoRow.holds Try.pinned (OpenSpec.upto fnExactShortestWordToSpec)

/-- 'laws.FnExactIsTransitive', WHERE WHAT IT READS IS OF BULK AT MOST 1048576: true; the input reads as it did. -/
def fnExactIsTransitiveUptoRow : OpenClaim := { program := "ytiekjklhojmnoaa", sum := "62a9a57c4aa4dccb486d556feb461835b7a1b55a9bea5727b0f8c69290b0aa76", func := "loop.example/g00855/laws.FnExactIsTransitive", spec := "fnExactIsTransitive", unfollowed := true, recurses := true, apart := false, narrowed := true }
def FnExactIsTransitiveUptoSaid : Prop := fnExactIsTransitiveUptoRow.holds Try.pinned (OpenSpec.upto fnExactIsTransitiveSpec)

/-- 'laws.FnExactOrbit', WHERE WHAT IT READS IS OF BULK AT MOST 1048576: true; the input reads as it did. -/
def fnExactOrbitUptoRow : OpenClaim := { program := "ytiekjklhojmnoaa", sum := "62a9a57c4aa4dccb486d556feb461835b7a1b55a9bea5727b0f8c69290b0aa76", func := "loop.example/g00855/laws.FnExactOrbit", spec := "fnExactOrbit", unfollowed := true, recurses := true, apart := false, narrowed := true }
def FnExactOrbitUptoSaid : Prop := fnExactOrbitUptoRow.holds Try.pinned (OpenSpec.upto fnExactOrbitSpec)

/-- 'laws.FnExactFixedPoints', WHERE WHAT IT READS IS OF BULK AT MOST 1048576: true; the input reads as it did. -/
def fnExactFixedPointsUptoRow : OpenClaim := { program := "ytiekjklhojmnoaa", sum := "62a9a57c4aa4dccb486d556feb461835b7a1b55a9bea5727b0f8c69290b0aa76", func := "loop.example/g00855/laws.FnExactFixedPoints", spec := "fnExactFixedPoints", unfollowed := true, recurses := true, apart := false, narrowed := true }
def FnExactFixedPointsUptoSaid : Prop := fnExactFixedPointsUptoRow.holds Try.pinned (OpenSpec.upto fnExactFixedPointsSpec)

/-- 'laws.FnExactOrbits', WHERE WHAT IT READS IS OF BULK AT MOST 1048576: true; the input reads as it did. -/
def fnExactOrbitsUptoRow : OpenClaim := { program := "ytiekjklhojmnoaa", sum := "62a9a57c4aa4dccb486d556feb461835b7a1b55a9bea5727b0f8c69290b0aa76", func := "loop.example/g00855/laws.FnExactOrbits", spec := "fnExactOrbits", unfollowed := true, recurses := true, apart := false, narrowed := true }
def FnExactOrbitsUptoSaid : Prop := fnExactOrbitsUptoRow.holds Try.pinned (OpenSpec.upto fnExactOrbitsSpec)

/-- 'laws.FnExactPairOrbitCount', WHERE WHAT IT READS IS OF BULK AT MOST 1048576: true; the input reads as it did. -/
def fnExactPairOrbitCountUptoRow : OpenClaim := { program := "ytiekjklhojmnoaa", sum := "62a9a57c4aa4dccb486d556feb461835b7a1b55a9bea5727b0f8c69290b0aa76", func := "loop.example/g00855/laws.FnExactPairOrbitCount", spec := "fnExactPairOrbitCount", unfollowed := true, recurses := true, apart := false, narrowed := true }
def FnExactPairOrbitCountUptoSaid : Prop := fnExactPairOrbitCountUptoRow.holds Try.pinned (OpenSpec.upto fnExactPairOrbitCountSpec)

/-- 'laws.FnExactMinimalBlockSystem', WHERE WHAT IT READS IS OF BULK AT MOST 1048576: true; the input reads as it did. -/
def fnExactMinimalBlockSystemUptoRow : OpenClaim := { program := "ytiekjklhojmnoaa", sum := "62a9a57c4aa4dccb486d556feb461835b7a1b55a9bea5727b0f8c69290b0aa76", func := "loop.example/g00855/laws.FnExactMinimalBlockSystem", spec := "fnExactMinimalBlockSystem", unfollowed := true, recurses := true, apart := false, narrowed := true }
def FnExactMinimalBlockSystemUptoSaid : Prop := fnExactMinimalBlockSystemUptoRow.holds Try.pinned (OpenSpec.upto fnExactMinimalBlockSystemSpec)

/-- 'laws.FnExactIsBlockSystem', WHERE WHAT IT READS IS OF BULK AT MOST 1048576: true; the input reads as it did. -/
def fnExactIsBlockSystemUptoRow : OpenClaim := { program := "ytiekjklhojmnoaa", sum := "62a9a57c4aa4dccb486d556feb461835b7a1b55a9bea5727b0f8c69290b0aa76", func := "loop.example/g00855/laws.FnExactIsBlockSystem", spec := "fnExactIsBlockSystem", unfollowed := true, recurses := true, apart := false, narrowed := true }
def FnExactIsBlockSystemUptoSaid : Prop := fnExactIsBlockSystemUptoRow.holds Try.pinned (OpenSpec.upto fnExactIsBlockSystemSpec)

/-- 'laws.FnExactJoinBlockSystems', WHERE WHAT IT READS IS OF BULK AT MOST 1048576: true; the input reads as it did. -/
def fnExactJoinBlockSystemsUptoRow : OpenClaim := { program := "ytiekjklhojmnoaa", sum := "62a9a57c4aa4dccb486d556feb461835b7a1b55a9bea5727b0f8c69290b0aa76", func := "loop.example/g00855/laws.FnExactJoinBlockSystems", spec := "fnExactJoinBlockSystems", apart := false, narrowed := true }
def FnExactJoinBlockSystemsUptoSaid : Prop := fnExactJoinBlockSystemsUptoRow.holds Try.pinned (OpenSpec.upto fnExactJoinBlockSystemsSpec)

/-- 'laws.FnExactBlockAction', WHERE WHAT IT READS IS OF BULK AT MOST 1048576: true; the input reads as it did. -/
def fnExactBlockActionUptoRow : OpenClaim := { program := "ytiekjklhojmnoaa", sum := "62a9a57c4aa4dccb486d556feb461835b7a1b55a9bea5727b0f8c69290b0aa76", func := "loop.example/g00855/laws.FnExactBlockAction", spec := "fnExactBlockAction", unfollowed := true, recurses := true, apart := false, narrowed := true }
def FnExactBlockActionUptoSaid : Prop := fnExactBlockActionUptoRow.holds Try.pinned (OpenSpec.upto fnExactBlockActionSpec)

/-- 'laws.FnExactMinimalBlockSystems', WHERE WHAT IT READS IS OF BULK AT MOST 1048576: true; the input reads as it did. -/
def fnExactMinimalBlockSystemsUptoRow : OpenClaim := { program := "ytiekjklhojmnoaa", sum := "62a9a57c4aa4dccb486d556feb461835b7a1b55a9bea5727b0f8c69290b0aa76", func := "loop.example/g00855/laws.FnExactMinimalBlockSystems", spec := "fnExactMinimalBlockSystems", unfollowed := true, recurses := true, apart := false, narrowed := true }
def FnExactMinimalBlockSystemsUptoSaid : Prop := fnExactMinimalBlockSystemsUptoRow.holds Try.pinned (OpenSpec.upto fnExactMinimalBlockSystemsSpec)

end Rows
end Go.Proofs.Ytiekjklhojmnoaa
