/-
  No cell of these rows narrows 'for every input' (looked for: loops, veiled, ifaces, maps, wideKeys, modest, calm, conditions, laid).
  DERIVED. THE GIVEN ROWS OF THIS SEAT. 6 by the template 'for every input the law returns true; each argument reads behind the call as it read before'; 0 by the template 'total and deterministic' (their statements: YtkojonjcikgikaaTotals.lean).
  GIVEN WITH THE SEED: the statements are not yours to turn. If you find one false, say at which input.
  Laid BY PROGRAM, IN A SANDBOX (cutbox-rows.mjs): the forced cells as the released guide's own fill.sh prints them over the translation a13e39eb9316c668… (all of the seat's roots in one cut). By AI agents, Wed Nov 11 2026. No macro, syntax, notation, axiom, sorry.
-/
import Derived.Test.YtkojonjcikgikaaChecked
import GoSem.Claim
import GoSem.ClaimJoined
import GoSem.ClaimMapViews
import Derived.JoinedTies
import Derived.KernelRfl
namespace Go.Proofs.Ytkojonjcikgikaa
/- THE CELL 'sum', in the pinned program and in every row, IS THE sha256 OF THE DUMP (.gsa) THAT YtkojonjcikgikaaProg.lean LOADS. Nothing in Lean hashes anything: it is a label: what it is worth is what the hold of that sum in a sandbox is worth. -/
noncomputable def Try.pinned : Pinned := { name := "ytkojonjcikgikaa", sum := "a13e39eb9316c668aa596adab8cb93394d5d7a61cd6937ad6873ec3d9bac0d01", checked := Try.checked }
namespace Rows
def none {H : Type} : Left H := { results := [], args := [] }

/-- 'laws.FnExactFindConjugator': WHATEVER THE INPUT: true; the input reads as it did. -/
def fnExactFindConjugatorSpec : ChangeSpec := { name := "fnExactFindConjugator", fn := fun _ => fun
  | [d1, d2] => { results := [.lit (.bool true)], args := [d1, d2] }
  | _ => none }
def fnExactFindConjugatorRow : OpenClaim := { program := "ytkojonjcikgikaa", sum := "a13e39eb9316c668aa596adab8cb93394d5d7a61cd6937ad6873ec3d9bac0d01", func := "loop.example/g00855/laws.FnExactFindConjugator", spec := "fnExactFindConjugator", recurses := true, apart := false }
def FnExactFindConjugatorSaid : Prop := fnExactFindConjugatorRow.holds Try.pinned (OpenSpec.ofChange fnExactFindConjugatorSpec)

/-- ITS FALSE NEIGHBOUR: 'it returns false'. Refute it at one input. -/
def fnExactFindConjugatorWrong : ChangeSpec := { name := "fnExactFindConjugator", fn := fun _ => fun
  | [d1, d2] => { results := [.lit (.bool false)], args := [d1, d2] }
  | _ => none }
def FnExactFindConjugatorWrongFalsely : Prop := fnExactFindConjugatorRow.holds Try.pinned (OpenSpec.ofChange fnExactFindConjugatorWrong)

/-- 'laws.FnExactCycleType': WHATEVER THE INPUT: true; the input reads as it did. -/
def fnExactCycleTypeSpec : ChangeSpec := { name := "fnExactCycleType", fn := fun _ => fun
  | [d] => { results := [.lit (.bool true)], args := [d] }
  | _ => none }
def fnExactCycleTypeRow : OpenClaim := { program := "ytkojonjcikgikaa", sum := "a13e39eb9316c668aa596adab8cb93394d5d7a61cd6937ad6873ec3d9bac0d01", func := "loop.example/g00855/laws.FnExactCycleType", spec := "fnExactCycleType", recurses := true, apart := false }
def FnExactCycleTypeSaid : Prop := fnExactCycleTypeRow.holds Try.pinned (OpenSpec.ofChange fnExactCycleTypeSpec)

/-- ITS FALSE NEIGHBOUR: 'it returns false'. Refute it at one input. -/
def fnExactCycleTypeWrong : ChangeSpec := { name := "fnExactCycleType", fn := fun _ => fun
  | [d] => { results := [.lit (.bool false)], args := [d] }
  | _ => none }
def FnExactCycleTypeWrongFalsely : Prop := fnExactCycleTypeRow.holds Try.pinned (OpenSpec.ofChange fnExactCycleTypeWrong)

/-- 'laws.FnExactSameCycleType': WHATEVER THE INPUT: true; the input reads as it did. -/
def fnExactSameCycleTypeSpec : ChangeSpec := { name := "fnExactSameCycleType", fn := fun _ => fun
  | [d1, d2] => { results := [.lit (.bool true)], args := [d1, d2] }
  | _ => none }
def fnExactSameCycleTypeRow : OpenClaim := { program := "ytkojonjcikgikaa", sum := "a13e39eb9316c668aa596adab8cb93394d5d7a61cd6937ad6873ec3d9bac0d01", func := "loop.example/g00855/laws.FnExactSameCycleType", spec := "fnExactSameCycleType", recurses := true, apart := false }
def FnExactSameCycleTypeSaid : Prop := fnExactSameCycleTypeRow.holds Try.pinned (OpenSpec.ofChange fnExactSameCycleTypeSpec)

/-- ITS FALSE NEIGHBOUR: 'it returns false'. Refute it at one input. -/
def fnExactSameCycleTypeWrong : ChangeSpec := { name := "fnExactSameCycleType", fn := fun _ => fun
  | [d1, d2] => { results := [.lit (.bool false)], args := [d1, d2] }
  | _ => none }
def FnExactSameCycleTypeWrongFalsely : Prop := fnExactSameCycleTypeRow.holds Try.pinned (OpenSpec.ofChange fnExactSameCycleTypeWrong)

/-- 'laws.FnExactSupport': WHATEVER THE INPUT: true; the input reads as it did. -/
def fnExactSupportSpec : ChangeSpec := { name := "fnExactSupport", fn := fun _ => fun
  | [d] => { results := [.lit (.bool true)], args := [d] }
  | _ => none }
def fnExactSupportRow : OpenClaim := { program := "ytkojonjcikgikaa", sum := "a13e39eb9316c668aa596adab8cb93394d5d7a61cd6937ad6873ec3d9bac0d01", func := "loop.example/g00855/laws.FnExactSupport", spec := "fnExactSupport", recurses := true, apart := false }
def FnExactSupportSaid : Prop := fnExactSupportRow.holds Try.pinned (OpenSpec.ofChange fnExactSupportSpec)

/-- ITS FALSE NEIGHBOUR: 'it returns false'. Refute it at one input. -/
def fnExactSupportWrong : ChangeSpec := { name := "fnExactSupport", fn := fun _ => fun
  | [d] => { results := [.lit (.bool false)], args := [d] }
  | _ => none }
def FnExactSupportWrongFalsely : Prop := fnExactSupportRow.holds Try.pinned (OpenSpec.ofChange fnExactSupportWrong)

/-- 'laws.FnCyclesAndSign': WHATEVER THE INPUT: true; the input reads as it did. -/
def fnCyclesAndSignSpec : ChangeSpec := { name := "fnCyclesAndSign", fn := fun _ => fun
  | [d] => { results := [.lit (.bool true)], args := [d] }
  | _ => none }
def fnCyclesAndSignRow : OpenClaim := { program := "ytkojonjcikgikaa", sum := "a13e39eb9316c668aa596adab8cb93394d5d7a61cd6937ad6873ec3d9bac0d01", func := "loop.example/g00855/laws.FnCyclesAndSign", spec := "fnCyclesAndSign", recurses := true, apart := false }
def FnCyclesAndSignSaid : Prop := fnCyclesAndSignRow.holds Try.pinned (OpenSpec.ofChange fnCyclesAndSignSpec)

/-- ITS FALSE NEIGHBOUR: 'it returns false'. Refute it at one input. -/
def fnCyclesAndSignWrong : ChangeSpec := { name := "fnCyclesAndSign", fn := fun _ => fun
  | [d] => { results := [.lit (.bool false)], args := [d] }
  | _ => none }
def FnCyclesAndSignWrongFalsely : Prop := fnCyclesAndSignRow.holds Try.pinned (OpenSpec.ofChange fnCyclesAndSignWrong)

/-- 'laws.FnExactIsPrimitive': WHATEVER THE INPUT: true; the input reads as it did. -/
def fnExactIsPrimitiveSpec : ChangeSpec := { name := "fnExactIsPrimitive", fn := fun _ => fun
  | [d1, d2] => { results := [.lit (.bool true)], args := [d1, d2] }
  | _ => none }
def fnExactIsPrimitiveRow : OpenClaim := { program := "ytkojonjcikgikaa", sum := "a13e39eb9316c668aa596adab8cb93394d5d7a61cd6937ad6873ec3d9bac0d01", func := "loop.example/g00855/laws.FnExactIsPrimitive", spec := "fnExactIsPrimitive", unfollowed := true, recurses := true, apart := false }
def FnExactIsPrimitiveSaid : Prop := fnExactIsPrimitiveRow.holds Try.pinned (OpenSpec.ofChange fnExactIsPrimitiveSpec)

/-- ITS FALSE NEIGHBOUR: 'it returns false'. Refute it at one input. -/
def fnExactIsPrimitiveWrong : ChangeSpec := { name := "fnExactIsPrimitive", fn := fun _ => fun
  | [d1, d2] => { results := [.lit (.bool false)], args := [d1, d2] }
  | _ => none }
def FnExactIsPrimitiveWrongFalsely : Prop := fnExactIsPrimitiveRow.holds Try.pinned (OpenSpec.ofChange fnExactIsPrimitiveWrong)

/- THE SECOND FORM. 'bulk': how many values and letters a reading holds, each counted each time it is reached (what is shared counts as often as it is met; a slice's spare places count too). A statement '..UptoSaid' is the law's where the arguments, and the package variables that the reading takes, are together of bulk at most 1048576: NARROWER than '..Said'. Prove '..Said' where nothing that the law and all that it calls make is longer than what came in: it says more and counts as full. Else prove '..UptoSaid'. A law counts once. -/
mutual
def uptoBulk {H : Type} : DataW H → Nat
  | .lit (.string bytes) => bytes.length + 1
  | .lit _ => 1
  | .nil => 1
  | .ptr d => uptoBulk d + 1
  | .slice elems spare => uptoBulkAll elems + uptoBulkAll spare + 1
  | .agg parts => uptoBulkAll parts + 1
  | .iface _ d => uptoBulk d + 1
  | .map entries => uptoBulkEntries entries + 1
  | .held _ => 1
def uptoBulkAll {H : Type} : List (DataW H) → Nat
  | [] => 0
  | d :: r => uptoBulk d + uptoBulkAll r
def uptoBulkEntries {H : Type} : List (Lit × DataW H) → Nat
  | [] => 0
  | x :: r => uptoBulkEntry x + uptoBulkEntries r
def uptoBulkEntry {H : Type} : Lit × DataW H → Nat
  | (.string bytes, d) => bytes.length + uptoBulk d + 1
  | (_, d) => uptoBulk d + 1
 end
def uptoSmall : (H : Type) → List (DataW H) → Bool := fun _ ds => decide (uptoBulkAll ds ≤ 1048576)
def OpenSpec.upto (s : _root_.Go.ChangeSpec) : _root_.Go.OpenSpec := { _root_.Go.OpenSpec.ofChange s with cond := some uptoSmall }

/-- 'laws.FnExactFindConjugator', WHERE WHAT IT READS IS OF BULK AT MOST 1048576: true; the input reads as it did. -/
def fnExactFindConjugatorUptoRow : OpenClaim := { program := "ytkojonjcikgikaa", sum := "a13e39eb9316c668aa596adab8cb93394d5d7a61cd6937ad6873ec3d9bac0d01", func := "loop.example/g00855/laws.FnExactFindConjugator", spec := "fnExactFindConjugator", recurses := true, apart := false, narrowed := true }
def FnExactFindConjugatorUptoSaid : Prop := fnExactFindConjugatorUptoRow.holds Try.pinned (OpenSpec.upto fnExactFindConjugatorSpec)

/-- 'laws.FnExactCycleType', WHERE WHAT IT READS IS OF BULK AT MOST 1048576: true; the input reads as it did. -/
def fnExactCycleTypeUptoRow : OpenClaim := { program := "ytkojonjcikgikaa", sum := "a13e39eb9316c668aa596adab8cb93394d5d7a61cd6937ad6873ec3d9bac0d01", func := "loop.example/g00855/laws.FnExactCycleType", spec := "fnExactCycleType", recurses := true, apart := false, narrowed := true }
def FnExactCycleTypeUptoSaid : Prop := fnExactCycleTypeUptoRow.holds Try.pinned (OpenSpec.upto fnExactCycleTypeSpec)

/-- 'laws.FnExactSameCycleType', WHERE WHAT IT READS IS OF BULK AT MOST 1048576: true; the input reads as it did. -/
def fnExactSameCycleTypeUptoRow : OpenClaim := { program := "ytkojonjcikgikaa", sum := "a13e39eb9316c668aa596adab8cb93394d5d7a61cd6937ad6873ec3d9bac0d01", func := "loop.example/g00855/laws.FnExactSameCycleType", spec := "fnExactSameCycleType", recurses := true, apart := false, narrowed := true }
def FnExactSameCycleTypeUptoSaid : Prop := fnExactSameCycleTypeUptoRow.holds Try.pinned (OpenSpec.upto fnExactSameCycleTypeSpec)

/-- 'laws.FnExactSupport', WHERE WHAT IT READS IS OF BULK AT MOST 1048576: true; the input reads as it did. -/
def fnExactSupportUptoRow : OpenClaim := { program := "ytkojonjcikgikaa", sum := "a13e39eb9316c668aa596adab8cb93394d5d7a61cd6937ad6873ec3d9bac0d01", func := "loop.example/g00855/laws.FnExactSupport", spec := "fnExactSupport", recurses := true, apart := false, narrowed := true }
def FnExactSupportUptoSaid : Prop := fnExactSupportUptoRow.holds Try.pinned (OpenSpec.upto fnExactSupportSpec)

/-- 'laws.FnCyclesAndSign', WHERE WHAT IT READS IS OF BULK AT MOST 1048576: true; the input reads as it did. -/
def fnCyclesAndSignUptoRow : OpenClaim := { program := "ytkojonjcikgikaa", sum := "a13e39eb9316c668aa596adab8cb93394d5d7a61cd6937ad6873ec3d9bac0d01", func := "loop.example/g00855/laws.FnCyclesAndSign", spec := "fnCyclesAndSign", recurses := true, apart := false, narrowed := true }
def FnCyclesAndSignUptoSaid : Prop := fnCyclesAndSignUptoRow.holds Try.pinned (OpenSpec.upto fnCyclesAndSignSpec)

/-- 'laws.FnExactIsPrimitive', WHERE WHAT IT READS IS OF BULK AT MOST 1048576: true; the input reads as it did. -/
def fnExactIsPrimitiveUptoRow : OpenClaim := { program := "ytkojonjcikgikaa", sum := "a13e39eb9316c668aa596adab8cb93394d5d7a61cd6937ad6873ec3d9bac0d01", func := "loop.example/g00855/laws.FnExactIsPrimitive", spec := "fnExactIsPrimitive", unfollowed := true, recurses := true, apart := false, narrowed := true }
def FnExactIsPrimitiveUptoSaid : Prop := fnExactIsPrimitiveUptoRow.holds Try.pinned (OpenSpec.upto fnExactIsPrimitiveSpec)

end Rows
end Go.Proofs.Ytkojonjcikgikaa
