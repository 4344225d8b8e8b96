/-
  No cell of these rows narrows 'for every input' (looked for: loops, veiled, ifaces, maps, wideKeys, modest, calm, conditions, laid).
  DERIVED. THE GIVEN ROWS OF THIS SEAT. 12 by the template 'for every input the law returns true; each argument reads behind the call as it read before'; 0 by the template 'total and deterministic' (their statements: YtockombopcjldaaTotals.lean).
  GIVEN WITH THE SEED: the statements are not yours to turn. If you find one false, say at which input.
  Laid BY PROGRAM, IN A SANDBOX (cutbox-rows.mjs): the forced cells as the released guide's own fill.sh prints them over the translation 8349dcc19d1b974b… (all of the seat's roots in one cut). By AI agents, Wed Nov 11 2026. No macro, syntax, notation, axiom, sorry.
-/
import Derived.Test.YtockombopcjldaaChecked
import GoSem.Claim
import GoSem.ClaimJoined
import GoSem.ClaimMapViews
import Derived.JoinedTies
import Derived.KernelRfl
namespace Go.Proofs.Ytockombopcjldaa
/- THE CELL 'sum', in the pinned program and in every row, IS THE sha256 OF THE DUMP (.gsa) THAT YtockombopcjldaaProg.lean LOADS. Nothing in Lean hashes anything: it is a label: what it is worth is what the hold of that sum in a sandbox is worth. -/
noncomputable def Try.pinned : Pinned := { name := "ytockombopcjldaa", sum := "8349dcc19d1b974b11ecaa720038682a010e22e74a09c9965f7a1dea136f9727", checked := Try.checked }
namespace Rows
def none {H : Type} : Left H := { results := [], args := [] }

/-- 'laws.FnExactElementOrder': WHATEVER THE INPUT: true; the input reads as it did. -/
def fnExactElementOrderSpec : ChangeSpec := { name := "fnExactElementOrder", fn := fun _ => fun
  | [d] => { results := [.lit (.bool true)], args := [d] }
  | _ => none }
def fnExactElementOrderRow : OpenClaim := { program := "ytockombopcjldaa", sum := "8349dcc19d1b974b11ecaa720038682a010e22e74a09c9965f7a1dea136f9727", func := "loop.example/g00855/laws.FnExactElementOrder", spec := "fnExactElementOrder", apart := false }
def FnExactElementOrderSaid : Prop := fnExactElementOrderRow.holds Try.pinned (OpenSpec.ofChange fnExactElementOrderSpec)

/-- ITS FALSE NEIGHBOUR: 'it returns false'. Refute it at one input. -/
def fnExactElementOrderWrong : ChangeSpec := { name := "fnExactElementOrder", fn := fun _ => fun
  | [d] => { results := [.lit (.bool false)], args := [d] }
  | _ => none }
def FnExactElementOrderWrongFalsely : Prop := fnExactElementOrderRow.holds Try.pinned (OpenSpec.ofChange fnExactElementOrderWrong)

/-- 'laws.FnExactConjugate': WHATEVER THE INPUT: true; the input reads as it did. -/
def fnExactConjugateSpec : ChangeSpec := { name := "fnExactConjugate", fn := fun _ => fun
  | [d1, d2] => { results := [.lit (.bool true)], args := [d1, d2] }
  | _ => none }
def fnExactConjugateRow : OpenClaim := { program := "ytockombopcjldaa", sum := "8349dcc19d1b974b11ecaa720038682a010e22e74a09c9965f7a1dea136f9727", func := "loop.example/g00855/laws.FnExactConjugate", spec := "fnExactConjugate", apart := false }
def FnExactConjugateSaid : Prop := fnExactConjugateRow.holds Try.pinned (OpenSpec.ofChange fnExactConjugateSpec)

/-- ITS FALSE NEIGHBOUR: 'it returns false'. Refute it at one input. -/
def fnExactConjugateWrong : ChangeSpec := { name := "fnExactConjugate", fn := fun _ => fun
  | [d1, d2] => { results := [.lit (.bool false)], args := [d1, d2] }
  | _ => none }
def FnExactConjugateWrongFalsely : Prop := fnExactConjugateRow.holds Try.pinned (OpenSpec.ofChange fnExactConjugateWrong)

/-- 'laws.FnExactSign': WHATEVER THE INPUT: true; the input reads as it did. -/
def fnExactSignSpec : ChangeSpec := { name := "fnExactSign", fn := fun _ => fun
  | [d] => { results := [.lit (.bool true)], args := [d] }
  | _ => none }
def fnExactSignRow : OpenClaim := { program := "ytockombopcjldaa", sum := "8349dcc19d1b974b11ecaa720038682a010e22e74a09c9965f7a1dea136f9727", func := "loop.example/g00855/laws.FnExactSign", spec := "fnExactSign", apart := false }
def FnExactSignSaid : Prop := fnExactSignRow.holds Try.pinned (OpenSpec.ofChange fnExactSignSpec)

/-- ITS FALSE NEIGHBOUR: 'it returns false'. Refute it at one input. -/
def fnExactSignWrong : ChangeSpec := { name := "fnExactSign", fn := fun _ => fun
  | [d] => { results := [.lit (.bool false)], args := [d] }
  | _ => none }
def FnExactSignWrongFalsely : Prop := fnExactSignRow.holds Try.pinned (OpenSpec.ofChange fnExactSignWrong)

/-- 'laws.FnExactConcatWords': WHATEVER THE INPUT: true; the input reads as it did. -/
def fnExactConcatWordsSpec : ChangeSpec := { name := "fnExactConcatWords", fn := fun _ => fun
  | [d1, d2] => { results := [.lit (.bool true)], args := [d1, d2] }
  | _ => none }
def fnExactConcatWordsRow : OpenClaim := { program := "ytockombopcjldaa", sum := "8349dcc19d1b974b11ecaa720038682a010e22e74a09c9965f7a1dea136f9727", func := "loop.example/g00855/laws.FnExactConcatWords", spec := "fnExactConcatWords", unfollowed := true, recurses := true, apart := false }
def FnExactConcatWordsSaid : Prop := fnExactConcatWordsRow.holds Try.pinned (OpenSpec.ofChange fnExactConcatWordsSpec)

/-- ITS FALSE NEIGHBOUR: 'it returns false'. Refute it at one input. -/
def fnExactConcatWordsWrong : ChangeSpec := { name := "fnExactConcatWords", fn := fun _ => fun
  | [d1, d2] => { results := [.lit (.bool false)], args := [d1, d2] }
  | _ => none }
def FnExactConcatWordsWrongFalsely : Prop := fnExactConcatWordsRow.holds Try.pinned (OpenSpec.ofChange fnExactConcatWordsWrong)

/-- 'laws.FnExactIsGeneratorSet': WHATEVER THE INPUT: true; the input reads as it did. -/
def fnExactIsGeneratorSetSpec : ChangeSpec := { name := "fnExactIsGeneratorSet", fn := fun _ => fun
  | [d1, d2] => { results := [.lit (.bool true)], args := [d1, d2] }
  | _ => none }
def fnExactIsGeneratorSetRow : OpenClaim := { program := "ytockombopcjldaa", sum := "8349dcc19d1b974b11ecaa720038682a010e22e74a09c9965f7a1dea136f9727", func := "loop.example/g00855/laws.FnExactIsGeneratorSet", spec := "fnExactIsGeneratorSet", unfollowed := true, recurses := true, apart := false }
def FnExactIsGeneratorSetSaid : Prop := fnExactIsGeneratorSetRow.holds Try.pinned (OpenSpec.ofChange fnExactIsGeneratorSetSpec)

/-- ITS FALSE NEIGHBOUR: 'it returns false'. Refute it at one input. -/
def fnExactIsGeneratorSetWrong : ChangeSpec := { name := "fnExactIsGeneratorSet", fn := fun _ => fun
  | [d1, d2] => { results := [.lit (.bool false)], args := [d1, d2] }
  | _ => none }
def FnExactIsGeneratorSetWrongFalsely : Prop := fnExactIsGeneratorSetRow.holds Try.pinned (OpenSpec.ofChange fnExactIsGeneratorSetWrong)

/-- 'laws.FnExactPower': WHATEVER THE INPUT: true; the input reads as it did. -/
def fnExactPowerSpec : ChangeSpec := { name := "fnExactPower", fn := fun _ => fun
  | [d1, d2] => { results := [.lit (.bool true)], args := [d1, d2] }
  | _ => none }
def fnExactPowerRow : OpenClaim := { program := "ytockombopcjldaa", sum := "8349dcc19d1b974b11ecaa720038682a010e22e74a09c9965f7a1dea136f9727", func := "loop.example/g00855/laws.FnExactPower", spec := "fnExactPower", apart := false }
def FnExactPowerSaid : Prop := fnExactPowerRow.holds Try.pinned (OpenSpec.ofChange fnExactPowerSpec)

/-- ITS FALSE NEIGHBOUR: 'it returns false'. Refute it at one input. -/
def fnExactPowerWrong : ChangeSpec := { name := "fnExactPower", fn := fun _ => fun
  | [d1, d2] => { results := [.lit (.bool false)], args := [d1, d2] }
  | _ => none }
def FnExactPowerWrongFalsely : Prop := fnExactPowerRow.holds Try.pinned (OpenSpec.ofChange fnExactPowerWrong)

/-- 'laws.FnExactConjugateWord': WHATEVER THE INPUT: true; the input reads as it did. -/
def fnExactConjugateWordSpec : ChangeSpec := { name := "fnExactConjugateWord", fn := fun _ => fun
  | [d1, d2] => { results := [.lit (.bool true)], args := [d1, d2] }
  | _ => none }
def fnExactConjugateWordRow : OpenClaim := { program := "ytockombopcjldaa", sum := "8349dcc19d1b974b11ecaa720038682a010e22e74a09c9965f7a1dea136f9727", func := "loop.example/g00855/laws.FnExactConjugateWord", spec := "fnExactConjugateWord", unfollowed := true, recurses := true, apart := false }
def FnExactConjugateWordSaid : Prop := fnExactConjugateWordRow.holds Try.pinned (OpenSpec.ofChange fnExactConjugateWordSpec)

/-- ITS FALSE NEIGHBOUR: 'it returns false'. Refute it at one input. -/
def fnExactConjugateWordWrong : ChangeSpec := { name := "fnExactConjugateWord", fn := fun _ => fun
  | [d1, d2] => { results := [.lit (.bool false)], args := [d1, d2] }
  | _ => none }
def FnExactConjugateWordWrongFalsely : Prop := fnExactConjugateWordRow.holds Try.pinned (OpenSpec.ofChange fnExactConjugateWordWrong)

/-- 'laws.FnExactCommutator': WHATEVER THE INPUT: true; the input reads as it did. -/
def fnExactCommutatorSpec : ChangeSpec := { name := "fnExactCommutator", fn := fun _ => fun
  | [d1, d2] => { results := [.lit (.bool true)], args := [d1, d2] }
  | _ => none }
def fnExactCommutatorRow : OpenClaim := { program := "ytockombopcjldaa", sum := "8349dcc19d1b974b11ecaa720038682a010e22e74a09c9965f7a1dea136f9727", func := "loop.example/g00855/laws.FnExactCommutator", spec := "fnExactCommutator", unfollowed := true, recurses := true, apart := false }
def FnExactCommutatorSaid : Prop := fnExactCommutatorRow.holds Try.pinned (OpenSpec.ofChange fnExactCommutatorSpec)

/-- ITS FALSE NEIGHBOUR: 'it returns false'. Refute it at one input. -/
def fnExactCommutatorWrong : ChangeSpec := { name := "fnExactCommutator", fn := fun _ => fun
  | [d1, d2] => { results := [.lit (.bool false)], args := [d1, d2] }
  | _ => none }
def FnExactCommutatorWrongFalsely : Prop := fnExactCommutatorRow.holds Try.pinned (OpenSpec.ofChange fnExactCommutatorWrong)

/-- 'laws.FnExactCycles': WHATEVER THE INPUT: true; the input reads as it did. -/
def fnExactCyclesSpec : ChangeSpec := { name := "fnExactCycles", fn := fun _ => fun
  | [d] => { results := [.lit (.bool true)], args := [d] }
  | _ => none }
def fnExactCyclesRow : OpenClaim := { program := "ytockombopcjldaa", sum := "8349dcc19d1b974b11ecaa720038682a010e22e74a09c9965f7a1dea136f9727", func := "loop.example/g00855/laws.FnExactCycles", spec := "fnExactCycles", apart := false }
def FnExactCyclesSaid : Prop := fnExactCyclesRow.holds Try.pinned (OpenSpec.ofChange fnExactCyclesSpec)

/-- ITS FALSE NEIGHBOUR: 'it returns false'. Refute it at one input. -/
def fnExactCyclesWrong : ChangeSpec := { name := "fnExactCycles", fn := fun _ => fun
  | [d] => { results := [.lit (.bool false)], args := [d] }
  | _ => none }
def FnExactCyclesWrongFalsely : Prop := fnExactCyclesRow.holds Try.pinned (OpenSpec.ofChange fnExactCyclesWrong)

/-- 'laws.FnExactIsAbelian': WHATEVER THE INPUT: true; the input reads as it did. -/
def fnExactIsAbelianSpec : ChangeSpec := { name := "fnExactIsAbelian", fn := fun _ => fun
  | [d1, d2] => { results := [.lit (.bool true)], args := [d1, d2] }
  | _ => none }
def fnExactIsAbelianRow : OpenClaim := { program := "ytockombopcjldaa", sum := "8349dcc19d1b974b11ecaa720038682a010e22e74a09c9965f7a1dea136f9727", func := "loop.example/g00855/laws.FnExactIsAbelian", spec := "fnExactIsAbelian", unfollowed := true, recurses := true, apart := false }
def FnExactIsAbelianSaid : Prop := fnExactIsAbelianRow.holds Try.pinned (OpenSpec.ofChange fnExactIsAbelianSpec)

/-- ITS FALSE NEIGHBOUR: 'it returns false'. Refute it at one input. -/
def fnExactIsAbelianWrong : ChangeSpec := { name := "fnExactIsAbelian", fn := fun _ => fun
  | [d1, d2] => { results := [.lit (.bool false)], args := [d1, d2] }
  | _ => none }
def FnExactIsAbelianWrongFalsely : Prop := fnExactIsAbelianRow.holds Try.pinned (OpenSpec.ofChange fnExactIsAbelianWrong)

/-- 'laws.FnExactInverseGenerators': WHATEVER THE INPUT: true; the input reads as it did. -/
def fnExactInverseGeneratorsSpec : ChangeSpec := { name := "fnExactInverseGenerators", fn := fun _ => fun
  | [d1, d2] => { results := [.lit (.bool true)], args := [d1, d2] }
  | _ => none }
def fnExactInverseGeneratorsRow : OpenClaim := { program := "ytockombopcjldaa", sum := "8349dcc19d1b974b11ecaa720038682a010e22e74a09c9965f7a1dea136f9727", func := "loop.example/g00855/laws.FnExactInverseGenerators", spec := "fnExactInverseGenerators", unfollowed := true, recurses := true, apart := false }
def FnExactInverseGeneratorsSaid : Prop := fnExactInverseGeneratorsRow.holds Try.pinned (OpenSpec.ofChange fnExactInverseGeneratorsSpec)

/-- ITS FALSE NEIGHBOUR: 'it returns false'. Refute it at one input. -/
def fnExactInverseGeneratorsWrong : ChangeSpec := { name := "fnExactInverseGenerators", fn := fun _ => fun
  | [d1, d2] => { results := [.lit (.bool false)], args := [d1, d2] }
  | _ => none }
def FnExactInverseGeneratorsWrongFalsely : Prop := fnExactInverseGeneratorsRow.holds Try.pinned (OpenSpec.ofChange fnExactInverseGeneratorsWrong)

/-- 'laws.FnPowers': WHATEVER THE INPUT: true; the input reads as it did. -/
def fnPowersSpec : ChangeSpec := { name := "fnPowers", fn := fun _ => fun
  | [d] => { results := [.lit (.bool true)], args := [d] }
  | _ => none }
def fnPowersRow : OpenClaim := { program := "ytockombopcjldaa", sum := "8349dcc19d1b974b11ecaa720038682a010e22e74a09c9965f7a1dea136f9727", func := "loop.example/g00855/laws.FnPowers", spec := "fnPowers", apart := false }
def FnPowersSaid : Prop := fnPowersRow.holds Try.pinned (OpenSpec.ofChange fnPowersSpec)

/-- ITS FALSE NEIGHBOUR: 'it returns false'. Refute it at one input. -/
def fnPowersWrong : ChangeSpec := { name := "fnPowers", fn := fun _ => fun
  | [d] => { results := [.lit (.bool false)], args := [d] }
  | _ => none }
def FnPowersWrongFalsely : Prop := fnPowersRow.holds Try.pinned (OpenSpec.ofChange fnPowersWrong)

/- THE SECOND FORM. 'bulk': how many values and letters a reading holds, each counted each time it is reached (what is shared counts as often as it is met; a slice's spare places count too). A statement '..UptoSaid' is the law's where the arguments, and the package variables that the reading takes, are together of bulk at most 1048576: NARROWER than '..Said'. Prove '..Said' where nothing that the law and all that it calls make is longer than what came in: it says more and counts as full. Else prove '..UptoSaid'. A law counts once. -/
mutual
def uptoBulk {H : Type} : DataW H → Nat
  | .lit (.string bytes) => bytes.length + 1
  | .lit _ => 1
  | .nil => 1
  | .ptr d => uptoBulk d + 1
  | .slice elems spare => uptoBulkAll elems + uptoBulkAll spare + 1
  | .agg parts => uptoBulkAll parts + 1
  | .iface _ d => uptoBulk d + 1
  | .map entries => uptoBulkEntries entries + 1
  | .held _ => 1
def uptoBulkAll {H : Type} : List (DataW H) → Nat
  | [] => 0
  | d :: r => uptoBulk d + uptoBulkAll r
def uptoBulkEntries {H : Type} : List (Lit × DataW H) → Nat
  | [] => 0
  | x :: r => uptoBulkEntry x + uptoBulkEntries r
def uptoBulkEntry {H : Type} : Lit × DataW H → Nat
  | (.string bytes, d) => bytes.length + uptoBulk d + 1
  | (_, d) => uptoBulk d + 1
 end
def uptoSmall : (H : Type) → List (DataW H) → Bool := fun _ ds => decide (uptoBulkAll ds ≤ 1048576)
def OpenSpec.upto (s : _root_.Go.ChangeSpec) : _root_.Go.OpenSpec := { _root_.Go.OpenSpec.ofChange s with cond := some uptoSmall }

/-- 'laws.FnExactElementOrder', WHERE WHAT IT READS IS OF BULK AT MOST 1048576: true; the input reads as it did. -/
def fnExactElementOrderUptoRow : OpenClaim := { program := "ytockombopcjldaa", sum := "8349dcc19d1b974b11ecaa720038682a010e22e74a09c9965f7a1dea136f9727", func := "loop.example/g00855/laws.FnExactElementOrder", spec := "fnExactElementOrder", apart := false, narrowed := true }
def FnExactElementOrderUptoSaid : Prop := fnExactElementOrderUptoRow.holds Try.pinned (OpenSpec.upto fnExactElementOrderSpec)

/-- 'laws.FnExactConjugate', WHERE WHAT IT READS IS OF BULK AT MOST 1048576: true; the input reads as it did. -/
def fnExactConjugateUptoRow : OpenClaim := { program := "ytockombopcjldaa", sum := "8349dcc19d1b974b11ecaa720038682a010e22e74a09c9965f7a1dea136f9727", func := "loop.example/g00855/laws.FnExactConjugate", spec := "fnExactConjugate", apart := false, narrowed := true }
def FnExactConjugateUptoSaid : Prop := fnExactConjugateUptoRow.holds Try.pinned (OpenSpec.upto fnExactConjugateSpec)

/-- 'laws.FnExactSign', WHERE WHAT IT READS IS OF BULK AT MOST 1048576: true; the input reads as it did. -/
def fnExactSignUptoRow : OpenClaim := { program := "ytockombopcjldaa", sum := "8349dcc19d1b974b11ecaa720038682a010e22e74a09c9965f7a1dea136f9727", func := "loop.example/g00855/laws.FnExactSign", spec := "fnExactSign", apart := false, narrowed := true }
def FnExactSignUptoSaid : Prop := fnExactSignUptoRow.holds Try.pinned (OpenSpec.upto fnExactSignSpec)

/-- 'laws.FnExactConcatWords', WHERE WHAT IT READS IS OF BULK AT MOST 1048576: true; the input reads as it did. -/
def fnExactConcatWordsUptoRow : OpenClaim := { program := "ytockombopcjldaa", sum := "8349dcc19d1b974b11ecaa720038682a010e22e74a09c9965f7a1dea136f9727", func := "loop.example/g00855/laws.FnExactConcatWords", spec := "fnExactConcatWords", unfollowed := true, recurses := true, apart := false, narrowed := true }
def FnExactConcatWordsUptoSaid : Prop := fnExactConcatWordsUptoRow.holds Try.pinned (OpenSpec.upto fnExactConcatWordsSpec)

/-- 'laws.FnExactIsGeneratorSet', WHERE WHAT IT READS IS OF BULK AT MOST 1048576: true; the input reads as it did. -/
def fnExactIsGeneratorSetUptoRow : OpenClaim := { program := "ytockombopcjldaa", sum := "8349dcc19d1b974b11ecaa720038682a010e22e74a09c9965f7a1dea136f9727", func := "loop.example/g00855/laws.FnExactIsGeneratorSet", spec := "fnExactIsGeneratorSet", unfollowed := true, recurses := true, apart := false, narrowed := true }
def FnExactIsGeneratorSetUptoSaid : Prop := fnExactIsGeneratorSetUptoRow.holds Try.pinned (OpenSpec.upto fnExactIsGeneratorSetSpec)

/-- 'laws.FnExactPower', WHERE WHAT IT READS IS OF BULK AT MOST 1048576: true; the input reads as it did. -/
def fnExactPowerUptoRow : OpenClaim := { program := "ytockombopcjldaa", sum := "8349dcc19d1b974b11ecaa720038682a010e22e74a09c9965f7a1dea136f9727", func := "loop.example/g00855/laws.FnExactPower", spec := "fnExactPower", apart := false, narrowed := true }
def FnExactPowerUptoSaid : Prop := fnExactPowerUptoRow.holds Try.pinned (OpenSpec.upto fnExactPowerSpec)

/-- 'laws.FnExactConjugateWord', WHERE WHAT IT READS IS OF BULK AT MOST 1048576: true; the input reads as it did. -/
def fnExactConjugateWordUptoRow : OpenClaim := { program := "ytockombopcjldaa", sum := "8349dcc19d1b974b11ecaa720038682a010e22e74a09c9965f7a1dea136f9727", func := "loop.example/g00855/laws.FnExactConjugateWord", spec := "fnExactConjugateWord", unfollowed := true, recurses := true, apart := false, narrowed := true }
def FnExactConjugateWordUptoSaid : Prop := fnExactConjugateWordUptoRow.holds Try.pinned (OpenSpec.upto fnExactConjugateWordSpec)

/-- 'laws.FnExactCommutator', WHERE WHAT IT READS IS OF BULK AT MOST 1048576: true; the input reads as it did. -/
def fnExactCommutatorUptoRow : OpenClaim := { program := "ytockombopcjldaa", sum := "8349dcc19d1b974b11ecaa720038682a010e22e74a09c9965f7a1dea136f9727", func := "loop.example/g00855/laws.FnExactCommutator", spec := "fnExactCommutator", unfollowed := true, recurses := true, apart := false, narrowed := true }
def FnExactCommutatorUptoSaid : Prop := fnExactCommutatorUptoRow.holds Try.pinned (OpenSpec.upto fnExactCommutatorSpec)

/-- 'laws.FnExactCycles', WHERE WHAT IT READS IS OF BULK AT MOST 1048576: true; the input reads as it did. -/
def fnExactCyclesUptoRow : OpenClaim := { program := "ytockombopcjldaa", sum := "8349dcc19d1b974b11ecaa720038682a010e22e74a09c9965f7a1dea136f9727", func := "loop.example/g00855/laws.FnExactCycles", spec := "fnExactCycles", apart := false, narrowed := true }
def FnExactCyclesUptoSaid : Prop := fnExactCyclesUptoRow.holds Try.pinned (OpenSpec.upto fnExactCyclesSpec)

/-- 'laws.FnExactIsAbelian', WHERE WHAT IT READS IS OF BULK AT MOST 1048576: true; the input reads as it did. -/
def fnExactIsAbelianUptoRow : OpenClaim := { program := "ytockombopcjldaa", sum := "8349dcc19d1b974b11ecaa720038682a010e22e74a09c9965f7a1dea136f9727", func := "loop.example/g00855/laws.FnExactIsAbelian", spec := "fnExactIsAbelian", unfollowed := true, recurses := true, apart := false, narrowed := true }
def FnExactIsAbelianUptoSaid : Prop := fnExactIsAbelianUptoRow.holds Try.pinned (OpenSpec.upto fnExactIsAbelianSpec)

/-- 'laws.FnExactInverseGenerators', WHERE WHAT IT READS IS OF BULK AT MOST 1048576: true; the input reads as it did. -/
def fnExactInverseGeneratorsUptoRow : OpenClaim := { program := "ytockombopcjldaa", sum := "8349dcc19d1b974b11ecaa720038682a010e22e74a09c9965f7a1dea136f9727", func := "loop.example/g00855/laws.FnExactInverseGenerators", spec := "fnExactInverseGenerators", unfollowed := true, recurses := true, apart := false, narrowed := true }
def FnExactInverseGeneratorsUptoSaid : Prop := fnExactInverseGeneratorsUptoRow.holds Try.pinned (OpenSpec.upto fnExactInverseGeneratorsSpec)

/-- 'laws.FnPowers', WHERE WHAT IT READS IS OF BULK AT MOST 1048576: true; the input reads as it did. -/
def fnPowersUptoRow : OpenClaim := { program := "ytockombopcjldaa", sum := "8349dcc19d1b974b11ecaa720038682a010e22e74a09c9965f7a1dea136f9727", func := "loop.example/g00855/laws.FnPowers", spec := "fnPowers", apart := false, narrowed := true }
def FnPowersUptoSaid : Prop := fnPowersUptoRow.holds Try.pinned (OpenSpec.upto fnPowersSpec)

end Rows
end Go.Proofs.Ytockombopcjldaa
