/-
  No cell of these rows narrows 'for every input' (looked for: loops, veiled, ifaces, maps, wideKeys, modest, calm, conditions, laid).
  DERIVED. THE GIVEN ROWS OF THIS SEAT. 12 by the template 'for every input the law returns true; each argument reads behind the call as it read before'; 0 by the template 'total and deterministic' (their statements: YtkjnabpllecglaaTotals.lean).
  GIVEN WITH THE SEED: the statements are not yours to turn. If you find one false, say at which input.
  Laid BY PROGRAM, IN A SANDBOX (cutbox-rows.mjs): the forced cells as the released guide's own fill.sh prints them over the translation f57dd354d7b76628… (all of the seat's roots in one cut). By AI agents, Wed Nov 11 2026. No macro, syntax, notation, axiom, sorry.
-/
import Derived.Test.YtkjnabpllecglaaChecked
import GoSem.Claim
import GoSem.ClaimJoined
import GoSem.ClaimMapViews
import Derived.JoinedTies
import Derived.KernelRfl
namespace Go.Proofs.Ytkjnabpllecglaa
/- THE CELL 'sum', in the pinned program and in every row, IS THE sha256 OF THE DUMP (.gsa) THAT YtkjnabpllecglaaProg.lean LOADS. Nothing in Lean hashes anything: it is a label: what it is worth is what the hold of that sum in a sandbox is worth. -/
noncomputable def Try.pinned : Pinned := { name := "ytkjnabpllecglaa", sum := "f57dd354d7b76628f07f2c0a0a9077b4f723784593bd97dca7ffbc80bf4fb272", checked := Try.checked }
namespace Rows
def none {H : Type} : Left H := { results := [], args := [] }

/-- 'laws.FnExactConstants': WHATEVER THE INPUT: true; the input reads as it did. -/
def fnExactConstantsSpec : ChangeSpec := { name := "fnExactConstants", fn := fun _ => fun
  | [] => { results := [.lit (.bool true)], args := [] }
  | _ => none }
def fnExactConstantsRow : OpenClaim := { program := "ytkjnabpllecglaa", sum := "f57dd354d7b76628f07f2c0a0a9077b4f723784593bd97dca7ffbc80bf4fb272", func := "loop.example/g00855/laws.FnExactConstants", spec := "fnExactConstants", apart := false }
def FnExactConstantsSaid : Prop := fnExactConstantsRow.holds Try.pinned (OpenSpec.ofChange fnExactConstantsSpec)

/-- ITS FALSE NEIGHBOUR: 'it returns false'. Refute it at one input. -/
def fnExactConstantsWrong : ChangeSpec := { name := "fnExactConstants", fn := fun _ => fun
  | [] => { results := [.lit (.bool false)], args := [] }
  | _ => none }
def FnExactConstantsWrongFalsely : Prop := fnExactConstantsRow.holds Try.pinned (OpenSpec.ofChange fnExactConstantsWrong)

/-- 'laws.FnExactIsValidWord': WHATEVER THE INPUT: true; the input reads as it did. -/
def fnExactIsValidWordSpec : ChangeSpec := { name := "fnExactIsValidWord", fn := fun _ => fun
  | [d1, d2] => { results := [.lit (.bool true)], args := [d1, d2] }
  | _ => none }
def fnExactIsValidWordRow : OpenClaim := { program := "ytkjnabpllecglaa", sum := "f57dd354d7b76628f07f2c0a0a9077b4f723784593bd97dca7ffbc80bf4fb272", func := "loop.example/g00855/laws.FnExactIsValidWord", spec := "fnExactIsValidWord", unfollowed := true, recurses := true, apart := false }
def FnExactIsValidWordSaid : Prop := fnExactIsValidWordRow.holds Try.pinned (OpenSpec.ofChange fnExactIsValidWordSpec)

/-- ITS FALSE NEIGHBOUR: 'it returns false'. Refute it at one input. -/
def fnExactIsValidWordWrong : ChangeSpec := { name := "fnExactIsValidWord", fn := fun _ => fun
  | [d1, d2] => { results := [.lit (.bool false)], args := [d1, d2] }
  | _ => none }
def FnExactIsValidWordWrongFalsely : Prop := fnExactIsValidWordRow.holds Try.pinned (OpenSpec.ofChange fnExactIsValidWordWrong)

/-- 'laws.FnExactIsPermutation': WHATEVER THE INPUT: true; the input reads as it did. -/
def fnExactIsPermutationSpec : ChangeSpec := { name := "fnExactIsPermutation", fn := fun _ => fun
  | [d] => { results := [.lit (.bool true)], args := [d] }
  | _ => none }
def fnExactIsPermutationRow : OpenClaim := { program := "ytkjnabpllecglaa", sum := "f57dd354d7b76628f07f2c0a0a9077b4f723784593bd97dca7ffbc80bf4fb272", func := "loop.example/g00855/laws.FnExactIsPermutation", spec := "fnExactIsPermutation", apart := false }
def FnExactIsPermutationSaid : Prop := fnExactIsPermutationRow.holds Try.pinned (OpenSpec.ofChange fnExactIsPermutationSpec)

/-- ITS FALSE NEIGHBOUR: 'it returns false'. Refute it at one input. -/
def fnExactIsPermutationWrong : ChangeSpec := { name := "fnExactIsPermutation", fn := fun _ => fun
  | [d] => { results := [.lit (.bool false)], args := [d] }
  | _ => none }
def FnExactIsPermutationWrongFalsely : Prop := fnExactIsPermutationRow.holds Try.pinned (OpenSpec.ofChange fnExactIsPermutationWrong)

/-- 'laws.FnExactIdentity': WHATEVER THE INPUT: true; the input reads as it did. -/
def fnExactIdentitySpec : ChangeSpec := { name := "fnExactIdentity", fn := fun _ => fun
  | [d] => { results := [.lit (.bool true)], args := [d] }
  | _ => none }
def fnExactIdentityRow : OpenClaim := { program := "ytkjnabpllecglaa", sum := "f57dd354d7b76628f07f2c0a0a9077b4f723784593bd97dca7ffbc80bf4fb272", func := "loop.example/g00855/laws.FnExactIdentity", spec := "fnExactIdentity", apart := false }
def FnExactIdentitySaid : Prop := fnExactIdentityRow.holds Try.pinned (OpenSpec.ofChange fnExactIdentitySpec)

/-- ITS FALSE NEIGHBOUR: 'it returns false'. Refute it at one input. -/
def fnExactIdentityWrong : ChangeSpec := { name := "fnExactIdentity", fn := fun _ => fun
  | [d] => { results := [.lit (.bool false)], args := [d] }
  | _ => none }
def FnExactIdentityWrongFalsely : Prop := fnExactIdentityRow.holds Try.pinned (OpenSpec.ofChange fnExactIdentityWrong)

/-- 'laws.FnExactWordLess': WHATEVER THE INPUT: true; the input reads as it did. -/
def fnExactWordLessSpec : ChangeSpec := { name := "fnExactWordLess", fn := fun _ => fun
  | [d1, d2] => { results := [.lit (.bool true)], args := [d1, d2] }
  | _ => none }
def fnExactWordLessRow : OpenClaim := { program := "ytkjnabpllecglaa", sum := "f57dd354d7b76628f07f2c0a0a9077b4f723784593bd97dca7ffbc80bf4fb272", func := "loop.example/g00855/laws.FnExactWordLess", spec := "fnExactWordLess", unfollowed := true, recurses := true, apart := false }
def FnExactWordLessSaid : Prop := fnExactWordLessRow.holds Try.pinned (OpenSpec.ofChange fnExactWordLessSpec)

/-- ITS FALSE NEIGHBOUR: 'it returns false'. Refute it at one input. -/
def fnExactWordLessWrong : ChangeSpec := { name := "fnExactWordLess", fn := fun _ => fun
  | [d1, d2] => { results := [.lit (.bool false)], args := [d1, d2] }
  | _ => none }
def FnExactWordLessWrongFalsely : Prop := fnExactWordLessRow.holds Try.pinned (OpenSpec.ofChange fnExactWordLessWrong)

/-- 'laws.FnExactInverse': WHATEVER THE INPUT: true; the input reads as it did. -/
def fnExactInverseSpec : ChangeSpec := { name := "fnExactInverse", fn := fun _ => fun
  | [d] => { results := [.lit (.bool true)], args := [d] }
  | _ => none }
def fnExactInverseRow : OpenClaim := { program := "ytkjnabpllecglaa", sum := "f57dd354d7b76628f07f2c0a0a9077b4f723784593bd97dca7ffbc80bf4fb272", func := "loop.example/g00855/laws.FnExactInverse", spec := "fnExactInverse", apart := false }
def FnExactInverseSaid : Prop := fnExactInverseRow.holds Try.pinned (OpenSpec.ofChange fnExactInverseSpec)

/-- ITS FALSE NEIGHBOUR: 'it returns false'. Refute it at one input. -/
def fnExactInverseWrong : ChangeSpec := { name := "fnExactInverse", fn := fun _ => fun
  | [d] => { results := [.lit (.bool false)], args := [d] }
  | _ => none }
def FnExactInverseWrongFalsely : Prop := fnExactInverseRow.holds Try.pinned (OpenSpec.ofChange fnExactInverseWrong)

/-- 'laws.FnExactFreeReduce': WHATEVER THE INPUT: true; the input reads as it did. -/
def fnExactFreeReduceSpec : ChangeSpec := { name := "fnExactFreeReduce", fn := fun _ => fun
  | [d] => { results := [.lit (.bool true)], args := [d] }
  | _ => none }
def fnExactFreeReduceRow : OpenClaim := { program := "ytkjnabpllecglaa", sum := "f57dd354d7b76628f07f2c0a0a9077b4f723784593bd97dca7ffbc80bf4fb272", func := "loop.example/g00855/laws.FnExactFreeReduce", spec := "fnExactFreeReduce", unfollowed := true, recurses := true, apart := false }
def FnExactFreeReduceSaid : Prop := fnExactFreeReduceRow.holds Try.pinned (OpenSpec.ofChange fnExactFreeReduceSpec)

/-- ITS FALSE NEIGHBOUR: 'it returns false'. Refute it at one input. -/
def fnExactFreeReduceWrong : ChangeSpec := { name := "fnExactFreeReduce", fn := fun _ => fun
  | [d] => { results := [.lit (.bool false)], args := [d] }
  | _ => none }
def FnExactFreeReduceWrongFalsely : Prop := fnExactFreeReduceRow.holds Try.pinned (OpenSpec.ofChange fnExactFreeReduceWrong)

/-- 'laws.FnExactInvertWord': WHATEVER THE INPUT: true; the input reads as it did. -/
def fnExactInvertWordSpec : ChangeSpec := { name := "fnExactInvertWord", fn := fun _ => fun
  | [d] => { results := [.lit (.bool true)], args := [d] }
  | _ => none }
def fnExactInvertWordRow : OpenClaim := { program := "ytkjnabpllecglaa", sum := "f57dd354d7b76628f07f2c0a0a9077b4f723784593bd97dca7ffbc80bf4fb272", func := "loop.example/g00855/laws.FnExactInvertWord", spec := "fnExactInvertWord", unfollowed := true, recurses := true, apart := false }
def FnExactInvertWordSaid : Prop := fnExactInvertWordRow.holds Try.pinned (OpenSpec.ofChange fnExactInvertWordSpec)

/-- ITS FALSE NEIGHBOUR: 'it returns false'. Refute it at one input. -/
def fnExactInvertWordWrong : ChangeSpec := { name := "fnExactInvertWord", fn := fun _ => fun
  | [d] => { results := [.lit (.bool false)], args := [d] }
  | _ => none }
def FnExactInvertWordWrongFalsely : Prop := fnExactInvertWordRow.holds Try.pinned (OpenSpec.ofChange fnExactInvertWordWrong)

/-- 'laws.FnExactCompose': WHATEVER THE INPUT: true; the input reads as it did. -/
def fnExactComposeSpec : ChangeSpec := { name := "fnExactCompose", fn := fun _ => fun
  | [d1, d2] => { results := [.lit (.bool true)], args := [d1, d2] }
  | _ => none }
def fnExactComposeRow : OpenClaim := { program := "ytkjnabpllecglaa", sum := "f57dd354d7b76628f07f2c0a0a9077b4f723784593bd97dca7ffbc80bf4fb272", func := "loop.example/g00855/laws.FnExactCompose", spec := "fnExactCompose", apart := false }
def FnExactComposeSaid : Prop := fnExactComposeRow.holds Try.pinned (OpenSpec.ofChange fnExactComposeSpec)

/-- ITS FALSE NEIGHBOUR: 'it returns false'. Refute it at one input. -/
def fnExactComposeWrong : ChangeSpec := { name := "fnExactCompose", fn := fun _ => fun
  | [d1, d2] => { results := [.lit (.bool false)], args := [d1, d2] }
  | _ => none }
def FnExactComposeWrongFalsely : Prop := fnExactComposeRow.holds Try.pinned (OpenSpec.ofChange fnExactComposeWrong)

/-- 'laws.FnExactPermutationLess': WHATEVER THE INPUT: true; the input reads as it did. -/
def fnExactPermutationLessSpec : ChangeSpec := { name := "fnExactPermutationLess", fn := fun _ => fun
  | [d1, d2] => { results := [.lit (.bool true)], args := [d1, d2] }
  | _ => none }
def fnExactPermutationLessRow : OpenClaim := { program := "ytkjnabpllecglaa", sum := "f57dd354d7b76628f07f2c0a0a9077b4f723784593bd97dca7ffbc80bf4fb272", func := "loop.example/g00855/laws.FnExactPermutationLess", spec := "fnExactPermutationLess", apart := false }
def FnExactPermutationLessSaid : Prop := fnExactPermutationLessRow.holds Try.pinned (OpenSpec.ofChange fnExactPermutationLessSpec)

/-- ITS FALSE NEIGHBOUR: 'it returns false'. Refute it at one input. -/
def fnExactPermutationLessWrong : ChangeSpec := { name := "fnExactPermutationLess", fn := fun _ => fun
  | [d1, d2] => { results := [.lit (.bool false)], args := [d1, d2] }
  | _ => none }
def FnExactPermutationLessWrongFalsely : Prop := fnExactPermutationLessRow.holds Try.pinned (OpenSpec.ofChange fnExactPermutationLessWrong)

/-- 'laws.FnExactWordLength': WHATEVER THE INPUT: true; the input reads as it did. -/
def fnExactWordLengthSpec : ChangeSpec := { name := "fnExactWordLength", fn := fun _ => fun
  | [d1, d2] => { results := [.lit (.bool true)], args := [d1, d2] }
  | _ => none }
def fnExactWordLengthRow : OpenClaim := { program := "ytkjnabpllecglaa", sum := "f57dd354d7b76628f07f2c0a0a9077b4f723784593bd97dca7ffbc80bf4fb272", func := "loop.example/g00855/laws.FnExactWordLength", spec := "fnExactWordLength", unfollowed := true, recurses := true, apart := false }
def FnExactWordLengthSaid : Prop := fnExactWordLengthRow.holds Try.pinned (OpenSpec.ofChange fnExactWordLengthSpec)

/-- ITS FALSE NEIGHBOUR: 'it returns false'. Refute it at one input. -/
def fnExactWordLengthWrong : ChangeSpec := { name := "fnExactWordLength", fn := fun _ => fun
  | [d1, d2] => { results := [.lit (.bool false)], args := [d1, d2] }
  | _ => none }
def FnExactWordLengthWrongFalsely : Prop := fnExactWordLengthRow.holds Try.pinned (OpenSpec.ofChange fnExactWordLengthWrong)

/-- 'laws.FnGroupAxioms': WHATEVER THE INPUT: true; the input reads as it did. -/
def fnGroupAxiomsSpec : ChangeSpec := { name := "fnGroupAxioms", fn := fun _ => fun
  | [d] => { results := [.lit (.bool true)], args := [d] }
  | _ => none }
def fnGroupAxiomsRow : OpenClaim := { program := "ytkjnabpllecglaa", sum := "f57dd354d7b76628f07f2c0a0a9077b4f723784593bd97dca7ffbc80bf4fb272", func := "loop.example/g00855/laws.FnGroupAxioms", spec := "fnGroupAxioms", apart := false }
def FnGroupAxiomsSaid : Prop := fnGroupAxiomsRow.holds Try.pinned (OpenSpec.ofChange fnGroupAxiomsSpec)

/-- ITS FALSE NEIGHBOUR: 'it returns false'. Refute it at one input. -/
def fnGroupAxiomsWrong : ChangeSpec := { name := "fnGroupAxioms", fn := fun _ => fun
  | [d] => { results := [.lit (.bool false)], args := [d] }
  | _ => none }
def FnGroupAxiomsWrongFalsely : Prop := fnGroupAxiomsRow.holds Try.pinned (OpenSpec.ofChange fnGroupAxiomsWrong)

/- THE SECOND FORM. 'bulk': how many values and letters a reading holds, each counted each time it is reached (what is shared counts as often as it is met; a slice's spare places count too). A statement '..UptoSaid' is the law's where the arguments, and the package variables that the reading takes, are together of bulk at most 1048576: NARROWER than '..Said'. Prove '..Said' where nothing that the law and all that it calls make is longer than what came in: it says more and counts as full. Else prove '..UptoSaid'. A law counts once. -/
mutual
def uptoBulk {H : Type} : DataW H → Nat
  | .lit (.string bytes) => bytes.length + 1
  | .lit _ => 1
  | .nil => 1
  | .ptr d => uptoBulk d + 1
  | .slice elems spare => uptoBulkAll elems + uptoBulkAll spare + 1
  | .agg parts => uptoBulkAll parts + 1
  | .iface _ d => uptoBulk d + 1
  | .map entries => uptoBulkEntries entries + 1
  | .held _ => 1
def uptoBulkAll {H : Type} : List (DataW H) → Nat
  | [] => 0
  | d :: r => uptoBulk d + uptoBulkAll r
def uptoBulkEntries {H : Type} : List (Lit × DataW H) → Nat
  | [] => 0
  | x :: r => uptoBulkEntry x + uptoBulkEntries r
def uptoBulkEntry {H : Type} : Lit × DataW H → Nat
  | (.string bytes, d) => bytes.length + uptoBulk d + 1
  | (_, d) => uptoBulk d + 1
 end
def uptoSmall : (H : Type) → List (DataW H) → Bool := fun _ ds => decide (uptoBulkAll ds ≤ 1048576)
def OpenSpec.upto (s : _root_.Go.ChangeSpec) : _root_.Go.OpenSpec := { _root_.Go.OpenSpec.ofChange s with cond := some uptoSmall }

/-- 'laws.FnExactConstants', WHERE WHAT IT READS IS OF BULK AT MOST 1048576: true; the input reads as it did. -/
def fnExactConstantsUptoRow : OpenClaim := { program := "ytkjnabpllecglaa", sum := "f57dd354d7b76628f07f2c0a0a9077b4f723784593bd97dca7ffbc80bf4fb272", func := "loop.example/g00855/laws.FnExactConstants", spec := "fnExactConstants", apart := false, narrowed := true }
def FnExactConstantsUptoSaid : Prop := fnExactConstantsUptoRow.holds Try.pinned (OpenSpec.upto fnExactConstantsSpec)

/-- 'laws.FnExactIsValidWord', WHERE WHAT IT READS IS OF BULK AT MOST 1048576: true; the input reads as it did. -/
def fnExactIsValidWordUptoRow : OpenClaim := { program := "ytkjnabpllecglaa", sum := "f57dd354d7b76628f07f2c0a0a9077b4f723784593bd97dca7ffbc80bf4fb272", func := "loop.example/g00855/laws.FnExactIsValidWord", spec := "fnExactIsValidWord", unfollowed := true, recurses := true, apart := false, narrowed := true }
def FnExactIsValidWordUptoSaid : Prop := fnExactIsValidWordUptoRow.holds Try.pinned (OpenSpec.upto fnExactIsValidWordSpec)

/-- 'laws.FnExactIsPermutation', WHERE WHAT IT READS IS OF BULK AT MOST 1048576: true; the input reads as it did. -/
def fnExactIsPermutationUptoRow : OpenClaim := { program := "ytkjnabpllecglaa", sum := "f57dd354d7b76628f07f2c0a0a9077b4f723784593bd97dca7ffbc80bf4fb272", func := "loop.example/g00855/laws.FnExactIsPermutation", spec := "fnExactIsPermutation", apart := false, narrowed := true }
def FnExactIsPermutationUptoSaid : Prop := fnExactIsPermutationUptoRow.holds Try.pinned (OpenSpec.upto fnExactIsPermutationSpec)

/-- 'laws.FnExactIdentity', WHERE WHAT IT READS IS OF BULK AT MOST 1048576: true; the input reads as it did. -/
def fnExactIdentityUptoRow : OpenClaim := { program := "ytkjnabpllecglaa", sum := "f57dd354d7b76628f07f2c0a0a9077b4f723784593bd97dca7ffbc80bf4fb272", func := "loop.example/g00855/laws.FnExactIdentity", spec := "fnExactIdentity", apart := false, narrowed := true }
def FnExactIdentityUptoSaid : Prop := fnExactIdentityUptoRow.holds Try.pinned (OpenSpec.upto fnExactIdentitySpec)

/-- 'laws.FnExactWordLess', WHERE WHAT IT READS IS OF BULK AT MOST 1048576: true; the input reads as it did. -/
def fnExactWordLessUptoRow : OpenClaim := { program := "ytkjnabpllecglaa", sum := "f57dd354d7b76628f07f2c0a0a9077b4f723784593bd97dca7ffbc80bf4fb272", func := "loop.example/g00855/laws.FnExactWordLess", spec := "fnExactWordLess", unfollowed := true, recurses := true, apart := false, narrowed := true }
def FnExactWordLessUptoSaid : Prop := fnExactWordLessUptoRow.holds Try.pinned (OpenSpec.upto fnExactWordLessSpec)

/-- 'laws.FnExactInverse', WHERE WHAT IT READS IS OF BULK AT MOST 1048576: true; the input reads as it did. -/
def fnExactInverseUptoRow : OpenClaim := { program := "ytkjnabpllecglaa", sum := "f57dd354d7b76628f07f2c0a0a9077b4f723784593bd97dca7ffbc80bf4fb272", func := "loop.example/g00855/laws.FnExactInverse", spec := "fnExactInverse", apart := false, narrowed := true }
def FnExactInverseUptoSaid : Prop := fnExactInverseUptoRow.holds Try.pinned (OpenSpec.upto fnExactInverseSpec)

/-- 'laws.FnExactFreeReduce', WHERE WHAT IT READS IS OF BULK AT MOST 1048576: true; the input reads as it did. -/
def fnExactFreeReduceUptoRow : OpenClaim := { program := "ytkjnabpllecglaa", sum := "f57dd354d7b76628f07f2c0a0a9077b4f723784593bd97dca7ffbc80bf4fb272", func := "loop.example/g00855/laws.FnExactFreeReduce", spec := "fnExactFreeReduce", unfollowed := true, recurses := true, apart := false, narrowed := true }
def FnExactFreeReduceUptoSaid : Prop := fnExactFreeReduceUptoRow.holds Try.pinned (OpenSpec.upto fnExactFreeReduceSpec)

/-- 'laws.FnExactInvertWord', WHERE WHAT IT READS IS OF BULK AT MOST 1048576: true; the input reads as it did. -/
def fnExactInvertWordUptoRow : OpenClaim := { program := "ytkjnabpllecglaa", sum := "f57dd354d7b76628f07f2c0a0a9077b4f723784593bd97dca7ffbc80bf4fb272", func := "loop.example/g00855/laws.FnExactInvertWord", spec := "fnExactInvertWord", unfollowed := true, recurses := true, apart := false, narrowed := true }
def FnExactInvertWordUptoSaid : Prop := fnExactInvertWordUptoRow.holds Try.pinned (OpenSpec.upto fnExactInvertWordSpec)

/-- 'laws.FnExactCompose', WHERE WHAT IT READS IS OF BULK AT MOST 1048576: true; the input reads as it did. -/
def fnExactComposeUptoRow : OpenClaim := { program := "ytkjnabpllecglaa", sum := "f57dd354d7b76628f07f2c0a0a9077b4f723784593bd97dca7ffbc80bf4fb272", func := "loop.example/g00855/laws.FnExactCompose", spec := "fnExactCompose", apart := false, narrowed := true }
def FnExactComposeUptoSaid : Prop := fnExactComposeUptoRow.holds Try.pinned (OpenSpec.upto fnExactComposeSpec)

/-- 'laws.FnExactPermutationLess', WHERE WHAT IT READS IS OF BULK AT MOST 1048576: true; the input reads as it did. -/
def fnExactPermutationLessUptoRow : OpenClaim := { program := "ytkjnabpllecglaa", sum := "f57dd354d7b76628f07f2c0a0a9077b4f723784593bd97dca7ffbc80bf4fb272", func := "loop.example/g00855/laws.FnExactPermutationLess", spec := "fnExactPermutationLess", apart := false, narrowed := true }
def FnExactPermutationLessUptoSaid : Prop := fnExactPermutationLessUptoRow.holds Try.pinned (OpenSpec.upto fnExactPermutationLessSpec)

/-- 'laws.FnExactWordLength', WHERE WHAT IT READS IS OF BULK AT MOST 1048576: true; the input reads as it did. -/
def fnExactWordLengthUptoRow : OpenClaim := { program := "ytkjnabpllecglaa", sum := "f57dd354d7b76628f07f2c0a0a9077b4f723784593bd97dca7ffbc80bf4fb272", func := "loop.example/g00855/laws.FnExactWordLength", spec := "fnExactWordLength", unfollowed := true, recurses := true, apart := false, narrowed := true }
def FnExactWordLengthUptoSaid : Prop := fnExactWordLengthUptoRow.holds Try.pinned (OpenSpec.upto fnExactWordLengthSpec)

/-- 'laws.FnGroupAxioms', WHERE WHAT IT READS IS OF BULK AT MOST 1048576: true; the input reads as it did. -/
def fnGroupAxiomsUptoRow : OpenClaim := { program := "ytkjnabpllecglaa", sum := "f57dd354d7b76628f07f2c0a0a9077b4f723784593bd97dca7ffbc80bf4fb272", func := "loop.example/g00855/laws.FnGroupAxioms", spec := "fnGroupAxioms", apart := false, narrowed := true }
def FnGroupAxiomsUptoSaid : Prop := fnGroupAxiomsUptoRow.holds Try.pinned (OpenSpec.upto fnGroupAxiomsSpec)

end Rows
end Go.Proofs.Ytkjnabpllecglaa
