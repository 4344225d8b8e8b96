/-
  No cell of these rows narrows 'for every input' (looked for: loops, veiled, ifaces, maps, wideKeys, modest, calm, conditions, laid).
  DERIVED. THE GIVEN ROWS OF THIS SEAT. 12 by the template 'for every input the law returns true; each argument reads behind the call as it read before'; 0 by the template 'total and deterministic' (their statements: YtpijnjhheikmcaaTotals.lean).
  GIVEN WITH THE SEED: the statements are not yours to turn. If you find one false, say at which input.
  Laid BY PROGRAM, IN A SANDBOX (cutbox-rows.mjs): the forced cells as the released guide's own fill.sh prints them over the translation 5c0e473ef723f024… (all of the seat's roots in one cut). By AI agents, Wed Nov 11 2026. No macro, syntax, notation, axiom, sorry.
-/
import Derived.Test.YtpijnjhheikmcaaChecked
import GoSem.Claim
import GoSem.ClaimJoined
import GoSem.ClaimMapViews
import Derived.JoinedTies
import Derived.KernelRfl
namespace Go.Proofs.Ytpijnjhheikmcaa
/- THE CELL 'sum', in the pinned program and in every row, IS THE sha256 OF THE DUMP (.gsa) THAT YtpijnjhheikmcaaProg.lean LOADS. Nothing in Lean hashes anything: it is a label: what it is worth is what the hold of that sum in a sandbox is worth. -/
noncomputable def Try.pinned : Pinned := { name := "ytpijnjhheikmcaa", sum := "5c0e473ef723f0244c8b44e502894fddad13c8428d107537dd131c26f6b1e151", checked := Try.checked }
namespace Rows
def none {H : Type} : Left H := { results := [], args := [] }

/-- 'laws.FnExactIsMember': WHATEVER THE INPUT: true; the input reads as it did. -/
def fnExactIsMemberSpec : ChangeSpec := { name := "fnExactIsMember", fn := fun _ => fun
  | [d1, d2, d3] => { results := [.lit (.bool true)], args := [d1, d2, d3] }
  | _ => none }
def fnExactIsMemberRow : OpenClaim := { program := "ytpijnjhheikmcaa", sum := "5c0e473ef723f0244c8b44e502894fddad13c8428d107537dd131c26f6b1e151", func := "loop.example/g00855/laws.FnExactIsMember", spec := "fnExactIsMember", unfollowed := true, recurses := true, apart := false }
def FnExactIsMemberSaid : Prop := fnExactIsMemberRow.holds Try.pinned (OpenSpec.ofChange fnExactIsMemberSpec)

/-- ITS FALSE NEIGHBOUR: 'it returns false'. Refute it at one input. -/
def fnExactIsMemberWrong : ChangeSpec := { name := "fnExactIsMember", fn := fun _ => fun
  | [d1, d2, d3] => { results := [.lit (.bool false)], args := [d1, d2, d3] }
  | _ => none }
def FnExactIsMemberWrongFalsely : Prop := fnExactIsMemberRow.holds Try.pinned (OpenSpec.ofChange fnExactIsMemberWrong)

/-- 'laws.FnExactSameCoset': WHATEVER THE INPUT: true; the input reads as it did. -/
def fnExactSameCosetSpec : ChangeSpec := { name := "fnExactSameCoset", fn := fun _ => fun
  | [d1, d2, d3, d4] => { results := [.lit (.bool true)], args := [d1, d2, d3, d4] }
  | _ => none }
def fnExactSameCosetRow : OpenClaim := { program := "ytpijnjhheikmcaa", sum := "5c0e473ef723f0244c8b44e502894fddad13c8428d107537dd131c26f6b1e151", func := "loop.example/g00855/laws.FnExactSameCoset", spec := "fnExactSameCoset", unfollowed := true, recurses := true, apart := false }
def FnExactSameCosetSaid : Prop := fnExactSameCosetRow.holds Try.pinned (OpenSpec.ofChange fnExactSameCosetSpec)

/-- ITS FALSE NEIGHBOUR: 'it returns false'. Refute it at one input. -/
def fnExactSameCosetWrong : ChangeSpec := { name := "fnExactSameCoset", fn := fun _ => fun
  | [d1, d2, d3, d4] => { results := [.lit (.bool false)], args := [d1, d2, d3, d4] }
  | _ => none }
def FnExactSameCosetWrongFalsely : Prop := fnExactSameCosetRow.holds Try.pinned (OpenSpec.ofChange fnExactSameCosetWrong)

/-- 'laws.FnExactIsSubgroup': WHATEVER THE INPUT: true; the input reads as it did. -/
def fnExactIsSubgroupSpec : ChangeSpec := { name := "fnExactIsSubgroup", fn := fun _ => fun
  | [d1, d2, d3] => { results := [.lit (.bool true)], args := [d1, d2, d3] }
  | _ => none }
def fnExactIsSubgroupRow : OpenClaim := { program := "ytpijnjhheikmcaa", sum := "5c0e473ef723f0244c8b44e502894fddad13c8428d107537dd131c26f6b1e151", func := "loop.example/g00855/laws.FnExactIsSubgroup", spec := "fnExactIsSubgroup", unfollowed := true, recurses := true, apart := false }
def FnExactIsSubgroupSaid : Prop := fnExactIsSubgroupRow.holds Try.pinned (OpenSpec.ofChange fnExactIsSubgroupSpec)

/-- ITS FALSE NEIGHBOUR: 'it returns false'. Refute it at one input. -/
def fnExactIsSubgroupWrong : ChangeSpec := { name := "fnExactIsSubgroup", fn := fun _ => fun
  | [d1, d2, d3] => { results := [.lit (.bool false)], args := [d1, d2, d3] }
  | _ => none }
def FnExactIsSubgroupWrongFalsely : Prop := fnExactIsSubgroupRow.holds Try.pinned (OpenSpec.ofChange fnExactIsSubgroupWrong)

/-- 'laws.FnExactSameGroup': WHATEVER THE INPUT: true; the input reads as it did. -/
def fnExactSameGroupSpec : ChangeSpec := { name := "fnExactSameGroup", fn := fun _ => fun
  | [d1, d2, d3] => { results := [.lit (.bool true)], args := [d1, d2, d3] }
  | _ => none }
def fnExactSameGroupRow : OpenClaim := { program := "ytpijnjhheikmcaa", sum := "5c0e473ef723f0244c8b44e502894fddad13c8428d107537dd131c26f6b1e151", func := "loop.example/g00855/laws.FnExactSameGroup", spec := "fnExactSameGroup", unfollowed := true, recurses := true, apart := false }
def FnExactSameGroupSaid : Prop := fnExactSameGroupRow.holds Try.pinned (OpenSpec.ofChange fnExactSameGroupSpec)

/-- ITS FALSE NEIGHBOUR: 'it returns false'. Refute it at one input. -/
def fnExactSameGroupWrong : ChangeSpec := { name := "fnExactSameGroup", fn := fun _ => fun
  | [d1, d2, d3] => { results := [.lit (.bool false)], args := [d1, d2, d3] }
  | _ => none }
def FnExactSameGroupWrongFalsely : Prop := fnExactSameGroupRow.holds Try.pinned (OpenSpec.ofChange fnExactSameGroupWrong)

/-- 'laws.FnExactGroupOrder': WHATEVER THE INPUT: true; the input reads as it did. -/
def fnExactGroupOrderSpec : ChangeSpec := { name := "fnExactGroupOrder", fn := fun _ => fun
  | [d1, d2] => { results := [.lit (.bool true)], args := [d1, d2] }
  | _ => none }
def fnExactGroupOrderRow : OpenClaim := { program := "ytpijnjhheikmcaa", sum := "5c0e473ef723f0244c8b44e502894fddad13c8428d107537dd131c26f6b1e151", func := "loop.example/g00855/laws.FnExactGroupOrder", spec := "fnExactGroupOrder", unfollowed := true, recurses := true, apart := false }
def FnExactGroupOrderSaid : Prop := fnExactGroupOrderRow.holds Try.pinned (OpenSpec.ofChange fnExactGroupOrderSpec)

/-- ITS FALSE NEIGHBOUR: 'it returns false'. Refute it at one input. -/
def fnExactGroupOrderWrong : ChangeSpec := { name := "fnExactGroupOrder", fn := fun _ => fun
  | [d1, d2] => { results := [.lit (.bool false)], args := [d1, d2] }
  | _ => none }
def FnExactGroupOrderWrongFalsely : Prop := fnExactGroupOrderRow.holds Try.pinned (OpenSpec.ofChange fnExactGroupOrderWrong)

/-- 'laws.FnExactOrbitSizes': WHATEVER THE INPUT: true; the input reads as it did. -/
def fnExactOrbitSizesSpec : ChangeSpec := { name := "fnExactOrbitSizes", fn := fun _ => fun
  | [d1, d2] => { results := [.lit (.bool true)], args := [d1, d2] }
  | _ => none }
def fnExactOrbitSizesRow : OpenClaim := { program := "ytpijnjhheikmcaa", sum := "5c0e473ef723f0244c8b44e502894fddad13c8428d107537dd131c26f6b1e151", func := "loop.example/g00855/laws.FnExactOrbitSizes", spec := "fnExactOrbitSizes", unfollowed := true, recurses := true, apart := false }
def FnExactOrbitSizesSaid : Prop := fnExactOrbitSizesRow.holds Try.pinned (OpenSpec.ofChange fnExactOrbitSizesSpec)

/-- ITS FALSE NEIGHBOUR: 'it returns false'. Refute it at one input. -/
def fnExactOrbitSizesWrong : ChangeSpec := { name := "fnExactOrbitSizes", fn := fun _ => fun
  | [d1, d2] => { results := [.lit (.bool false)], args := [d1, d2] }
  | _ => none }
def FnExactOrbitSizesWrongFalsely : Prop := fnExactOrbitSizesRow.holds Try.pinned (OpenSpec.ofChange fnExactOrbitSizesWrong)

/-- 'laws.FnExactIsNormalSubgroup': WHATEVER THE INPUT: true; the input reads as it did. -/
def fnExactIsNormalSubgroupSpec : ChangeSpec := { name := "fnExactIsNormalSubgroup", fn := fun _ => fun
  | [d1, d2, d3] => { results := [.lit (.bool true)], args := [d1, d2, d3] }
  | _ => none }
def fnExactIsNormalSubgroupRow : OpenClaim := { program := "ytpijnjhheikmcaa", sum := "5c0e473ef723f0244c8b44e502894fddad13c8428d107537dd131c26f6b1e151", func := "loop.example/g00855/laws.FnExactIsNormalSubgroup", spec := "fnExactIsNormalSubgroup", unfollowed := true, recurses := true, apart := false }
def FnExactIsNormalSubgroupSaid : Prop := fnExactIsNormalSubgroupRow.holds Try.pinned (OpenSpec.ofChange fnExactIsNormalSubgroupSpec)

/-- ITS FALSE NEIGHBOUR: 'it returns false'. Refute it at one input. -/
def fnExactIsNormalSubgroupWrong : ChangeSpec := { name := "fnExactIsNormalSubgroup", fn := fun _ => fun
  | [d1, d2, d3] => { results := [.lit (.bool false)], args := [d1, d2, d3] }
  | _ => none }
def FnExactIsNormalSubgroupWrongFalsely : Prop := fnExactIsNormalSubgroupRow.holds Try.pinned (OpenSpec.ofChange fnExactIsNormalSubgroupWrong)

/-- 'laws.FnExactDerivedSubgroupOrder': WHATEVER THE INPUT: true; the input reads as it did. -/
def fnExactDerivedSubgroupOrderSpec : ChangeSpec := { name := "fnExactDerivedSubgroupOrder", fn := fun _ => fun
  | [d1, d2] => { results := [.lit (.bool true)], args := [d1, d2] }
  | _ => none }
def fnExactDerivedSubgroupOrderRow : OpenClaim := { program := "ytpijnjhheikmcaa", sum := "5c0e473ef723f0244c8b44e502894fddad13c8428d107537dd131c26f6b1e151", func := "loop.example/g00855/laws.FnExactDerivedSubgroupOrder", spec := "fnExactDerivedSubgroupOrder", unfollowed := true, recurses := true, apart := false }
def FnExactDerivedSubgroupOrderSaid : Prop := fnExactDerivedSubgroupOrderRow.holds Try.pinned (OpenSpec.ofChange fnExactDerivedSubgroupOrderSpec)

/-- ITS FALSE NEIGHBOUR: 'it returns false'. Refute it at one input. -/
def fnExactDerivedSubgroupOrderWrong : ChangeSpec := { name := "fnExactDerivedSubgroupOrder", fn := fun _ => fun
  | [d1, d2] => { results := [.lit (.bool false)], args := [d1, d2] }
  | _ => none }
def FnExactDerivedSubgroupOrderWrongFalsely : Prop := fnExactDerivedSubgroupOrderRow.holds Try.pinned (OpenSpec.ofChange fnExactDerivedSubgroupOrderWrong)

/-- 'laws.FnExactSubgroupIndex': WHATEVER THE INPUT: true; the input reads as it did. -/
def fnExactSubgroupIndexSpec : ChangeSpec := { name := "fnExactSubgroupIndex", fn := fun _ => fun
  | [d1, d2, d3] => { results := [.lit (.bool true)], args := [d1, d2, d3] }
  | _ => none }
def fnExactSubgroupIndexRow : OpenClaim := { program := "ytpijnjhheikmcaa", sum := "5c0e473ef723f0244c8b44e502894fddad13c8428d107537dd131c26f6b1e151", func := "loop.example/g00855/laws.FnExactSubgroupIndex", spec := "fnExactSubgroupIndex", unfollowed := true, recurses := true, apart := false }
def FnExactSubgroupIndexSaid : Prop := fnExactSubgroupIndexRow.holds Try.pinned (OpenSpec.ofChange fnExactSubgroupIndexSpec)

/-- ITS FALSE NEIGHBOUR: 'it returns false'. Refute it at one input. -/
def fnExactSubgroupIndexWrong : ChangeSpec := { name := "fnExactSubgroupIndex", fn := fun _ => fun
  | [d1, d2, d3] => { results := [.lit (.bool false)], args := [d1, d2, d3] }
  | _ => none }
def FnExactSubgroupIndexWrongFalsely : Prop := fnExactSubgroupIndexRow.holds Try.pinned (OpenSpec.ofChange fnExactSubgroupIndexWrong)

/-- 'laws.FnExactStabilizerOrder': WHATEVER THE INPUT: true; the input reads as it did. -/
def fnExactStabilizerOrderSpec : ChangeSpec := { name := "fnExactStabilizerOrder", fn := fun _ => fun
  | [d1, d2, d3] => { results := [.lit (.bool true)], args := [d1, d2, d3] }
  | _ => none }
def fnExactStabilizerOrderRow : OpenClaim := { program := "ytpijnjhheikmcaa", sum := "5c0e473ef723f0244c8b44e502894fddad13c8428d107537dd131c26f6b1e151", func := "loop.example/g00855/laws.FnExactStabilizerOrder", spec := "fnExactStabilizerOrder", unfollowed := true, recurses := true, apart := false }
def FnExactStabilizerOrderSaid : Prop := fnExactStabilizerOrderRow.holds Try.pinned (OpenSpec.ofChange fnExactStabilizerOrderSpec)

/-- ITS FALSE NEIGHBOUR: 'it returns false'. Refute it at one input. -/
def fnExactStabilizerOrderWrong : ChangeSpec := { name := "fnExactStabilizerOrder", fn := fun _ => fun
  | [d1, d2, d3] => { results := [.lit (.bool false)], args := [d1, d2, d3] }
  | _ => none }
def FnExactStabilizerOrderWrongFalsely : Prop := fnExactStabilizerOrderRow.holds Try.pinned (OpenSpec.ofChange fnExactStabilizerOrderWrong)

/-- 'laws.FnExactBlockActionOrder': WHATEVER THE INPUT: true; the input reads as it did. -/
def fnExactBlockActionOrderSpec : ChangeSpec := { name := "fnExactBlockActionOrder", fn := fun _ => fun
  | [d1, d2, d3] => { results := [.lit (.bool true)], args := [d1, d2, d3] }
  | _ => none }
def fnExactBlockActionOrderRow : OpenClaim := { program := "ytpijnjhheikmcaa", sum := "5c0e473ef723f0244c8b44e502894fddad13c8428d107537dd131c26f6b1e151", func := "loop.example/g00855/laws.FnExactBlockActionOrder", spec := "fnExactBlockActionOrder", unfollowed := true, recurses := true, apart := false }
def FnExactBlockActionOrderSaid : Prop := fnExactBlockActionOrderRow.holds Try.pinned (OpenSpec.ofChange fnExactBlockActionOrderSpec)

/-- ITS FALSE NEIGHBOUR: 'it returns false'. Refute it at one input. -/
def fnExactBlockActionOrderWrong : ChangeSpec := { name := "fnExactBlockActionOrder", fn := fun _ => fun
  | [d1, d2, d3] => { results := [.lit (.bool false)], args := [d1, d2, d3] }
  | _ => none }
def FnExactBlockActionOrderWrongFalsely : Prop := fnExactBlockActionOrderRow.holds Try.pinned (OpenSpec.ofChange fnExactBlockActionOrderWrong)

/-- 'laws.FnExactBlockKernelOrder': WHATEVER THE INPUT: true; the input reads as it did. -/
def fnExactBlockKernelOrderSpec : ChangeSpec := { name := "fnExactBlockKernelOrder", fn := fun _ => fun
  | [d1, d2, d3] => { results := [.lit (.bool true)], args := [d1, d2, d3] }
  | _ => none }
def fnExactBlockKernelOrderRow : OpenClaim := { program := "ytpijnjhheikmcaa", sum := "5c0e473ef723f0244c8b44e502894fddad13c8428d107537dd131c26f6b1e151", func := "loop.example/g00855/laws.FnExactBlockKernelOrder", spec := "fnExactBlockKernelOrder", unfollowed := true, recurses := true, apart := false }
def FnExactBlockKernelOrderSaid : Prop := fnExactBlockKernelOrderRow.holds Try.pinned (OpenSpec.ofChange fnExactBlockKernelOrderSpec)

/-- ITS FALSE NEIGHBOUR: 'it returns false'. Refute it at one input. -/
def fnExactBlockKernelOrderWrong : ChangeSpec := { name := "fnExactBlockKernelOrder", fn := fun _ => fun
  | [d1, d2, d3] => { results := [.lit (.bool false)], args := [d1, d2, d3] }
  | _ => none }
def FnExactBlockKernelOrderWrongFalsely : Prop := fnExactBlockKernelOrderRow.holds Try.pinned (OpenSpec.ofChange fnExactBlockKernelOrderWrong)

/- THE SECOND FORM. 'bulk': how many values and letters a reading holds, each counted each time it is reached (what is shared counts as often as it is met; a slice's spare places count too). A statement '..UptoSaid' is the law's where the arguments, and the package variables that the reading takes, are together of bulk at most 1048576: NARROWER than '..Said'. Prove '..Said' where nothing that the law and all that it calls make is longer than what came in: it says more and counts as full. Else prove '..UptoSaid'. A law counts once. -/
mutual
def uptoBulk {H : Type} : DataW H → Nat
  | .lit (.string bytes) => bytes.length + 1
  | .lit _ => 1
  | .nil => 1
  | .ptr d => uptoBulk d + 1
  | .slice elems spare => uptoBulkAll elems + uptoBulkAll spare + 1
  | .agg parts => uptoBulkAll parts + 1
  | .iface _ d => uptoBulk d + 1
  | .map entries => uptoBulkEntries entries + 1
  | .held _ => 1
def uptoBulkAll {H : Type} : List (DataW H) → Nat
  | [] => 0
  | d :: r => uptoBulk d + uptoBulkAll r
def uptoBulkEntries {H : Type} : List (Lit × DataW H) → Nat
  | [] => 0
  | x :: r => uptoBulkEntry x + uptoBulkEntries r
def uptoBulkEntry {H : Type} : Lit × DataW H → Nat
  | (.string bytes, d) => bytes.length + uptoBulk d + 1
  | (_, d) => uptoBulk d + 1
 end
def uptoSmall : (H : Type) → List (DataW H) → Bool := fun _ ds => decide (uptoBulkAll ds ≤ 1048576)
def OpenSpec.upto (s : _root_.Go.ChangeSpec) : _root_.Go.OpenSpec := { _root_.Go.OpenSpec.ofChange s with cond := some uptoSmall }

/-- 'laws.FnExactIsMember', WHERE WHAT IT READS IS OF BULK AT MOST 1048576: true; the input reads as it did. -/
def fnExactIsMemberUptoRow : OpenClaim := { program := "ytpijnjhheikmcaa", sum := "5c0e473ef723f0244c8b44e502894fddad13c8428d107537dd131c26f6b1e151", func := "loop.example/g00855/laws.FnExactIsMember", spec := "fnExactIsMember", unfollowed := true, recurses := true, apart := false, narrowed := true }
def FnExactIsMemberUptoSaid : Prop := fnExactIsMemberUptoRow.holds Try.pinned (OpenSpec.upto fnExactIsMemberSpec)

/-- 'laws.FnExactSameCoset', WHERE WHAT IT READS IS OF BULK AT MOST 1048576: true; the input reads as it did. -/
def fnExactSameCosetUptoRow : OpenClaim := { program := "ytpijnjhheikmcaa", sum := "5c0e473ef723f0244c8b44e502894fddad13c8428d107537dd131c26f6b1e151", func := "loop.example/g00855/laws.FnExactSameCoset", spec := "fnExactSameCoset", unfollowed := true, recurses := true, apart := false, narrowed := true }
def FnExactSameCosetUptoSaid : Prop := fnExactSameCosetUptoRow.holds Try.pinned (OpenSpec.upto fnExactSameCosetSpec)

/-- 'laws.FnExactIsSubgroup', WHERE WHAT IT READS IS OF BULK AT MOST 1048576: true; the input reads as it did. -/
def fnExactIsSubgroupUptoRow : OpenClaim := { program := "ytpijnjhheikmcaa", sum := "5c0e473ef723f0244c8b44e502894fddad13c8428d107537dd131c26f6b1e151", func := "loop.example/g00855/laws.FnExactIsSubgroup", spec := "fnExactIsSubgroup", unfollowed := true, recurses := true, apart := false, narrowed := true }
def FnExactIsSubgroupUptoSaid : Prop := fnExactIsSubgroupUptoRow.holds Try.pinned (OpenSpec.upto fnExactIsSubgroupSpec)

/-- 'laws.FnExactSameGroup', WHERE WHAT IT READS IS OF BULK AT MOST 1048576: true; the input reads as it did. -/
def fnExactSameGroupUptoRow : OpenClaim := { program := "ytpijnjhheikmcaa", sum := "5c0e473ef723f0244c8b44e502894fddad13c8428d107537dd131c26f6b1e151", func := "loop.example/g00855/laws.FnExactSameGroup", spec := "fnExactSameGroup", unfollowed := true, recurses := true, apart := false, narrowed := true }
def FnExactSameGroupUptoSaid : Prop := fnExactSameGroupUptoRow.holds Try.pinned (OpenSpec.upto fnExactSameGroupSpec)

/-- 'laws.FnExactGroupOrder', WHERE WHAT IT READS IS OF BULK AT MOST 1048576: true; the input reads as it did. -/
def fnExactGroupOrderUptoRow : OpenClaim := { program := "ytpijnjhheikmcaa", sum := "5c0e473ef723f0244c8b44e502894fddad13c8428d107537dd131c26f6b1e151", func := "loop.example/g00855/laws.FnExactGroupOrder", spec := "fnExactGroupOrder", unfollowed := true, recurses := true, apart := false, narrowed := true }
def FnExactGroupOrderUptoSaid : Prop := fnExactGroupOrderUptoRow.holds Try.pinned (OpenSpec.upto fnExactGroupOrderSpec)

/-- 'laws.FnExactOrbitSizes', WHERE WHAT IT READS IS OF BULK AT MOST 1048576: true; the input reads as it did. -/
def fnExactOrbitSizesUptoRow : OpenClaim := { program := "ytpijnjhheikmcaa", sum := "5c0e473ef723f0244c8b44e502894fddad13c8428d107537dd131c26f6b1e151", func := "loop.example/g00855/laws.FnExactOrbitSizes", spec := "fnExactOrbitSizes", unfollowed := true, recurses := true, apart := false, narrowed := true }
def FnExactOrbitSizesUptoSaid : Prop := fnExactOrbitSizesUptoRow.holds Try.pinned (OpenSpec.upto fnExactOrbitSizesSpec)

/-- 'laws.FnExactIsNormalSubgroup', WHERE WHAT IT READS IS OF BULK AT MOST 1048576: true; the input reads as it did. -/
def fnExactIsNormalSubgroupUptoRow : OpenClaim := { program := "ytpijnjhheikmcaa", sum := "5c0e473ef723f0244c8b44e502894fddad13c8428d107537dd131c26f6b1e151", func := "loop.example/g00855/laws.FnExactIsNormalSubgroup", spec := "fnExactIsNormalSubgroup", unfollowed := true, recurses := true, apart := false, narrowed := true }
def FnExactIsNormalSubgroupUptoSaid : Prop := fnExactIsNormalSubgroupUptoRow.holds Try.pinned (OpenSpec.upto fnExactIsNormalSubgroupSpec)

/-- 'laws.FnExactDerivedSubgroupOrder', WHERE WHAT IT READS IS OF BULK AT MOST 1048576: true; the input reads as it did. -/
def fnExactDerivedSubgroupOrderUptoRow : OpenClaim := { program := "ytpijnjhheikmcaa", sum := "5c0e473ef723f0244c8b44e502894fddad13c8428d107537dd131c26f6b1e151", func := "loop.example/g00855/laws.FnExactDerivedSubgroupOrder", spec := "fnExactDerivedSubgroupOrder", unfollowed := true, recurses := true, apart := false, narrowed := true }
def FnExactDerivedSubgroupOrderUptoSaid : Prop := fnExactDerivedSubgroupOrderUptoRow.holds Try.pinned (OpenSpec.upto fnExactDerivedSubgroupOrderSpec)

/-- 'laws.FnExactSubgroupIndex', WHERE WHAT IT READS IS OF BULK AT MOST 1048576: true; the input reads as it did. -/
def fnExactSubgroupIndexUptoRow : OpenClaim := { program := "ytpijnjhheikmcaa", sum := "5c0e473ef723f0244c8b44e502894fddad13c8428d107537dd131c26f6b1e151", func := "loop.example/g00855/laws.FnExactSubgroupIndex", spec := "fnExactSubgroupIndex", unfollowed := true, recurses := true, apart := false, narrowed := true }
def FnExactSubgroupIndexUptoSaid : Prop := fnExactSubgroupIndexUptoRow.holds Try.pinned (OpenSpec.upto fnExactSubgroupIndexSpec)

/-- 'laws.FnExactStabilizerOrder', WHERE WHAT IT READS IS OF BULK AT MOST 1048576: true; the input reads as it did. -/
def fnExactStabilizerOrderUptoRow : OpenClaim := { program := "ytpijnjhheikmcaa", sum := "5c0e473ef723f0244c8b44e502894fddad13c8428d107537dd131c26f6b1e151", func := "loop.example/g00855/laws.FnExactStabilizerOrder", spec := "fnExactStabilizerOrder", unfollowed := true, recurses := true, apart := false, narrowed := true }
def FnExactStabilizerOrderUptoSaid : Prop := fnExactStabilizerOrderUptoRow.holds Try.pinned (OpenSpec.upto fnExactStabilizerOrderSpec)

/-- 'laws.FnExactBlockActionOrder', WHERE WHAT IT READS IS OF BULK AT MOST 1048576: true; the input reads as it did. -/
def fnExactBlockActionOrderUptoRow : OpenClaim := { program := "ytpijnjhheikmcaa", sum := "5c0e473ef723f0244c8b44e502894fddad13c8428d107537dd131c26f6b1e151", func := "loop.example/g00855/laws.FnExactBlockActionOrder", spec := "fnExactBlockActionOrder", unfollowed := true, recurses := true, apart := false, narrowed := true }
def FnExactBlockActionOrderUptoSaid : Prop := fnExactBlockActionOrderUptoRow.holds Try.pinned (OpenSpec.upto fnExactBlockActionOrderSpec)

/-- 'laws.FnExactBlockKernelOrder', WHERE WHAT IT READS IS OF BULK AT MOST 1048576: true; the input reads as it did. -/
def fnExactBlockKernelOrderUptoRow : OpenClaim := { program := "ytpijnjhheikmcaa", sum := "5c0e473ef723f0244c8b44e502894fddad13c8428d107537dd131c26f6b1e151", func := "loop.example/g00855/laws.FnExactBlockKernelOrder", spec := "fnExactBlockKernelOrder", unfollowed := true, recurses := true, apart := false, narrowed := true }
def FnExactBlockKernelOrderUptoSaid : Prop := fnExactBlockKernelOrderUptoRow.holds Try.pinned (OpenSpec.upto fnExactBlockKernelOrderSpec)

end Rows
end Go.Proofs.Ytpijnjhheikmcaa
