/- The law of Identity (FnExactIdentity): for every input it returns true, and what the arguments hold is as it was. The walk, and the row. No condition. -/
import Derived.Test.YtkjnabpllecglaaPermTop
import Derived.ProofKit
import Derived.OpenShut
import Derived.ShutString
import Derived.ChangeOld
namespace Go.Proofs.Ytkjnabpllecglaa
open Go.RowKit

set_option maxHeartbeats 1000000 in
theorem lawIdentity (z0 : Int) (w : World) (hz0 : -9223372036854775808 ≤ z0 ∧ z0 ≤ 9223372036854775807) :
    Calls Try.prog 6 #[.int .i64 z0] w fun e w' => e = .returned (.bool true) ∧ Below w.heap.size w w' := by
  obtain ⟨R, hR⟩ : ∃ R : Ending → World → Prop, R = fun e w' => e = .returned (.bool true) ∧ Below w.heap.size w w' := ⟨_, rfl⟩
  have H : Hd (∀ w', Below w.heap.size w w' → R (.returned (.bool true)) w') := by intro w' h; rw [hR]; exact ⟨rfl, h⟩
  rw [← hR]; clear hR
  have hB := Below.refl w.heap.size w
  go_enter Try.func6, Try.ntmps6
  go_wp2_with fail
  refine topSpecIdentity z0 _ hz0 ?_
  intro b1 m1 d1 w1 hb1 ho1
  replace ho1 := ho1.mono hB.size
  replace hB := below_ups hB hb1 hB.size
  have l_ho1 := ho1.le
  go_wp2_with fail
  refine topImplIdentity z0 _ hz0 ?_
  intro b2 m2 d2 w2 hb2 ho2
  have ap_ho1_ho2 := Hd.i (ho1.apart ho2)
  have ap_ho2_ho1 := Hd.i (ho1.apart' ho2)
  replace ho1 := ho1.up hb2
  replace ho2 := ho2.mono hB.size
  replace hB := below_ups hB hb2 hB.size
  have l_ho2 := ho2.le
  go_wp2_with fail
  refine eqInt64S_c _ _ _ (pIdentity z0) _ _ _ (pIdentity z0) _ ho2.ints ho1.ints ?_
  intro w3 hd3
  replace ho1 := hd3.ownI ho1
  replace ho2 := hd3.ownI ho2
  replace hB := hd3.up hB
  go_wp2_with fail
  refine markInt64S_c _ _ _ _ (pIdentity z0) _ _ ho2 (by omega) (by omega) ?_
  intro w4 hw4 hm4
  replace ho1 := ho1.wrote hw4 ap_ho1_ho2.o
  replace ho2 := hm4
  clear hm4
  replace hB := hB.trans (hw4.below ho2.ge)
  go_wp2_with fail
  refine heldInt64S_c _ _ _ _ _ ho2.ints (by omega) (by omega) ?_
  go_wp2_with fail
  refine topImplIdentity z0 _ hz0 ?_
  intro b5 m5 d5 w5 hb5 ho5
  have ap_ho1_ho5 := Hd.i (ho1.apart ho5)
  have ap_ho5_ho1 := Hd.i (ho1.apart' ho5)
  have ap_ho2_ho5 := Hd.i (ho2.apart ho5)
  have ap_ho5_ho2 := Hd.i (ho2.apart' ho5)
  replace ho1 := ho1.up hb5
  replace ho2 := ho2.up hb5
  replace ho5 := ho5.mono hB.size
  replace hB := below_ups hB hb5 hB.size
  have l_ho5 := ho5.le
  go_wp2_with fail
  refine eqInt64S_c _ _ _ (pIdentity z0) _ _ _ (pIdentity z0) _ ho5.ints ho1.ints ?_
  intro w6 hd6
  replace ho1 := hd6.ownI ho1
  replace ho2 := hd6.ownI ho2
  replace ho5 := hd6.ownI ho5
  replace hB := hd6.up hB
  go_wp2_with fail
  refine heldInt64S_c _ _ _ _ _ ho2.ints (by omega) (by omega) ?_
  go_wp2_with fail
  exact H.o _ hB

set_option linter.unusedVariables false
namespace fnExactIdentity
open Go.ChangeShapes Go.WideShapes Go.ChangeAt Go.RowKit
open Go.ChangeMaps (open_string shut_string)

theorem own : ownKnob Try.prog.godebug = none := by kernel_rfl
theorem laidOut : laidOutB Try.prog = true := by kernel_rfl

set_option maxRecDepth 100000 in
theorem lifted (os : Os) (started : os.Started) (H : Type) (enc : TypeId × Value → H) :
    ReturnsInHanded {} Try.checked os 6 .any (Rows.fnExactIdentitySpec.pre6 enc Try.prog Try.f6 Rows.fnExactIdentityRow.domain false) (Rows.fnExactIdentitySpec.post enc Try.prog Try.f6 false true false false) := by
  refine returnsInHanded_of_change (C := Try.checked) own started (by kernel_rfl) Try.func6
    (ChangeSpec.witness6 (enc := enc) (C := Try.checked) false ⟨#[], #[.int .i64 0], []⟩ 8 (by kernel_rfl) (by kernel_rfl) (by kernel_rfl) (by kernel_rfl)) ?_
  intro W base args ds gs before hval0 hW hcnd _
  have hval : ∀ (j : Nat) t v, Try.f6.params[j]? = some t → args[j]? = some v → Value.okWide Try.prog W .any base t v := hval0
  have hW' := hW
  obtain ⟨p, q, hA0, hV, rfl, hfz, hnd⟩ := hW
  have hA : DataW.TrodAll enc Try.prog W 0 (fun _ => true) true Try.f6.params.toList args.toList ds p := hA0
  rw [Try.params6] at hA hval
  obtain ⟨v0, vs0, d0, ds0, p0, q0, hargs, rfl, rfl, h0, r0⟩ := trodAll_cons hA
  obtain ⟨rfl, rfl, rfl⟩ := trodAll_nil r0
  obtain rfl : args = #[v0] := by cases args; simp_all
  obtain ⟨rfl, rfl⟩ := trodVars_none hV
  obtain ⟨a0, rfl, rfl, rfl, w0⟩ := open_int Try.underlying2 (hval 0 2 v0 rfl rfl) h0
  have u0 : -9223372036854775808 ≤ a0 ∧ a0 ≤ 9223372036854775807 := by simpa [Lit.wf, IntKind.min, IntKind.max, IntKind.signed, IntKind.bits] using w0
  clear hA0 hval0
  refine (lawIdentity a0 W u0).mono fun e W' ⟨he, bel⟩ => ?_
  subst he
  exact ⟨_, rfl, _, _, _, [], _, [], hW', trodAll_mk1 (shut_bool Try.underlying4 _), (trodAll_cons_mk (shut_int Try.underlying2 w0) trodAll_mk0), rfl, bel.frame _, fun h => by cases h⟩

theorem over : Rows.fnExactIdentityRow.holds Try.pinned (OpenSpec.ofChange Rows.fnExactIdentitySpec) :=
  OpenClaim.holds_of_wide 6 Try.f6 rfl rfl rfl rfl rfl rfl rfl ⟨rfl, rfl, rfl, rfl, rfl⟩ rfl rfl rfl rfl rfl (by kernel_rfl) Try.func6 (by kernel_rfl)
    (of_decide_eq_true (by kernel_rfl)) (by unfold Func.isWrapper; first | (rw [if_pos (by decide +kernel)]; kernel_rfl) | (rw [if_neg (by decide +kernel)]; exact ⟨rfl, rfl⟩))
    (fun os started H enc _ => lifted os started H enc)

theorem proved : Rows.FnExactIdentitySaid := over
end fnExactIdentity
end Go.Proofs.Ytkjnabpllecglaa
