/- The law of DerivedSubgroupOrder (FnExactDerivedSubgroupOrder): for every input it returns true, and what the arguments hold is as it was. The walk, and the row. No condition. -/
import Derived.Test.YtpijnjhheikmcaaDerS
import Derived.ProofKit
import Derived.OpenShut
import Derived.ShutString
import Derived.ChangeOld
import Derived.Deep.Matrix
namespace Go.Proofs.Ytpijnjhheikmcaa
open Go.RowKit

set_option maxHeartbeats 1000000 in
theorem lawDerivedSubgroupOrder (z0 : Int) (a1 : Option Addr) (n1 c1 : Nat) (xs1 : List (List Int)) (w : World) (hz0 : -9223372036854775808 ≤ z0 ∧ z0 ≤ 9223372036854775807) (hx1 : Mat w a1 n1 xs1) :
    Calls Try.prog 10 #[.int .i64 z0, .slice a1 n1 c1] w fun e w' => e = .returned (.bool true) ∧ Below w.heap.size w w' := by
  obtain ⟨R, hR⟩ : ∃ R : Ending → World → Prop, R = fun e w' => e = .returned (.bool true) ∧ Below w.heap.size w w' := ⟨_, rfl⟩
  have H : Hd (∀ w', Below w.heap.size w w' → R (.returned (.bool true)) w') := by intro w' h; rw [hR]; exact ⟨rfl, h⟩
  rw [← hR]; clear hR
  have hB := Below.refl w.heap.size w
  go_enter Try.func10, Try.ntmps10
  go_wp2_with fail
  by_cases hf1 : bulk xs1 ≤ 1048576
  rotate_left
  · refine szInt64SS_over _ _ _ xs1 1048576 _ _ (hx1.up hB) (by omega) (Hd.i (by omega)) hf1 ?_
    go_wp2_with fail
    exact H.o _ hB
  refine szInt64SS_fit _ _ _ xs1 1048576 _ _ (hx1.up hB) (by omega) (Hd.i (by omega)) hf1 ?_
  intro rr1 hr1 h01
  have hn1 : bulk xs1 ≤ 1048576 := by omega
  go_wp2_with fail
  refine toInt64SS_c _ _ _ xs1 _ (hx1.up hB) hn1 ?_
  intro b1 m1 d1 g1 w1 hb1 ho1
  replace ho1 := ho1.mono hB.size
  replace hB := below_ups hB hb1 hB.size
  have l_ho1 := ho1.le
  go_wp2_with fail
  refine topSpecDerivedSubgroupOrder z0 b1 m1 d1 _ xs1 _ hz0 ho1 ?_
  clear l_ho1
  intro w2 hb2
  replace hB := below_ups hB hb2 hB.size
  go_wp2_with fail
  refine toInt64SS_c _ _ _ xs1 _ (hx1.up hB) hn1 ?_
  intro b3 m3 d3 g3 w3 hb3 ho3
  replace ho3 := ho3.mono hB.size
  replace hB := below_ups hB hb3 hB.size
  have l_ho3 := ho3.le
  go_wp2_with fail
  refine topImplDerivedSubgroupOrder z0 b3 m3 d3 _ xs1 _ hz0 ho3 ?_
  intro w4 hb4
  replace ho3 := ho3.up hb4
  replace hB := below_ups hB hb4 hB.size
  go_wp2_with fail
  refine toInt64SS_c _ _ _ xs1 _ (hx1.up hB) hn1 ?_
  intro b5 m5 d5 g5 w5 hb5 ho5
  have ap_ho3_ho5 := Hd.i (ho3.off_new ho5.fp_ge)
  have ap_ho5_ho3 := Hd.i (ho5.off_old ho3.fp_lt)
  replace ho3 := ho3.up hb5
  replace ho5 := ho5.mono hB.size
  replace hB := below_ups hB hb5 hB.size
  have l_ho5 := ho5.le
  go_wp2_with fail
  refine eqInt64SS_c _ _ _ xs1 _ _ _ xs1 _ ho3.rows ho5.rows ?_
  intro w6 hd6
  clear l_ho5
  replace ho3 := hd6.ownR ho3
  replace hB := hd6.up hB
  go_wp2_with fail
  exact H.o _ hB

set_option linter.unusedVariables false
namespace fnExactDerivedSubgroupOrder
open Go.ChangeShapes Go.WideShapes Go.ChangeAt Go.RowKit
open Go.ChangeMaps (open_string shut_string)

theorem own : ownKnob Try.prog.godebug = none := by kernel_rfl
theorem laidOut : laidOutB Try.prog = true := by kernel_rfl

set_option maxRecDepth 100000 in
theorem lifted (os : Os) (started : os.Started) (H : Type) (enc : TypeId × Value → H) :
    ReturnsInHanded {} Try.checked os 10 .any (Rows.fnExactDerivedSubgroupOrderSpec.pre6 enc Try.prog Try.f10 Rows.fnExactDerivedSubgroupOrderRow.domain false) (Rows.fnExactDerivedSubgroupOrderSpec.post enc Try.prog Try.f10 false true false false) := by
  refine returnsInHanded_of_change (C := Try.checked) own started (by kernel_rfl) Try.func10
    (ChangeSpec.witness6 (enc := enc) (C := Try.checked) false ⟨#[], #[.int .i64 0, .slice none 0 0], []⟩ 8 (by kernel_rfl) (by kernel_rfl) (by kernel_rfl) (by kernel_rfl)) ?_
  intro W base args ds gs before hval0 hW hcnd _
  have hval : ∀ (j : Nat) t v, Try.f10.params[j]? = some t → args[j]? = some v → Value.okWide Try.prog W .any base t v := hval0
  have hW' := hW
  obtain ⟨p, q, hA0, hV, rfl, hfz, hnd⟩ := hW
  have hA : DataW.TrodAll enc Try.prog W 0 (fun _ => true) true Try.f10.params.toList args.toList ds p := hA0
  rw [Try.params10] at hA hval
  obtain ⟨v0, vs0, d0, ds0, p0, q0, hargs, rfl, rfl, h0, r0⟩ := trodAll_cons hA
  obtain ⟨v1, vs1, d1, ds1, p1, q1, rfl, rfl, rfl, h1, r1⟩ := trodAll_cons r0
  obtain ⟨rfl, rfl, rfl⟩ := trodAll_nil r1
  obtain rfl : args = #[v0, v1] := by cases args; simp_all
  obtain ⟨rfl, rfl⟩ := trodVars_none hV
  obtain ⟨a0, rfl, rfl, rfl, w0⟩ := open_int Try.underlying2 (hval 0 2 v0 rfl rfl) h0
  have u0 : -9223372036854775808 ≤ a0 ∧ a0 ≤ 9223372036854775807 := by simpa [Lit.wf, IntKind.min, IntKind.max, IntKind.signed, IntKind.bits] using w0
  obtain ⟨a1, len1, cap1, rfl⟩ := okWide_slice Try.underlying22 (hval 1 22 v1 rfl rfl)
  have k1 := h1
  have lt1 : ∀ x ∈ p1, x.block < W.heap.size := by obtain ⟨m, hm⟩ := k1; exact DataW.trod_lt m _ _ _ hm
  obtain ⟨z1, u1⟩ : ∃ zs, Mat W a1 len1 zs := by
    obtain ⟨fuel, hf⟩ := h1
    rcases Go.Deep.open_int_rows Try.underlying22 Try.underlying23 Try.underlying2 (by kernel_rfl) (by kernel_rfl) hf with ⟨hcs, _⟩ | ⟨x, l, c, A, L, C, Z, hcs, _, hl, hm, _, hrow⟩
    · simp [Value.cells] at hcs
      obtain ⟨rfl, rfl, rfl⟩ := hcs
      exact ⟨[], Mat.nil _⟩
    · simp [Value.cells] at hcs
      obtain ⟨rfl, rfl, rfl⟩ := hcs
      exact ⟨_, Mat.of_open hl hm hrow⟩
  clear hA0 hval0
  refine (lawDerivedSubgroupOrder a0 a1 len1 cap1 z1 W u0 u1).mono fun e W' ⟨he, bel⟩ => ?_
  subst he
  exact ⟨_, rfl, _, _, _, [], _, [], hW', trodAll_mk1 (shut_bool Try.underlying4 _), (trodAll_cons_mk (shut_int Try.underlying2 w0) (trodAll_cons_mk (Below.trod laidOut (by kernel_rfl) (of_decide_eq_true (by kernel_rfl)) k1 bel lt1) trodAll_mk0)), rfl, bel.frame _, fun h => by cases h⟩

theorem over : Rows.fnExactDerivedSubgroupOrderRow.holds Try.pinned (OpenSpec.ofChange Rows.fnExactDerivedSubgroupOrderSpec) :=
  OpenClaim.holds_of_wide 10 Try.f10 rfl rfl rfl rfl rfl rfl rfl ⟨rfl, rfl, rfl, rfl, rfl⟩ rfl rfl rfl rfl rfl (by kernel_rfl) Try.func10 (by kernel_rfl)
    (of_decide_eq_true (by kernel_rfl)) (by unfold Func.isWrapper; first | (rw [if_pos (by decide +kernel)]; kernel_rfl) | (rw [if_neg (by decide +kernel)]; exact ⟨rfl, rfl⟩))
    (fun os started H enc _ => lifted os started H enc)

theorem proved : Rows.FnExactDerivedSubgroupOrderSaid := over
end fnExactDerivedSubgroupOrder
end Go.Proofs.Ytpijnjhheikmcaa
