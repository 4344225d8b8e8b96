/- The law of ParseCycles (FnExactParseCycles): for every input it returns true, and what the arguments hold is as it was. The walk, and the row. No condition. -/
import Derived.Test.YtkojonjcikgikaaDoorPcI
import Derived.Test.YtkojonjcikgikaaDoorLaidP
import Derived.ProofKit
import Derived.OpenShut
import Derived.ShutString
import Derived.ChangeOld
import Derived.LaidMore
import Derived.LaidHandle
import Derived.Lay
import Derived.Stop.Joined
import Derived.Test.YtkojonjcikgikaaDoorTie
import Derived.Test.YtkojonjcikgikaaDoorCards
import Derived.SevenTiedAt
namespace Go.Proofs.YtkojonjcikgikaaDoor
open Go.RowKit

set_option maxHeartbeats 1000000 in
theorem lawParseCycles (z0 : Int) (s1 : ByteArray) (w : World) (hz0 : -9223372036854775808 ≤ z0 ∧ z0 ≤ 9223372036854775807) (hs1 : s1.size ≤ 9223372036854775807) (hW : LibW w) :
    Calls Tryd.prog 4 #[.int .i64 z0, .string s1] w fun e w' => e = .returned (.bool true) ∧ Below w.heap.size w w' := by
  obtain ⟨R, hR⟩ : ∃ R : Ending → World → Prop, R = fun e w' => e = .returned (.bool true) ∧ Below w.heap.size w w' := ⟨_, rfl⟩
  have H : Hd (∀ w', Below w.heap.size w w' → R (.returned (.bool true)) w') := by intro w' h; rw [hR]; exact ⟨rfl, h⟩
  rw [← hR]; clear hR
  have hB := Below.refl w.heap.size w
  by_cases hn1 : s1.size ≤ 1048576
  rotate_left
  · go_enter Tryd.func4, Tryd.ntmps4
    go_wp2_with fail
    exact H.o _ (Below.refl _ _)
  go_enter Tryd.func4, Tryd.ntmps4
  go_wp2_with fail
  refine topSpecParseCycles z0 s1 _ hz0 hs1 (hW.up hB) ?_
  intro b1 m1 d1 w1 hb1 ho1
  replace ho1 := ho1.mono hB.size
  replace hB := below_ups hB hb1 hB.size
  have l_ho1 := ho1.le
  go_wp2_with fail
  refine topImplParseCycles z0 s1 _ hz0 hs1 (hW.up hB) ?_
  intro b2 m2 d2 w2 hb2 ho2
  have ap_ho1_ho2 := Hd.i (ho1.apart ho2)
  have ap_ho2_ho1 := Hd.i (ho1.apart' ho2)
  replace ho1 := ho1.up hb2
  replace ho2 := ho2.mono hB.size
  replace hB := below_ups hB hb2 hB.size
  have l_ho2 := ho2.le
  go_wp2_with fail
  refine eqInt64S_c _ _ _ (pPC z0 s1.data.toList) _ _ _ (pPC z0 s1.data.toList) _ ho2.ints ho1.ints ?_
  intro w3 hd3
  replace ho1 := hd3.ownI ho1
  replace ho2 := hd3.ownI ho2
  replace hB := hd3.up hB
  go_wp2_with fail
  refine markInt64S_c _ _ _ _ (pPC z0 s1.data.toList) _ _ ho2 (by omega) (by omega) ?_
  intro w4 hw4 hm4
  replace ho1 := ho1.wrote hw4 ap_ho1_ho2.o
  replace ho2 := hm4
  clear hm4
  replace hB := hB.trans (hw4.below ho2.ge)
  go_wp2_with fail
  refine heldInt64S_c _ _ _ _ _ ho2.ints (by omega) (by omega) ?_
  go_wp2_with fail
  refine topImplParseCycles z0 s1 _ hz0 hs1 (hW.up hB) ?_
  intro b5 m5 d5 w5 hb5 ho5
  have ap_ho1_ho5 := Hd.i (ho1.apart ho5)
  have ap_ho5_ho1 := Hd.i (ho1.apart' ho5)
  have ap_ho2_ho5 := Hd.i (ho2.apart ho5)
  have ap_ho5_ho2 := Hd.i (ho2.apart' ho5)
  replace ho1 := ho1.up hb5
  replace ho2 := ho2.up hb5
  replace ho5 := ho5.mono hB.size
  replace hB := below_ups hB hb5 hB.size
  have l_ho5 := ho5.le
  go_wp2_with fail
  refine eqInt64S_c _ _ _ (pPC z0 s1.data.toList) _ _ _ (pPC z0 s1.data.toList) _ ho5.ints ho1.ints ?_
  intro w6 hd6
  replace ho1 := hd6.ownI ho1
  replace ho2 := hd6.ownI ho2
  replace ho5 := hd6.ownI ho5
  replace hB := hd6.up hB
  go_wp2_with fail
  refine heldInt64S_c _ _ _ _ _ ho2.ints (by omega) (by omega) ?_
  go_wp2_with fail
  exact H.o _ hB

set_option linter.unusedVariables false
namespace fnExactParseCycles
open Go.ChangeShapes Go.WideShapes Go.ChangeAt Go.RowKit
open Go.ChangeMaps (open_string shut_string)

theorem own : ownKnob Tryd.prog.godebug = none := by kernel_rfl
theorem laidOut : laidOutB Tryd.prog = true := by kernel_rfl

set_option maxRecDepth 100000 in
theorem lifted (os : Os) (started : os.Started) (H : Type) (enc : TypeId × Value → H) :
    ReturnsInHanded {} Tryd.checked os 4 .any (fun w args => (Rows.fnExactParseCyclesSpec.pre enc Tryd.prog Tryd.f4 [] false w args ∧ laidMetH Tryd.prog Rows.fnExactParseCyclesRow.laid w) ∧ sizedMet enc Tryd.prog Tryd.f4 (OpenSpec.ofChange Rows.fnExactParseCyclesSpec) false w args)
      (Rows.fnExactParseCyclesSpec.post enc Tryd.prog Tryd.f4 false true false false) := by
  refine handed_shaped (C := Tryd.checked) (X := fun w _ => laidMetH Tryd.prog Rows.fnExactParseCyclesRow.laid w) (fun _ _ _ hh h => h.of_heap hh) own started (by kernel_rfl) Tryd.func4
    (ChangeSpec.witness_shaped (enc := enc) (C := Tryd.checked) (os := os) (X := fun w _ => laidMetH Tryd.prog Rows.fnExactParseCyclesRow.laid w) false (World.laidAll Tryd.prog os Rows.fnExactParseCyclesRow.laid) #[.int .i64 0, .string ⟨#[]⟩] 8 (World.laidAll_os _ _ _) (World.shaped_of_ZipB (by kernel_rfl) (by kernel_rfl)) (by kernel_rfl) (by kernel_rfl) (by kernel_rfl) (by rw [MakeChecks.laidMetH_plain _ _ _ (by kernel_rfl)]; exact laidMet_laidAll _ (by kernel_rfl) (by kernel_rfl))) ?_
  intro W base args ds gs before hval0 hW hL0 hsh
  have hL := libW_of hL0 hsh (by kernel_rfl)
  have hval : ∀ (j : Nat) t v, Tryd.f4.params[j]? = some t → args[j]? = some v → Value.okWide Tryd.prog W .any base t v := hval0
  have hW' := hW
  obtain ⟨p, q, hA0, hV, rfl, hfz, hnd⟩ := hW
  have hA : DataW.TrodAll enc Tryd.prog W 0 (fun _ => true) true Tryd.f4.params.toList args.toList ds p := hA0
  rw [Tryd.params4] at hA hval
  obtain ⟨v0, vs0, d0, ds0, p0, q0, hargs, rfl, rfl, h0, r0⟩ := trodAll_cons hA
  obtain ⟨v1, vs1, d1, ds1, p1, q1, rfl, rfl, rfl, h1, r1⟩ := trodAll_cons r0
  obtain ⟨rfl, rfl, rfl⟩ := trodAll_nil r1
  obtain rfl : args = #[v0, v1] := by cases args; simp_all
  obtain ⟨rfl, rfl⟩ := trodVars_none hV
  obtain ⟨a0, rfl, rfl, rfl, w0⟩ := open_int Tryd.underlying2 (hval 0 2 v0 rfl rfl) h0
  have u0 : -9223372036854775808 ≤ a0 ∧ a0 ≤ 9223372036854775807 := by simpa [Lit.wf, IntKind.min, IntKind.max, IntKind.signed, IntKind.bits] using w0
  obtain ⟨a1, rfl, rfl, rfl, w1⟩ := open_string Tryd.underlying9 (hval 1 9 v1 rfl rfl) h1
  have u1 : a1.size ≤ 9223372036854775807 := by have := w1; unfold maxLen at this; omega
  clear hA0 hval0
  refine (lawParseCycles a0 a1 W u0 u1 hL).mono fun e W' ⟨he, bel⟩ => ?_
  subst he
  exact ⟨_, rfl, _, _, _, [], _, [], hW', trodAll_mk1 (shut_bool Tryd.underlying4 _), (trodAll_cons_mk (shut_int Tryd.underlying2 w0) (trodAll_cons_mk (shut_string Tryd.underlying9 w1) trodAll_mk0)), rfl, bel.frame _, fun h => by cases h⟩

theorem over : Rows.fnExactParseCyclesRow.holds Tryd.pinned (OpenSpec.ofChange Rows.fnExactParseCyclesSpec) :=
  OpenClaim.holds_of_wide 4 Tryd.f4 rfl rfl rfl rfl rfl rfl rfl ⟨rfl, rfl, rfl, rfl, rfl⟩ rfl rfl rfl rfl rfl (by kernel_rfl) Tryd.func4 (by kernel_rfl)
    (of_decide_eq_true (by kernel_rfl)) (by unfold Func.isWrapper; first | (rw [if_pos (by decide +kernel)]; kernel_rfl) | (rw [if_neg (by decide +kernel)]; exact ⟨rfl, rfl⟩))
    (fun os started H enc _ => lifted os started H enc)

theorem row_holds : Rows.FnExactParseCyclesSaid := over
theorem card_holds : Claim7.holds Tryd.pinned (.plain (OpenSpec.ofChange Rows.fnExactParseCyclesSpec)) Rows.fnExactParseCyclesCard :=
  Claim7.holds_tied_plain_at .later [] [.data, .data, .data, .data, .sentinel, .sentinel, .pinned] true (true, "2658648ae35843d078e6fc8df56ffeb1d2b2c51afee2f93e0c912d39be05ed69") true
    row_holds (fun _ h => by cases h) (by kernel_rfl) (fun _ h => by cases h) fnExactParseCycles_row_tie rfl ⟨rfl, rfl⟩ (by kernel_rfl) rfl
    (fun f fn hf hfn => by
      obtain rfl : f = 4 := Option.some.inj ((show Tryd.prog.funcNamed Rows.fnExactParseCyclesRow.func = some 4 by kernel_rfl).symm.trans hf) |>.symm
      obtain rfl : fn = Tryd.f4 := (Option.some.inj (Tryd.func4.symm.trans hfn)).symm
      exact ⟨by kernel_rfl, fun j t ht => by
        rw [Tryd.params4] at ht
        have hm : t ∈ [2, 9] := by simpa using Array.mem_of_getElem? ht
        have hall : ([2, 9].all fun u => !Tryd.prog.wantsStandIn u) = true := by kernel_rfl
        exact (show Tryd.prog.wantsStandIn t = false by simpa using List.all_eq_true.1 hall t hm)⟩)
    (by kernel_rfl)
theorem proved : Rows.FnExactParseCyclesCardSaid := card_holds
end fnExactParseCycles
end Go.Proofs.YtkojonjcikgikaaDoor
