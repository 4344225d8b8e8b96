/- The law of CycleType (FnExactCycleType): for every input it returns true, and what the arguments hold is as it was. The walk, and the row. No condition. -/
import Derived.Test.YtkojonjcikgikaaType
import Derived.ProofKit
import Derived.OpenShut
import Derived.ShutString
import Derived.ChangeOld
namespace Go.Proofs.Ytkojonjcikgikaa
open Go.RowKit

set_option maxHeartbeats 1000000 in
theorem lawCycleType (a0 : Option Addr) (n0 c0 : Nat) (xs0 : List Int) (w : World) (hx0 : Ints w a0 n0 xs0) :
    Calls Try.prog 4 #[.slice a0 n0 c0] w fun e w' => e = .returned (.bool true) ∧ Below w.heap.size w w' := by
  obtain ⟨R, hR⟩ : ∃ R : Ending → World → Prop, R = fun e w' => e = .returned (.bool true) ∧ Below w.heap.size w w' := ⟨_, rfl⟩
  have H : Hd (∀ w', Below w.heap.size w w' → R (.returned (.bool true)) w') := by intro w' h; rw [hR]; exact ⟨rfl, h⟩
  rw [← hR]; clear hR
  have hB := Below.refl w.heap.size w
  by_cases hn0 : n0 ≤ 1048576
  rotate_left
  · go_enter Try.func4, Try.ntmps4
    go_wp2_with fail
    exact H.o _ (Below.refl _ _)
  go_enter Try.func4, Try.ntmps4
  go_wp2_with fail
  refine toInt64S_c _ _ _ xs0 _ (hx0.up hB) hn0 ?_
  intro b1 m1 d1 w1 hb1 ho1
  replace ho1 := ho1.mono hB.size
  replace hB := below_ups hB hb1 hB.size
  have l_ho1 := ho1.le
  go_wp2_with fail
  refine topSpecCycleType b1 m1 d1 xs0 _ ho1 ?_
  clear l_ho1
  intro b2 m2 d2 w2 hb2 ho2
  replace ho2 := ho2.mono hB.size
  replace hB := below_ups hB hb2 hB.size
  have l_ho2 := ho2.le
  go_wp2_with fail
  refine toInt64S_c _ _ _ xs0 _ (hx0.up hB) hn0 ?_
  intro b3 m3 d3 w3 hb3 ho3
  have ap_ho2_ho3 := Hd.i (ho2.apart ho3)
  have ap_ho3_ho2 := Hd.i (ho2.apart' ho3)
  replace ho2 := ho2.up hb3
  replace ho3 := ho3.mono hB.size
  replace hB := below_ups hB hb3 hB.size
  have l_ho3 := ho3.le
  go_wp2_with fail
  refine topImplCycleType b3 m3 d3 xs0 _ ho3 ?_
  intro b4 m4 d4 w4 hb4 ho4
  have ap_ho2_ho4 := Hd.i (ho2.apart ho4)
  have ap_ho4_ho2 := Hd.i (ho2.apart' ho4)
  have ap_ho3_ho4 := Hd.i (ho3.apart ho4)
  have ap_ho4_ho3 := Hd.i (ho3.apart' ho4)
  replace ho2 := ho2.up hb4
  replace ho3 := ho3.up hb4
  replace ho4 := ho4.mono hB.size
  replace hB := below_ups hB hb4 hB.size
  have l_ho4 := ho4.le
  go_wp2_with fail
  refine eqInt64S_c _ _ _ (pCycleType xs0) _ _ _ (pCycleType xs0) _ ho4.ints ho2.ints ?_
  intro w5 hd5
  replace ho2 := hd5.ownI ho2
  replace ho3 := hd5.ownI ho3
  replace ho4 := hd5.ownI ho4
  replace hB := hd5.up hB
  go_wp2_with fail
  refine toInt64S_c _ _ _ xs0 _ (hx0.up hB) hn0 ?_
  intro b6 m6 d6 w6 hb6 ho6
  have ap_ho2_ho6 := Hd.i (ho2.apart ho6)
  have ap_ho6_ho2 := Hd.i (ho2.apart' ho6)
  have ap_ho3_ho6 := Hd.i (ho3.apart ho6)
  have ap_ho6_ho3 := Hd.i (ho3.apart' ho6)
  have ap_ho4_ho6 := Hd.i (ho4.apart ho6)
  have ap_ho6_ho4 := Hd.i (ho4.apart' ho6)
  replace ho2 := ho2.up hb6
  replace ho3 := ho3.up hb6
  replace ho4 := ho4.up hb6
  replace ho6 := ho6.mono hB.size
  replace hB := below_ups hB hb6 hB.size
  have l_ho6 := ho6.le
  go_wp2_with fail
  refine eqInt64S_c _ _ _ xs0 _ _ _ xs0 _ ho3.ints ho6.ints ?_
  intro w7 hd7
  clear l_ho6
  replace ho2 := hd7.ownI ho2
  replace ho3 := hd7.ownI ho3
  replace ho4 := hd7.ownI ho4
  replace hB := hd7.up hB
  go_wp2_with fail
  refine markInt64S_c _ _ _ _ xs0 _ _ ho3 (by omega) (by omega) ?_
  intro w8 hw8 hm8
  replace ho2 := ho2.wrote hw8 ap_ho2_ho3.o
  replace ho4 := ho4.wrote hw8 ap_ho4_ho3.o
  replace ho3 := hm8
  clear hm8
  replace hB := hB.trans (hw8.below ho3.ge)
  go_wp2_with fail
  refine eqInt64S_c _ _ _ (pCycleType xs0) _ _ _ (pCycleType xs0) _ ho4.ints ho2.ints ?_
  intro w9 hd9
  replace ho2 := hd9.ownI ho2
  replace ho3 := hd9.ownI ho3
  replace ho4 := hd9.ownI ho4
  replace hB := hd9.up hB
  go_wp2_with fail
  refine markInt64S_c _ _ _ _ (pCycleType xs0) _ _ ho4 (by omega) (by omega) ?_
  intro w10 hw10 hm10
  replace ho2 := ho2.wrote hw10 ap_ho2_ho4.o
  replace ho3 := ho3.wrote hw10 ap_ho3_ho4.o
  replace ho4 := hm10
  clear hm10
  replace hB := hB.trans (hw10.below ho4.ge)
  go_wp2_with fail
  refine heldInt64S_c _ _ _ _ _ ho4.ints (by omega) (by omega) ?_
  go_wp2_with fail
  refine toInt64S_c _ _ _ xs0 _ (hx0.up hB) hn0 ?_
  intro b11 m11 d11 w11 hb11 ho11
  have ap_ho2_ho11 := Hd.i (ho2.apart ho11)
  have ap_ho11_ho2 := Hd.i (ho2.apart' ho11)
  have ap_ho3_ho11 := Hd.i (ho3.apart ho11)
  have ap_ho11_ho3 := Hd.i (ho3.apart' ho11)
  have ap_ho4_ho11 := Hd.i (ho4.apart ho11)
  have ap_ho11_ho4 := Hd.i (ho4.apart' ho11)
  replace ho2 := ho2.up hb11
  replace ho3 := ho3.up hb11
  replace ho4 := ho4.up hb11
  replace ho11 := ho11.mono hB.size
  replace hB := below_ups hB hb11 hB.size
  have l_ho11 := ho11.le
  go_wp2_with fail
  refine topImplCycleType b11 m11 d11 xs0 _ ho11 ?_
  clear l_ho11
  intro b12 m12 d12 w12 hb12 ho12
  have ap_ho2_ho12 := Hd.i (ho2.apart ho12)
  have ap_ho12_ho2 := Hd.i (ho2.apart' ho12)
  have ap_ho3_ho12 := Hd.i (ho3.apart ho12)
  have ap_ho12_ho3 := Hd.i (ho3.apart' ho12)
  have ap_ho4_ho12 := Hd.i (ho4.apart ho12)
  have ap_ho12_ho4 := Hd.i (ho4.apart' ho12)
  replace ho2 := ho2.up hb12
  replace ho3 := ho3.up hb12
  replace ho4 := ho4.up hb12
  replace ho12 := ho12.mono hB.size
  replace hB := below_ups hB hb12 hB.size
  have l_ho12 := ho12.le
  go_wp2_with fail
  refine eqInt64S_c _ _ _ (pCycleType xs0) _ _ _ (pCycleType xs0) _ ho12.ints ho2.ints ?_
  intro w13 hd13
  replace ho2 := hd13.ownI ho2
  replace ho3 := hd13.ownI ho3
  replace ho4 := hd13.ownI ho4
  replace ho12 := hd13.ownI ho12
  replace hB := hd13.up hB
  go_wp2_with fail
  refine heldInt64S_c _ _ _ _ _ ho4.ints (by omega) (by omega) ?_
  go_wp2_with fail
  exact H.o _ hB

set_option linter.unusedVariables false
namespace fnExactCycleType
open Go.ChangeShapes Go.WideShapes Go.ChangeAt Go.RowKit
open Go.ChangeMaps (open_string shut_string)

theorem own : ownKnob Try.prog.godebug = none := by kernel_rfl
theorem laidOut : laidOutB Try.prog = true := by kernel_rfl

set_option maxRecDepth 100000 in
theorem lifted (os : Os) (started : os.Started) (H : Type) (enc : TypeId × Value → H) :
    ReturnsInHanded {} Try.checked os 4 .any (Rows.fnExactCycleTypeSpec.pre6 enc Try.prog Try.f4 Rows.fnExactCycleTypeRow.domain false) (Rows.fnExactCycleTypeSpec.post enc Try.prog Try.f4 false true false false) := by
  refine returnsInHanded_of_change (C := Try.checked) own started (by kernel_rfl) Try.func4
    (ChangeSpec.witness6 (enc := enc) (C := Try.checked) false ⟨#[], #[.slice none 0 0], []⟩ 8 (by kernel_rfl) (by kernel_rfl) (by kernel_rfl) (by kernel_rfl)) ?_
  intro W base args ds gs before hval0 hW hcnd _
  have hval : ∀ (j : Nat) t v, Try.f4.params[j]? = some t → args[j]? = some v → Value.okWide Try.prog W .any base t v := hval0
  have hW' := hW
  obtain ⟨p, q, hA0, hV, rfl, hfz, hnd⟩ := hW
  have hA : DataW.TrodAll enc Try.prog W 0 (fun _ => true) true Try.f4.params.toList args.toList ds p := hA0
  rw [Try.params4] at hA hval
  obtain ⟨v0, vs0, d0, ds0, p0, q0, hargs, rfl, rfl, h0, r0⟩ := trodAll_cons hA
  obtain ⟨rfl, rfl, rfl⟩ := trodAll_nil r0
  obtain rfl : args = #[v0] := by cases args; simp_all
  obtain ⟨rfl, rfl⟩ := trodVars_none hV
  obtain ⟨a0, len0, cap0, rfl⟩ := okWide_slice Try.underlying22 (hval 0 22 v0 rfl rfl)
  have k0 := h0
  have lt0 : ∀ x ∈ p0, x.block < W.heap.size := by obtain ⟨m, hm⟩ := k0; exact DataW.trod_lt m _ _ _ hm
  obtain ⟨z0, u0⟩ : ∃ zs, Ints W a0 len0 zs := by
    obtain ⟨fuel, hf⟩ := h0
    rcases open_ints Try.underlying22 Try.underlying2 (by kernel_rfl) hf with ⟨hcs, _⟩ | ⟨x, l, c, zs, hcs, _, hl, hm, hz, _, hcell, hwz⟩
    · simp [Value.cells] at hcs
      obtain ⟨rfl, rfl, rfl⟩ := hcs
      exact ⟨[], Ints.nil _⟩
    · simp [Value.cells] at hcs
      obtain ⟨rfl, rfl, rfl⟩ := hcs
      exact ⟨_, Ints.of_open hl hm (by simpa using hz) hcell hwz⟩
  clear hA0 hval0
  refine (lawCycleType a0 len0 cap0 z0 W u0).mono fun e W' ⟨he, bel⟩ => ?_
  subst he
  exact ⟨_, rfl, _, _, _, [], _, [], hW', trodAll_mk1 (shut_bool Try.underlying4 _), (trodAll_cons_mk (Below.trod laidOut (by kernel_rfl) (of_decide_eq_true (by kernel_rfl)) k0 bel lt0) trodAll_mk0), rfl, bel.frame _, fun h => by cases h⟩

theorem over : Rows.fnExactCycleTypeRow.holds Try.pinned (OpenSpec.ofChange Rows.fnExactCycleTypeSpec) :=
  OpenClaim.holds_of_wide 4 Try.f4 rfl rfl rfl rfl rfl rfl rfl ⟨rfl, rfl, rfl, rfl, rfl⟩ rfl rfl rfl rfl rfl (by kernel_rfl) Try.func4 (by kernel_rfl)
    (of_decide_eq_true (by kernel_rfl)) (by unfold Func.isWrapper; first | (rw [if_pos (by decide +kernel)]; kernel_rfl) | (rw [if_neg (by decide +kernel)]; exact ⟨rfl, rfl⟩))
    (fun os started H enc _ => lifted os started H enc)

theorem proved : Rows.FnExactCycleTypeSaid := over
end fnExactCycleType
end Go.Proofs.Ytkojonjcikgikaa
