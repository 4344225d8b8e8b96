/- The law of SameCycleType (FnExactSameCycleType): for every input it returns true, and what the arguments hold is as it was. The walk, and the row. No condition. -/
import Derived.Test.YtkojonjcikgikaaType
import Derived.ProofKit
import Derived.OpenShut
import Derived.ShutString
import Derived.ChangeOld
namespace Go.Proofs.Ytkojonjcikgikaa
open Go.RowKit

set_option maxHeartbeats 1000000 in
theorem lawSameCycleType (a0 : Option Addr) (n0 c0 : Nat) (xs0 : List Int) (a1 : Option Addr) (n1 c1 : Nat) (xs1 : List Int) (w : World) (hx0 : Ints w a0 n0 xs0) (hx1 : Ints w a1 n1 xs1) :
    Calls Try.prog 5 #[.slice a0 n0 c0, .slice a1 n1 c1] w fun e w' => e = .returned (.bool true) ∧ Below w.heap.size w w' := by
  obtain ⟨R, hR⟩ : ∃ R : Ending → World → Prop, R = fun e w' => e = .returned (.bool true) ∧ Below w.heap.size w w' := ⟨_, rfl⟩
  have H : Hd (∀ w', Below w.heap.size w w' → R (.returned (.bool true)) w') := by intro w' h; rw [hR]; exact ⟨rfl, h⟩
  rw [← hR]; clear hR
  have hB := Below.refl w.heap.size w
  by_cases hn0 : n0 ≤ 1048576
  rotate_left
  · go_enter Try.func5, Try.ntmps5
    go_wp2_with fail
    exact H.o _ (Below.refl _ _)
  by_cases hn1 : n1 ≤ 1048576
  rotate_left
  · go_enter Try.func5, Try.ntmps5
    go_wp2_with fail
    exact H.o _ (Below.refl _ _)
  go_enter Try.func5, Try.ntmps5
  go_wp2_with fail
  refine toInt64S_c _ _ _ xs0 _ (hx0.up hB) hn0 ?_
  intro b1 m1 d1 w1 hb1 ho1
  replace ho1 := ho1.mono hB.size
  replace hB := below_ups hB hb1 hB.size
  have l_ho1 := ho1.le
  go_wp2_with fail
  refine toInt64S_c _ _ _ xs1 _ (hx1.up hB) hn1 ?_
  intro b2 m2 d2 w2 hb2 ho2
  have ap_ho1_ho2 := Hd.i (ho1.apart ho2)
  have ap_ho2_ho1 := Hd.i (ho1.apart' ho2)
  replace ho1 := ho1.up hb2
  replace ho2 := ho2.mono hB.size
  replace hB := below_ups hB hb2 hB.size
  have l_ho2 := ho2.le
  go_wp2_with fail
  refine topSpecSameCycleType b1 m1 d1 xs0 b2 m2 d2 xs1 _ ho1 ho2 ?_
  clear l_ho1
  clear l_ho2
  intro w3 hb3
  replace hB := below_ups hB hb3 hB.size
  go_wp2_with fail
  refine toInt64S_c _ _ _ xs0 _ (hx0.up hB) hn0 ?_
  intro b4 m4 d4 w4 hb4 ho4
  replace ho4 := ho4.mono hB.size
  replace hB := below_ups hB hb4 hB.size
  have l_ho4 := ho4.le
  go_wp2_with fail
  refine toInt64S_c _ _ _ xs1 _ (hx1.up hB) hn1 ?_
  intro b5 m5 d5 w5 hb5 ho5
  have ap_ho4_ho5 := Hd.i (ho4.apart ho5)
  have ap_ho5_ho4 := Hd.i (ho4.apart' ho5)
  replace ho4 := ho4.up hb5
  replace ho5 := ho5.mono hB.size
  replace hB := below_ups hB hb5 hB.size
  have l_ho5 := ho5.le
  go_wp2_with fail
  refine topImplSameCycleType b4 m4 d4 xs0 b5 m5 d5 xs1 _ ho4 ho5 ?_
  intro w6 hb6
  replace ho4 := ho4.up hb6
  replace ho5 := ho5.up hb6
  replace hB := below_ups hB hb6 hB.size
  go_wp2_with fail
  refine toInt64S_c _ _ _ xs0 _ (hx0.up hB) hn0 ?_
  intro b7 m7 d7 w7 hb7 ho7
  have ap_ho4_ho7 := Hd.i (ho4.apart ho7)
  have ap_ho7_ho4 := Hd.i (ho4.apart' ho7)
  have ap_ho5_ho7 := Hd.i (ho5.apart ho7)
  have ap_ho7_ho5 := Hd.i (ho5.apart' ho7)
  replace ho4 := ho4.up hb7
  replace ho5 := ho5.up hb7
  replace ho7 := ho7.mono hB.size
  replace hB := below_ups hB hb7 hB.size
  have l_ho7 := ho7.le
  go_wp2_with fail
  refine eqInt64S_c _ _ _ xs0 _ _ _ xs0 _ ho4.ints ho7.ints ?_
  intro w8 hd8
  clear l_ho7
  replace ho4 := hd8.ownI ho4
  replace ho5 := hd8.ownI ho5
  replace hB := hd8.up hB
  go_wp2_with fail
  refine toInt64S_c _ _ _ xs1 _ (hx1.up hB) hn1 ?_
  intro b9 m9 d9 w9 hb9 ho9
  have ap_ho4_ho9 := Hd.i (ho4.apart ho9)
  have ap_ho9_ho4 := Hd.i (ho4.apart' ho9)
  have ap_ho5_ho9 := Hd.i (ho5.apart ho9)
  have ap_ho9_ho5 := Hd.i (ho5.apart' ho9)
  replace ho4 := ho4.up hb9
  replace ho5 := ho5.up hb9
  replace ho9 := ho9.mono hB.size
  replace hB := below_ups hB hb9 hB.size
  have l_ho9 := ho9.le
  go_wp2_with fail
  refine eqInt64S_c _ _ _ xs1 _ _ _ xs1 _ ho5.ints ho9.ints ?_
  intro w10 hd10
  clear l_ho9
  replace ho4 := hd10.ownI ho4
  replace ho5 := hd10.ownI ho5
  replace hB := hd10.up hB
  go_wp2_with fail
  exact H.o _ hB

set_option linter.unusedVariables false
namespace fnExactSameCycleType
open Go.ChangeShapes Go.WideShapes Go.ChangeAt Go.RowKit
open Go.ChangeMaps (open_string shut_string)

theorem own : ownKnob Try.prog.godebug = none := by kernel_rfl
theorem laidOut : laidOutB Try.prog = true := by kernel_rfl

set_option maxRecDepth 100000 in
theorem lifted (os : Os) (started : os.Started) (H : Type) (enc : TypeId × Value → H) :
    ReturnsInHanded {} Try.checked os 5 .any (Rows.fnExactSameCycleTypeSpec.pre6 enc Try.prog Try.f5 Rows.fnExactSameCycleTypeRow.domain false) (Rows.fnExactSameCycleTypeSpec.post enc Try.prog Try.f5 false true false false) := by
  refine returnsInHanded_of_change (C := Try.checked) own started (by kernel_rfl) Try.func5
    (ChangeSpec.witness6 (enc := enc) (C := Try.checked) false ⟨#[], #[.slice none 0 0, .slice none 0 0], []⟩ 8 (by kernel_rfl) (by kernel_rfl) (by kernel_rfl) (by kernel_rfl)) ?_
  intro W base args ds gs before hval0 hW hcnd _
  have hval : ∀ (j : Nat) t v, Try.f5.params[j]? = some t → args[j]? = some v → Value.okWide Try.prog W .any base t v := hval0
  have hW' := hW
  obtain ⟨p, q, hA0, hV, rfl, hfz, hnd⟩ := hW
  have hA : DataW.TrodAll enc Try.prog W 0 (fun _ => true) true Try.f5.params.toList args.toList ds p := hA0
  rw [Try.params5] at hA hval
  obtain ⟨v0, vs0, d0, ds0, p0, q0, hargs, rfl, rfl, h0, r0⟩ := trodAll_cons hA
  obtain ⟨v1, vs1, d1, ds1, p1, q1, rfl, rfl, rfl, h1, r1⟩ := trodAll_cons r0
  obtain ⟨rfl, rfl, rfl⟩ := trodAll_nil r1
  obtain rfl : args = #[v0, v1] := by cases args; simp_all
  obtain ⟨rfl, rfl⟩ := trodVars_none hV
  obtain ⟨a0, len0, cap0, rfl⟩ := okWide_slice Try.underlying22 (hval 0 22 v0 rfl rfl)
  have k0 := h0
  have lt0 : ∀ x ∈ p0, x.block < W.heap.size := by obtain ⟨m, hm⟩ := k0; exact DataW.trod_lt m _ _ _ hm
  obtain ⟨z0, u0⟩ : ∃ zs, Ints W a0 len0 zs := by
    obtain ⟨fuel, hf⟩ := h0
    rcases open_ints Try.underlying22 Try.underlying2 (by kernel_rfl) hf with ⟨hcs, _⟩ | ⟨x, l, c, zs, hcs, _, hl, hm, hz, _, hcell, hwz⟩
    · simp [Value.cells] at hcs
      obtain ⟨rfl, rfl, rfl⟩ := hcs
      exact ⟨[], Ints.nil _⟩
    · simp [Value.cells] at hcs
      obtain ⟨rfl, rfl, rfl⟩ := hcs
      exact ⟨_, Ints.of_open hl hm (by simpa using hz) hcell hwz⟩
  obtain ⟨a1, len1, cap1, rfl⟩ := okWide_slice Try.underlying22 (hval 1 22 v1 rfl rfl)
  have k1 := h1
  have lt1 : ∀ x ∈ p1, x.block < W.heap.size := by obtain ⟨m, hm⟩ := k1; exact DataW.trod_lt m _ _ _ hm
  obtain ⟨z1, u1⟩ : ∃ zs, Ints W a1 len1 zs := by
    obtain ⟨fuel, hf⟩ := h1
    rcases open_ints Try.underlying22 Try.underlying2 (by kernel_rfl) hf with ⟨hcs, _⟩ | ⟨x, l, c, zs, hcs, _, hl, hm, hz, _, hcell, hwz⟩
    · simp [Value.cells] at hcs
      obtain ⟨rfl, rfl, rfl⟩ := hcs
      exact ⟨[], Ints.nil _⟩
    · simp [Value.cells] at hcs
      obtain ⟨rfl, rfl, rfl⟩ := hcs
      exact ⟨_, Ints.of_open hl hm (by simpa using hz) hcell hwz⟩
  clear hA0 hval0
  refine (lawSameCycleType a0 len0 cap0 z0 a1 len1 cap1 z1 W u0 u1).mono fun e W' ⟨he, bel⟩ => ?_
  subst he
  exact ⟨_, rfl, _, _, _, [], _, [], hW', trodAll_mk1 (shut_bool Try.underlying4 _), (trodAll_cons_mk (Below.trod laidOut (by kernel_rfl) (of_decide_eq_true (by kernel_rfl)) k0 bel lt0) (trodAll_cons_mk (Below.trod laidOut (by kernel_rfl) (of_decide_eq_true (by kernel_rfl)) k1 bel lt1) trodAll_mk0)), rfl, bel.frame _, fun h => by cases h⟩

theorem over : Rows.fnExactSameCycleTypeRow.holds Try.pinned (OpenSpec.ofChange Rows.fnExactSameCycleTypeSpec) :=
  OpenClaim.holds_of_wide 5 Try.f5 rfl rfl rfl rfl rfl rfl rfl ⟨rfl, rfl, rfl, rfl, rfl⟩ rfl rfl rfl rfl rfl (by kernel_rfl) Try.func5 (by kernel_rfl)
    (of_decide_eq_true (by kernel_rfl)) (by unfold Func.isWrapper; first | (rw [if_pos (by decide +kernel)]; kernel_rfl) | (rw [if_neg (by decide +kernel)]; exact ⟨rfl, rfl⟩))
    (fun os started H enc _ => lifted os started H enc)

theorem proved : Rows.FnExactSameCycleTypeSaid := over
end fnExactSameCycleType
end Go.Proofs.Ytkojonjcikgikaa
