/- The law of FindConjugator (FnExactFindConjugator): for every input it returns true, and what the arguments hold is as it was. The walk, and the row. No condition. -/
import Derived.Test.YtkojonjcikgikaaFindS
import Derived.ProofKit
import Derived.OpenShut
import Derived.ShutString
import Derived.ChangeOld
namespace Go.Proofs.Ytkojonjcikgikaa
open Go.RowKit

set_option maxHeartbeats 1000000 in
theorem lawFindConjugator (a0 : Option Addr) (n0 c0 : Nat) (xs0 : List Int) (a1 : Option Addr) (n1 c1 : Nat) (xs1 : List Int) (w : World) (hx0 : Ints w a0 n0 xs0) (hx1 : Ints w a1 n1 xs1) :
    Calls Try.prog 3 #[.slice a0 n0 c0, .slice a1 n1 c1] w fun e w' => e = .returned (.bool true) ∧ Below w.heap.size w w' := by
  obtain ⟨R, hR⟩ : ∃ R : Ending → World → Prop, R = fun e w' => e = .returned (.bool true) ∧ Below w.heap.size w w' := ⟨_, rfl⟩
  have H : Hd (∀ w', Below w.heap.size w w' → R (.returned (.bool true)) w') := by intro w' h; rw [hR]; exact ⟨rfl, h⟩
  rw [← hR]; clear hR
  have hB := Below.refl w.heap.size w
  by_cases hn0 : n0 ≤ 1048576
  rotate_left
  · go_enter Try.func3, Try.ntmps3
    go_wp2_with fail
    exact H.o _ (Below.refl _ _)
  by_cases hn1 : n1 ≤ 1048576
  rotate_left
  · go_enter Try.func3, Try.ntmps3
    go_wp2_with fail
    exact H.o _ (Below.refl _ _)
  go_enter Try.func3, Try.ntmps3
  go_wp2_with fail
  refine toInt64S_c _ _ _ xs0 _ (hx0.up hB) hn0 ?_
  intro b1 m1 d1 w1 hb1 ho1
  replace ho1 := ho1.mono hB.size
  replace hB := below_ups hB hb1 hB.size
  have l_ho1 := ho1.le
  go_wp2_with fail
  refine toInt64S_c _ _ _ xs1 _ (hx1.up hB) hn1 ?_
  intro b2 m2 d2 w2 hb2 ho2
  have ap_ho1_ho2 := Hd.i (ho1.apart ho2)
  have ap_ho2_ho1 := Hd.i (ho1.apart' ho2)
  replace ho1 := ho1.up hb2
  replace ho2 := ho2.mono hB.size
  replace hB := below_ups hB hb2 hB.size
  have l_ho2 := ho2.le
  go_wp2_with fail
  refine topSpecFindConjugator b1 m1 d1 xs0 b2 m2 d2 xs1 _ ho1 ho2 ?_
  clear l_ho1
  clear l_ho2
  intro b3 m3 d3 w3 hb3 ho3
  replace ho3 := ho3.mono hB.size
  replace hB := below_ups hB hb3 hB.size
  have l_ho3 := ho3.le
  go_wp2_with fail
  refine toInt64S_c _ _ _ xs0 _ (hx0.up hB) hn0 ?_
  intro b4 m4 d4 w4 hb4 ho4
  have ap_ho3_ho4 := Hd.i (ho3.apart ho4)
  have ap_ho4_ho3 := Hd.i (ho3.apart' ho4)
  replace ho3 := ho3.up hb4
  replace ho4 := ho4.mono hB.size
  replace hB := below_ups hB hb4 hB.size
  have l_ho4 := ho4.le
  go_wp2_with fail
  refine toInt64S_c _ _ _ xs1 _ (hx1.up hB) hn1 ?_
  intro b5 m5 d5 w5 hb5 ho5
  have ap_ho3_ho5 := Hd.i (ho3.apart ho5)
  have ap_ho5_ho3 := Hd.i (ho3.apart' ho5)
  have ap_ho4_ho5 := Hd.i (ho4.apart ho5)
  have ap_ho5_ho4 := Hd.i (ho4.apart' ho5)
  replace ho3 := ho3.up hb5
  replace ho4 := ho4.up hb5
  replace ho5 := ho5.mono hB.size
  replace hB := below_ups hB hb5 hB.size
  have l_ho5 := ho5.le
  go_wp2_with fail
  refine topImplFindConjugator b4 m4 d4 xs0 b5 m5 d5 xs1 _ ho4 ho5 ?_
  intro b6 m6 d6 w6 hb6 ho6
  have ap_ho3_ho6 := Hd.i (ho3.apart ho6)
  have ap_ho6_ho3 := Hd.i (ho3.apart' ho6)
  have ap_ho4_ho6 := Hd.i (ho4.apart ho6)
  have ap_ho6_ho4 := Hd.i (ho4.apart' ho6)
  have ap_ho5_ho6 := Hd.i (ho5.apart ho6)
  have ap_ho6_ho5 := Hd.i (ho5.apart' ho6)
  replace ho3 := ho3.up hb6
  replace ho4 := ho4.up hb6
  replace ho5 := ho5.up hb6
  replace ho6 := ho6.mono hB.size
  replace hB := below_ups hB hb6 hB.size
  have l_ho6 := ho6.le
  go_wp2_with fail
  refine eqInt64S_c _ _ _ (pFindC xs0 xs1) _ _ _ (pFindC xs0 xs1) _ ho6.ints ho3.ints ?_
  intro w7 hd7
  replace ho3 := hd7.ownI ho3
  replace ho4 := hd7.ownI ho4
  replace ho5 := hd7.ownI ho5
  replace ho6 := hd7.ownI ho6
  replace hB := hd7.up hB
  go_wp2_with fail
  refine toInt64S_c _ _ _ xs0 _ (hx0.up hB) hn0 ?_
  intro b8 m8 d8 w8 hb8 ho8
  have ap_ho3_ho8 := Hd.i (ho3.apart ho8)
  have ap_ho8_ho3 := Hd.i (ho3.apart' ho8)
  have ap_ho4_ho8 := Hd.i (ho4.apart ho8)
  have ap_ho8_ho4 := Hd.i (ho4.apart' ho8)
  have ap_ho5_ho8 := Hd.i (ho5.apart ho8)
  have ap_ho8_ho5 := Hd.i (ho5.apart' ho8)
  have ap_ho6_ho8 := Hd.i (ho6.apart ho8)
  have ap_ho8_ho6 := Hd.i (ho6.apart' ho8)
  replace ho3 := ho3.up hb8
  replace ho4 := ho4.up hb8
  replace ho5 := ho5.up hb8
  replace ho6 := ho6.up hb8
  replace ho8 := ho8.mono hB.size
  replace hB := below_ups hB hb8 hB.size
  have l_ho8 := ho8.le
  go_wp2_with fail
  refine eqInt64S_c _ _ _ xs0 _ _ _ xs0 _ ho4.ints ho8.ints ?_
  intro w9 hd9
  clear l_ho8
  replace ho3 := hd9.ownI ho3
  replace ho4 := hd9.ownI ho4
  replace ho5 := hd9.ownI ho5
  replace ho6 := hd9.ownI ho6
  replace hB := hd9.up hB
  go_wp2_with fail
  refine toInt64S_c _ _ _ xs1 _ (hx1.up hB) hn1 ?_
  intro b10 m10 d10 w10 hb10 ho10
  have ap_ho3_ho10 := Hd.i (ho3.apart ho10)
  have ap_ho10_ho3 := Hd.i (ho3.apart' ho10)
  have ap_ho4_ho10 := Hd.i (ho4.apart ho10)
  have ap_ho10_ho4 := Hd.i (ho4.apart' ho10)
  have ap_ho5_ho10 := Hd.i (ho5.apart ho10)
  have ap_ho10_ho5 := Hd.i (ho5.apart' ho10)
  have ap_ho6_ho10 := Hd.i (ho6.apart ho10)
  have ap_ho10_ho6 := Hd.i (ho6.apart' ho10)
  replace ho3 := ho3.up hb10
  replace ho4 := ho4.up hb10
  replace ho5 := ho5.up hb10
  replace ho6 := ho6.up hb10
  replace ho10 := ho10.mono hB.size
  replace hB := below_ups hB hb10 hB.size
  have l_ho10 := ho10.le
  go_wp2_with fail
  refine eqInt64S_c _ _ _ xs1 _ _ _ xs1 _ ho5.ints ho10.ints ?_
  intro w11 hd11
  clear l_ho10
  replace ho3 := hd11.ownI ho3
  replace ho4 := hd11.ownI ho4
  replace ho5 := hd11.ownI ho5
  replace ho6 := hd11.ownI ho6
  replace hB := hd11.up hB
  go_wp2_with fail
  refine markInt64S_c _ _ _ _ xs0 _ _ ho4 (by omega) (by omega) ?_
  intro w12 hw12 hm12
  replace ho3 := ho3.wrote hw12 ap_ho3_ho4.o
  replace ho5 := ho5.wrote hw12 ap_ho5_ho4.o
  replace ho6 := ho6.wrote hw12 ap_ho6_ho4.o
  replace ho4 := hm12
  clear hm12
  replace hB := hB.trans (hw12.below ho4.ge)
  go_wp2_with fail
  refine markInt64S_c _ _ _ _ xs1 _ _ ho5 (by omega) (by omega) ?_
  intro w13 hw13 hm13
  replace ho3 := ho3.wrote hw13 ap_ho3_ho5.o
  replace ho4 := ho4.wrote hw13 ap_ho4_ho5.o
  replace ho6 := ho6.wrote hw13 ap_ho6_ho5.o
  replace ho5 := hm13
  clear hm13
  replace hB := hB.trans (hw13.below ho5.ge)
  go_wp2_with fail
  refine eqInt64S_c _ _ _ (pFindC xs0 xs1) _ _ _ (pFindC xs0 xs1) _ ho6.ints ho3.ints ?_
  intro w14 hd14
  replace ho3 := hd14.ownI ho3
  replace ho4 := hd14.ownI ho4
  replace ho5 := hd14.ownI ho5
  replace ho6 := hd14.ownI ho6
  replace hB := hd14.up hB
  go_wp2_with fail
  refine markInt64S_c _ _ _ _ (pFindC xs0 xs1) _ _ ho6 (by omega) (by omega) ?_
  intro w15 hw15 hm15
  replace ho3 := ho3.wrote hw15 ap_ho3_ho6.o
  replace ho4 := ho4.wrote hw15 ap_ho4_ho6.o
  replace ho5 := ho5.wrote hw15 ap_ho5_ho6.o
  replace ho6 := hm15
  clear hm15
  replace hB := hB.trans (hw15.below ho6.ge)
  go_wp2_with fail
  refine heldInt64S_c _ _ _ _ _ ho6.ints (by omega) (by omega) ?_
  go_wp2_with fail
  refine toInt64S_c _ _ _ xs0 _ (hx0.up hB) hn0 ?_
  intro b16 m16 d16 w16 hb16 ho16
  have ap_ho3_ho16 := Hd.i (ho3.apart ho16)
  have ap_ho16_ho3 := Hd.i (ho3.apart' ho16)
  have ap_ho4_ho16 := Hd.i (ho4.apart ho16)
  have ap_ho16_ho4 := Hd.i (ho4.apart' ho16)
  have ap_ho5_ho16 := Hd.i (ho5.apart ho16)
  have ap_ho16_ho5 := Hd.i (ho5.apart' ho16)
  have ap_ho6_ho16 := Hd.i (ho6.apart ho16)
  have ap_ho16_ho6 := Hd.i (ho6.apart' ho16)
  replace ho3 := ho3.up hb16
  replace ho4 := ho4.up hb16
  replace ho5 := ho5.up hb16
  replace ho6 := ho6.up hb16
  replace ho16 := ho16.mono hB.size
  replace hB := below_ups hB hb16 hB.size
  have l_ho16 := ho16.le
  go_wp2_with fail
  refine toInt64S_c _ _ _ xs1 _ (hx1.up hB) hn1 ?_
  intro b17 m17 d17 w17 hb17 ho17
  have ap_ho3_ho17 := Hd.i (ho3.apart ho17)
  have ap_ho17_ho3 := Hd.i (ho3.apart' ho17)
  have ap_ho4_ho17 := Hd.i (ho4.apart ho17)
  have ap_ho17_ho4 := Hd.i (ho4.apart' ho17)
  have ap_ho5_ho17 := Hd.i (ho5.apart ho17)
  have ap_ho17_ho5 := Hd.i (ho5.apart' ho17)
  have ap_ho6_ho17 := Hd.i (ho6.apart ho17)
  have ap_ho17_ho6 := Hd.i (ho6.apart' ho17)
  have ap_ho16_ho17 := Hd.i (ho16.apart ho17)
  have ap_ho17_ho16 := Hd.i (ho16.apart' ho17)
  replace ho3 := ho3.up hb17
  replace ho4 := ho4.up hb17
  replace ho5 := ho5.up hb17
  replace ho6 := ho6.up hb17
  replace ho16 := ho16.up hb17
  replace ho17 := ho17.mono hB.size
  replace hB := below_ups hB hb17 hB.size
  have l_ho17 := ho17.le
  go_wp2_with fail
  refine topImplFindConjugator b16 m16 d16 xs0 b17 m17 d17 xs1 _ ho16 ho17 ?_
  clear l_ho16
  clear l_ho17
  intro b18 m18 d18 w18 hb18 ho18
  have ap_ho3_ho18 := Hd.i (ho3.apart ho18)
  have ap_ho18_ho3 := Hd.i (ho3.apart' ho18)
  have ap_ho4_ho18 := Hd.i (ho4.apart ho18)
  have ap_ho18_ho4 := Hd.i (ho4.apart' ho18)
  have ap_ho5_ho18 := Hd.i (ho5.apart ho18)
  have ap_ho18_ho5 := Hd.i (ho5.apart' ho18)
  have ap_ho6_ho18 := Hd.i (ho6.apart ho18)
  have ap_ho18_ho6 := Hd.i (ho6.apart' ho18)
  replace ho3 := ho3.up hb18
  replace ho4 := ho4.up hb18
  replace ho5 := ho5.up hb18
  replace ho6 := ho6.up hb18
  replace ho18 := ho18.mono hB.size
  replace hB := below_ups hB hb18 hB.size
  have l_ho18 := ho18.le
  go_wp2_with fail
  refine eqInt64S_c _ _ _ (pFindC xs0 xs1) _ _ _ (pFindC xs0 xs1) _ ho18.ints ho3.ints ?_
  intro w19 hd19
  replace ho3 := hd19.ownI ho3
  replace ho4 := hd19.ownI ho4
  replace ho5 := hd19.ownI ho5
  replace ho6 := hd19.ownI ho6
  replace ho18 := hd19.ownI ho18
  replace hB := hd19.up hB
  go_wp2_with fail
  refine heldInt64S_c _ _ _ _ _ ho6.ints (by omega) (by omega) ?_
  go_wp2_with fail
  exact H.o _ hB

set_option linter.unusedVariables false
namespace fnExactFindConjugator
open Go.ChangeShapes Go.WideShapes Go.ChangeAt Go.RowKit
open Go.ChangeMaps (open_string shut_string)

theorem own : ownKnob Try.prog.godebug = none := by kernel_rfl
theorem laidOut : laidOutB Try.prog = true := by kernel_rfl

set_option maxRecDepth 100000 in
theorem lifted (os : Os) (started : os.Started) (H : Type) (enc : TypeId × Value → H) :
    ReturnsInHanded {} Try.checked os 3 .any (Rows.fnExactFindConjugatorSpec.pre6 enc Try.prog Try.f3 Rows.fnExactFindConjugatorRow.domain false) (Rows.fnExactFindConjugatorSpec.post enc Try.prog Try.f3 false true false false) := by
  refine returnsInHanded_of_change (C := Try.checked) own started (by kernel_rfl) Try.func3
    (ChangeSpec.witness6 (enc := enc) (C := Try.checked) false ⟨#[], #[.slice none 0 0, .slice none 0 0], []⟩ 8 (by kernel_rfl) (by kernel_rfl) (by kernel_rfl) (by kernel_rfl)) ?_
  intro W base args ds gs before hval0 hW hcnd _
  have hval : ∀ (j : Nat) t v, Try.f3.params[j]? = some t → args[j]? = some v → Value.okWide Try.prog W .any base t v := hval0
  have hW' := hW
  obtain ⟨p, q, hA0, hV, rfl, hfz, hnd⟩ := hW
  have hA : DataW.TrodAll enc Try.prog W 0 (fun _ => true) true Try.f3.params.toList args.toList ds p := hA0
  rw [Try.params3] at hA hval
  obtain ⟨v0, vs0, d0, ds0, p0, q0, hargs, rfl, rfl, h0, r0⟩ := trodAll_cons hA
  obtain ⟨v1, vs1, d1, ds1, p1, q1, rfl, rfl, rfl, h1, r1⟩ := trodAll_cons r0
  obtain ⟨rfl, rfl, rfl⟩ := trodAll_nil r1
  obtain rfl : args = #[v0, v1] := by cases args; simp_all
  obtain ⟨rfl, rfl⟩ := trodVars_none hV
  obtain ⟨a0, len0, cap0, rfl⟩ := okWide_slice Try.underlying22 (hval 0 22 v0 rfl rfl)
  have k0 := h0
  have lt0 : ∀ x ∈ p0, x.block < W.heap.size := by obtain ⟨m, hm⟩ := k0; exact DataW.trod_lt m _ _ _ hm
  obtain ⟨z0, u0⟩ : ∃ zs, Ints W a0 len0 zs := by
    obtain ⟨fuel, hf⟩ := h0
    rcases open_ints Try.underlying22 Try.underlying2 (by kernel_rfl) hf with ⟨hcs, _⟩ | ⟨x, l, c, zs, hcs, _, hl, hm, hz, _, hcell, hwz⟩
    · simp [Value.cells] at hcs
      obtain ⟨rfl, rfl, rfl⟩ := hcs
      exact ⟨[], Ints.nil _⟩
    · simp [Value.cells] at hcs
      obtain ⟨rfl, rfl, rfl⟩ := hcs
      exact ⟨_, Ints.of_open hl hm (by simpa using hz) hcell hwz⟩
  obtain ⟨a1, len1, cap1, rfl⟩ := okWide_slice Try.underlying22 (hval 1 22 v1 rfl rfl)
  have k1 := h1
  have lt1 : ∀ x ∈ p1, x.block < W.heap.size := by obtain ⟨m, hm⟩ := k1; exact DataW.trod_lt m _ _ _ hm
  obtain ⟨z1, u1⟩ : ∃ zs, Ints W a1 len1 zs := by
    obtain ⟨fuel, hf⟩ := h1
    rcases open_ints Try.underlying22 Try.underlying2 (by kernel_rfl) hf with ⟨hcs, _⟩ | ⟨x, l, c, zs, hcs, _, hl, hm, hz, _, hcell, hwz⟩
    · simp [Value.cells] at hcs
      obtain ⟨rfl, rfl, rfl⟩ := hcs
      exact ⟨[], Ints.nil _⟩
    · simp [Value.cells] at hcs
      obtain ⟨rfl, rfl, rfl⟩ := hcs
      exact ⟨_, Ints.of_open hl hm (by simpa using hz) hcell hwz⟩
  clear hA0 hval0
  refine (lawFindConjugator a0 len0 cap0 z0 a1 len1 cap1 z1 W u0 u1).mono fun e W' ⟨he, bel⟩ => ?_
  subst he
  exact ⟨_, rfl, _, _, _, [], _, [], hW', trodAll_mk1 (shut_bool Try.underlying4 _), (trodAll_cons_mk (Below.trod laidOut (by kernel_rfl) (of_decide_eq_true (by kernel_rfl)) k0 bel lt0) (trodAll_cons_mk (Below.trod laidOut (by kernel_rfl) (of_decide_eq_true (by kernel_rfl)) k1 bel lt1) trodAll_mk0)), rfl, bel.frame _, fun h => by cases h⟩

theorem over : Rows.fnExactFindConjugatorRow.holds Try.pinned (OpenSpec.ofChange Rows.fnExactFindConjugatorSpec) :=
  OpenClaim.holds_of_wide 3 Try.f3 rfl rfl rfl rfl rfl rfl rfl ⟨rfl, rfl, rfl, rfl, rfl⟩ rfl rfl rfl rfl rfl (by kernel_rfl) Try.func3 (by kernel_rfl)
    (of_decide_eq_true (by kernel_rfl)) (by unfold Func.isWrapper; first | (rw [if_pos (by decide +kernel)]; kernel_rfl) | (rw [if_neg (by decide +kernel)]; exact ⟨rfl, rfl⟩))
    (fun os started H enc _ => lifted os started H enc)

theorem proved : Rows.FnExactFindConjugatorSaid := over
end fnExactFindConjugator
end Go.Proofs.Ytkojonjcikgikaa
