/- The law of JoinBlockSystems (FnExactJoinBlockSystems): for every input it returns true, and what the arguments hold is as it was. The walk, and the row. No condition. -/
import Derived.Test.YtiekjklhojmnoaaJoinC
import Derived.ProofKit
import Derived.OpenShut
import Derived.ShutString
import Derived.ChangeOld
import Derived.Deep.Matrix
namespace Go.Proofs.Ytiekjklhojmnoaa
open Go.RowKit

set_option maxHeartbeats 1000000 in
theorem lawJoinBlockSystems (z0 : Int) (a1 : Option Addr) (n1 c1 : Nat) (xs1 : List (List Int)) (a2 : Option Addr) (n2 c2 : Nat) (xs2 : List (List Int)) (w : World) (hz0 : -9223372036854775808 ≤ z0 ∧ z0 ≤ 9223372036854775807) (hx1 : Mat w a1 n1 xs1) (hx2 : Mat w a2 n2 xs2) :
    Calls Try.prog 12 #[.int .i64 z0, .slice a1 n1 c1, .slice a2 n2 c2] w fun e w' => e = .returned (.bool true) ∧ Below w.heap.size w w' := by
  obtain ⟨R, hR⟩ : ∃ R : Ending → World → Prop, R = fun e w' => e = .returned (.bool true) ∧ Below w.heap.size w w' := ⟨_, rfl⟩
  have H : Hd (∀ w', Below w.heap.size w w' → R (.returned (.bool true)) w') := by intro w' h; rw [hR]; exact ⟨rfl, h⟩
  rw [← hR]; clear hR
  have hB := Below.refl w.heap.size w
  go_enter Try.func12, Try.ntmps12
  go_wp2_with fail
  by_cases hf1 : bulk xs1 ≤ 1048576
  rotate_left
  · refine szInt64SS_over _ _ _ xs1 1048576 _ _ (hx1.up hB) (by omega) (Hd.i (by omega)) hf1 ?_
    go_wp2_with fail
    exact H.o _ hB
  refine szInt64SS_fit _ _ _ xs1 1048576 _ _ (hx1.up hB) (by omega) (Hd.i (by omega)) hf1 ?_
  intro rr1 hr1 h01
  have hn1 : bulk xs1 ≤ 1048576 := by omega
  go_wp2_with fail
  by_cases hf2 : bulk xs2 ≤ (1048576 - bulk xs1)
  rotate_left
  · refine szInt64SS_over _ _ _ xs2 (1048576 - bulk xs1) _ _ (hx2.up hB) (by omega) hr1 hf2 ?_
    go_wp2_with fail
    exact H.o _ hB
  refine szInt64SS_fit _ _ _ xs2 (1048576 - bulk xs1) _ _ (hx2.up hB) (by omega) hr1 hf2 ?_
  intro rr2 hr2 h02
  have hn2 : bulk xs2 ≤ 1048576 := by omega
  go_wp2_with fail
  refine toInt64SS_c _ _ _ xs1 _ (hx1.up hB) hn1 ?_
  intro b1 m1 d1 g1 w1 hb1 ho1
  replace ho1 := ho1.mono hB.size
  replace hB := below_ups hB hb1 hB.size
  have l_ho1 := ho1.le
  go_wp2_with fail
  refine toInt64SS_c _ _ _ xs2 _ (hx2.up hB) hn2 ?_
  intro b2 m2 d2 g2 w2 hb2 ho2
  have ap_ho1_ho2 := Hd.i (ho1.off_new ho2.fp_ge)
  have ap_ho2_ho1 := Hd.i (ho2.off_old ho1.fp_lt)
  replace ho1 := ho1.up hb2
  replace ho2 := ho2.mono hB.size
  replace hB := below_ups hB hb2 hB.size
  have l_ho2 := ho2.le
  go_wp2_with fail
  refine topSpecJoinBlockSystems z0 b1 m1 d1 _ xs1 b2 m2 d2 _ xs2 _ hz0 ho1 ho2 ?_
  clear l_ho1
  clear l_ho2
  intro b3 m3 d3 g3 w3 hb3 ho3
  replace ho3 := ho3.mono hB.size
  replace hB := below_ups hB hb3 hB.size
  have l_ho3 := ho3.le
  go_wp2_with fail
  refine toInt64SS_c _ _ _ xs1 _ (hx1.up hB) hn1 ?_
  intro b4 m4 d4 g4 w4 hb4 ho4
  have ap_ho3_ho4 := Hd.i (ho3.off_new ho4.fp_ge)
  have ap_ho4_ho3 := Hd.i (ho4.off_old ho3.fp_lt)
  replace ho3 := ho3.up hb4
  replace ho4 := ho4.mono hB.size
  replace hB := below_ups hB hb4 hB.size
  have l_ho4 := ho4.le
  go_wp2_with fail
  refine toInt64SS_c _ _ _ xs2 _ (hx2.up hB) hn2 ?_
  intro b5 m5 d5 g5 w5 hb5 ho5
  have ap_ho3_ho5 := Hd.i (ho3.off_new ho5.fp_ge)
  have ap_ho5_ho3 := Hd.i (ho5.off_old ho3.fp_lt)
  have ap_ho4_ho5 := Hd.i (ho4.off_new ho5.fp_ge)
  have ap_ho5_ho4 := Hd.i (ho5.off_old ho4.fp_lt)
  replace ho3 := ho3.up hb5
  replace ho4 := ho4.up hb5
  replace ho5 := ho5.mono hB.size
  replace hB := below_ups hB hb5 hB.size
  have l_ho5 := ho5.le
  go_wp2_with fail
  refine topImplJoinBlockSystems z0 b4 m4 d4 _ xs1 b5 m5 d5 _ xs2 _ hz0 ho4 ho5 ?_
  intro b6 m6 d6 g6 w6 hb6 ho6
  have ap_ho3_ho6 := Hd.i (ho3.off_new ho6.fp_ge)
  have ap_ho6_ho3 := Hd.i (ho6.off_old ho3.fp_lt)
  have ap_ho4_ho6 := Hd.i (ho4.off_new ho6.fp_ge)
  have ap_ho6_ho4 := Hd.i (ho6.off_old ho4.fp_lt)
  have ap_ho5_ho6 := Hd.i (ho5.off_new ho6.fp_ge)
  have ap_ho6_ho5 := Hd.i (ho6.off_old ho5.fp_lt)
  replace ho3 := ho3.up hb6
  replace ho4 := ho4.up hb6
  replace ho5 := ho5.up hb6
  replace ho6 := ho6.mono hB.size
  replace hB := below_ups hB hb6 hB.size
  have l_ho6 := ho6.le
  go_wp2_with fail
  refine eqInt64SS_c _ _ _ (pJoinS z0 xs1 xs2) _ _ _ (pJoinS z0 xs1 xs2) _ ho6.rows ho3.rows ?_
  intro w7 hd7
  replace ho3 := hd7.ownR ho3
  replace ho4 := hd7.ownR ho4
  replace ho5 := hd7.ownR ho5
  replace ho6 := hd7.ownR ho6
  replace hB := hd7.up hB
  go_wp2_with fail
  refine toInt64SS_c _ _ _ xs1 _ (hx1.up hB) hn1 ?_
  intro b8 m8 d8 g8 w8 hb8 ho8
  have ap_ho3_ho8 := Hd.i (ho3.off_new ho8.fp_ge)
  have ap_ho8_ho3 := Hd.i (ho8.off_old ho3.fp_lt)
  have ap_ho4_ho8 := Hd.i (ho4.off_new ho8.fp_ge)
  have ap_ho8_ho4 := Hd.i (ho8.off_old ho4.fp_lt)
  have ap_ho5_ho8 := Hd.i (ho5.off_new ho8.fp_ge)
  have ap_ho8_ho5 := Hd.i (ho8.off_old ho5.fp_lt)
  have ap_ho6_ho8 := Hd.i (ho6.off_new ho8.fp_ge)
  have ap_ho8_ho6 := Hd.i (ho8.off_old ho6.fp_lt)
  replace ho3 := ho3.up hb8
  replace ho4 := ho4.up hb8
  replace ho5 := ho5.up hb8
  replace ho6 := ho6.up hb8
  replace ho8 := ho8.mono hB.size
  replace hB := below_ups hB hb8 hB.size
  have l_ho8 := ho8.le
  go_wp2_with fail
  refine eqInt64SS_c _ _ _ xs1 _ _ _ xs1 _ ho4.rows ho8.rows ?_
  intro w9 hd9
  clear l_ho8
  replace ho3 := hd9.ownR ho3
  replace ho4 := hd9.ownR ho4
  replace ho5 := hd9.ownR ho5
  replace ho6 := hd9.ownR ho6
  replace hB := hd9.up hB
  go_wp2_with fail
  refine toInt64SS_c _ _ _ xs2 _ (hx2.up hB) hn2 ?_
  intro b10 m10 d10 g10 w10 hb10 ho10
  have ap_ho3_ho10 := Hd.i (ho3.off_new ho10.fp_ge)
  have ap_ho10_ho3 := Hd.i (ho10.off_old ho3.fp_lt)
  have ap_ho4_ho10 := Hd.i (ho4.off_new ho10.fp_ge)
  have ap_ho10_ho4 := Hd.i (ho10.off_old ho4.fp_lt)
  have ap_ho5_ho10 := Hd.i (ho5.off_new ho10.fp_ge)
  have ap_ho10_ho5 := Hd.i (ho10.off_old ho5.fp_lt)
  have ap_ho6_ho10 := Hd.i (ho6.off_new ho10.fp_ge)
  have ap_ho10_ho6 := Hd.i (ho10.off_old ho6.fp_lt)
  replace ho3 := ho3.up hb10
  replace ho4 := ho4.up hb10
  replace ho5 := ho5.up hb10
  replace ho6 := ho6.up hb10
  replace ho10 := ho10.mono hB.size
  replace hB := below_ups hB hb10 hB.size
  have l_ho10 := ho10.le
  go_wp2_with fail
  refine eqInt64SS_c _ _ _ xs2 _ _ _ xs2 _ ho5.rows ho10.rows ?_
  intro w11 hd11
  clear l_ho10
  replace ho3 := hd11.ownR ho3
  replace ho4 := hd11.ownR ho4
  replace ho5 := hd11.ownR ho5
  replace ho6 := hd11.ownR ho6
  replace hB := hd11.up hB
  go_wp2_with fail
  have cb_ho4 := cells_le xs1
  refine markInt64SS_c _ _ _ _ _ xs1 _ _ ho4 (by omega) (by omega) ?_
  intro w12 hw12 hm12
  replace ho3 := ho3.wroteF hw12 ap_ho3_ho4.o
  replace ho5 := ho5.wroteF hw12 ap_ho5_ho4.o
  replace ho6 := ho6.wroteF hw12 ap_ho6_ho4.o
  replace ho4 := hm12
  clear hm12
  replace hB := hB.trans (hw12.below ho4.fp_ge)
  go_wp2_with fail
  have cb_ho5 := cells_le xs2
  refine markInt64SS_c _ _ _ _ _ xs2 _ _ ho5 (by omega) (by omega) ?_
  intro w13 hw13 hm13
  replace ho3 := ho3.wroteF hw13 ap_ho3_ho5.o
  replace ho4 := ho4.wroteF hw13 ap_ho4_ho5.o
  replace ho6 := ho6.wroteF hw13 ap_ho6_ho5.o
  replace ho5 := hm13
  clear hm13
  replace hB := hB.trans (hw13.below ho5.fp_ge)
  go_wp2_with fail
  refine eqInt64SS_c _ _ _ (pJoinS z0 xs1 xs2) _ _ _ (pJoinS z0 xs1 xs2) _ ho6.rows ho3.rows ?_
  intro w14 hd14
  replace ho3 := hd14.ownR ho3
  replace ho4 := hd14.ownR ho4
  replace ho5 := hd14.ownR ho5
  replace ho6 := hd14.ownR ho6
  replace hB := hd14.up hB
  go_wp2_with fail
  have cb_ho6 := (pJoinS_cells z0 xs1 xs2)
  refine markInt64SS_c _ _ _ _ _ (pJoinS z0 xs1 xs2) _ _ ho6 (by omega) (by omega) ?_
  intro w15 hw15 hm15
  replace ho3 := ho3.wroteF hw15 ap_ho3_ho6.o
  replace ho4 := ho4.wroteF hw15 ap_ho4_ho6.o
  replace ho5 := ho5.wroteF hw15 ap_ho5_ho6.o
  replace ho6 := hm15
  clear hm15
  replace hB := hB.trans (hw15.below ho6.fp_ge)
  go_wp2_with fail
  refine heldInt64SS_c _ _ _ (pJoinS z0 xs1 xs2) _ _ ho6.rows (by omega) (by omega) ?_
  go_wp2_with fail
  refine toInt64SS_c _ _ _ xs1 _ (hx1.up hB) hn1 ?_
  intro b16 m16 d16 g16 w16 hb16 ho16
  have ap_ho3_ho16 := Hd.i (ho3.off_new ho16.fp_ge)
  have ap_ho16_ho3 := Hd.i (ho16.off_old ho3.fp_lt)
  have ap_ho4_ho16 := Hd.i (ho4.off_new ho16.fp_ge)
  have ap_ho16_ho4 := Hd.i (ho16.off_old ho4.fp_lt)
  have ap_ho5_ho16 := Hd.i (ho5.off_new ho16.fp_ge)
  have ap_ho16_ho5 := Hd.i (ho16.off_old ho5.fp_lt)
  have ap_ho6_ho16 := Hd.i (ho6.off_new ho16.fp_ge)
  have ap_ho16_ho6 := Hd.i (ho16.off_old ho6.fp_lt)
  replace ho3 := ho3.up hb16
  replace ho4 := ho4.up hb16
  replace ho5 := ho5.up hb16
  replace ho6 := ho6.up hb16
  replace ho16 := ho16.mono hB.size
  replace hB := below_ups hB hb16 hB.size
  have l_ho16 := ho16.le
  go_wp2_with fail
  refine toInt64SS_c _ _ _ xs2 _ (hx2.up hB) hn2 ?_
  intro b17 m17 d17 g17 w17 hb17 ho17
  have ap_ho3_ho17 := Hd.i (ho3.off_new ho17.fp_ge)
  have ap_ho17_ho3 := Hd.i (ho17.off_old ho3.fp_lt)
  have ap_ho4_ho17 := Hd.i (ho4.off_new ho17.fp_ge)
  have ap_ho17_ho4 := Hd.i (ho17.off_old ho4.fp_lt)
  have ap_ho5_ho17 := Hd.i (ho5.off_new ho17.fp_ge)
  have ap_ho17_ho5 := Hd.i (ho17.off_old ho5.fp_lt)
  have ap_ho6_ho17 := Hd.i (ho6.off_new ho17.fp_ge)
  have ap_ho17_ho6 := Hd.i (ho17.off_old ho6.fp_lt)
  have ap_ho16_ho17 := Hd.i (ho16.off_new ho17.fp_ge)
  have ap_ho17_ho16 := Hd.i (ho17.off_old ho16.fp_lt)
  replace ho3 := ho3.up hb17
  replace ho4 := ho4.up hb17
  replace ho5 := ho5.up hb17
  replace ho6 := ho6.up hb17
  replace ho16 := ho16.up hb17
  replace ho17 := ho17.mono hB.size
  replace hB := below_ups hB hb17 hB.size
  have l_ho17 := ho17.le
  go_wp2_with fail
  refine topImplJoinBlockSystems z0 b16 m16 d16 _ xs1 b17 m17 d17 _ xs2 _ hz0 ho16 ho17 ?_
  clear l_ho16
  clear l_ho17
  intro b18 m18 d18 g18 w18 hb18 ho18
  have ap_ho3_ho18 := Hd.i (ho3.off_new ho18.fp_ge)
  have ap_ho18_ho3 := Hd.i (ho18.off_old ho3.fp_lt)
  have ap_ho4_ho18 := Hd.i (ho4.off_new ho18.fp_ge)
  have ap_ho18_ho4 := Hd.i (ho18.off_old ho4.fp_lt)
  have ap_ho5_ho18 := Hd.i (ho5.off_new ho18.fp_ge)
  have ap_ho18_ho5 := Hd.i (ho18.off_old ho5.fp_lt)
  have ap_ho6_ho18 := Hd.i (ho6.off_new ho18.fp_ge)
  have ap_ho18_ho6 := Hd.i (ho18.off_old ho6.fp_lt)
  replace ho3 := ho3.up hb18
  replace ho4 := ho4.up hb18
  replace ho5 := ho5.up hb18
  replace ho6 := ho6.up hb18
  replace ho18 := ho18.mono hB.size
  replace hB := below_ups hB hb18 hB.size
  have l_ho18 := ho18.le
  go_wp2_with fail
  refine eqInt64SS_c _ _ _ (pJoinS z0 xs1 xs2) _ _ _ (pJoinS z0 xs1 xs2) _ ho18.rows ho3.rows ?_
  intro w19 hd19
  replace ho3 := hd19.ownR ho3
  replace ho4 := hd19.ownR ho4
  replace ho5 := hd19.ownR ho5
  replace ho6 := hd19.ownR ho6
  replace ho18 := hd19.ownR ho18
  replace hB := hd19.up hB
  go_wp2_with fail
  refine heldInt64SS_c _ _ _ (pJoinS z0 xs1 xs2) _ _ ho6.rows (by omega) (by omega) ?_
  go_wp2_with fail
  exact H.o _ hB

set_option linter.unusedVariables false
namespace fnExactJoinBlockSystems
open Go.ChangeShapes Go.WideShapes Go.ChangeAt Go.RowKit
open Go.ChangeMaps (open_string shut_string)

theorem own : ownKnob Try.prog.godebug = none := by kernel_rfl
theorem laidOut : laidOutB Try.prog = true := by kernel_rfl

set_option maxRecDepth 100000 in
theorem lifted (os : Os) (started : os.Started) (H : Type) (enc : TypeId × Value → H) :
    ReturnsInHanded {} Try.checked os 12 .any (Rows.fnExactJoinBlockSystemsSpec.pre6 enc Try.prog Try.f12 Rows.fnExactJoinBlockSystemsRow.domain false) (Rows.fnExactJoinBlockSystemsSpec.post enc Try.prog Try.f12 false true false false) := by
  refine returnsInHanded_of_change (C := Try.checked) own started (by kernel_rfl) Try.func12
    (ChangeSpec.witness6 (enc := enc) (C := Try.checked) false ⟨#[], #[.int .i64 0, .slice none 0 0, .slice none 0 0], []⟩ 8 (by kernel_rfl) (by kernel_rfl) (by kernel_rfl) (by kernel_rfl)) ?_
  intro W base args ds gs before hval0 hW hcnd _
  have hval : ∀ (j : Nat) t v, Try.f12.params[j]? = some t → args[j]? = some v → Value.okWide Try.prog W .any base t v := hval0
  have hW' := hW
  obtain ⟨p, q, hA0, hV, rfl, hfz, hnd⟩ := hW
  have hA : DataW.TrodAll enc Try.prog W 0 (fun _ => true) true Try.f12.params.toList args.toList ds p := hA0
  rw [Try.params12] at hA hval
  obtain ⟨v0, vs0, d0, ds0, p0, q0, hargs, rfl, rfl, h0, r0⟩ := trodAll_cons hA
  obtain ⟨v1, vs1, d1, ds1, p1, q1, rfl, rfl, rfl, h1, r1⟩ := trodAll_cons r0
  obtain ⟨v2, vs2, d2, ds2, p2, q2, rfl, rfl, rfl, h2, r2⟩ := trodAll_cons r1
  obtain ⟨rfl, rfl, rfl⟩ := trodAll_nil r2
  obtain rfl : args = #[v0, v1, v2] := by cases args; simp_all
  obtain ⟨rfl, rfl⟩ := trodVars_none hV
  obtain ⟨a0, rfl, rfl, rfl, w0⟩ := open_int Try.underlying2 (hval 0 2 v0 rfl rfl) h0
  have u0 : -9223372036854775808 ≤ a0 ∧ a0 ≤ 9223372036854775807 := by simpa [Lit.wf, IntKind.min, IntKind.max, IntKind.signed, IntKind.bits] using w0
  obtain ⟨a1, len1, cap1, rfl⟩ := okWide_slice Try.underlying22 (hval 1 22 v1 rfl rfl)
  have k1 := h1
  have lt1 : ∀ x ∈ p1, x.block < W.heap.size := by obtain ⟨m, hm⟩ := k1; exact DataW.trod_lt m _ _ _ hm
  obtain ⟨z1, u1⟩ : ∃ zs, Mat W a1 len1 zs := by
    obtain ⟨fuel, hf⟩ := h1
    rcases Go.Deep.open_int_rows Try.underlying22 Try.underlying23 Try.underlying2 (by kernel_rfl) (by kernel_rfl) hf with ⟨hcs, _⟩ | ⟨x, l, c, A, L, C, Z, hcs, _, hl, hm, _, hrow⟩
    · simp [Value.cells] at hcs
      obtain ⟨rfl, rfl, rfl⟩ := hcs
      exact ⟨[], Mat.nil _⟩
    · simp [Value.cells] at hcs
      obtain ⟨rfl, rfl, rfl⟩ := hcs
      exact ⟨_, Mat.of_open hl hm hrow⟩
  obtain ⟨a2, len2, cap2, rfl⟩ := okWide_slice Try.underlying22 (hval 2 22 v2 rfl rfl)
  have k2 := h2
  have lt2 : ∀ x ∈ p2, x.block < W.heap.size := by obtain ⟨m, hm⟩ := k2; exact DataW.trod_lt m _ _ _ hm
  obtain ⟨z2, u2⟩ : ∃ zs, Mat W a2 len2 zs := by
    obtain ⟨fuel, hf⟩ := h2
    rcases Go.Deep.open_int_rows Try.underlying22 Try.underlying23 Try.underlying2 (by kernel_rfl) (by kernel_rfl) hf with ⟨hcs, _⟩ | ⟨x, l, c, A, L, C, Z, hcs, _, hl, hm, _, hrow⟩
    · simp [Value.cells] at hcs
      obtain ⟨rfl, rfl, rfl⟩ := hcs
      exact ⟨[], Mat.nil _⟩
    · simp [Value.cells] at hcs
      obtain ⟨rfl, rfl, rfl⟩ := hcs
      exact ⟨_, Mat.of_open hl hm hrow⟩
  clear hA0 hval0
  refine (lawJoinBlockSystems a0 a1 len1 cap1 z1 a2 len2 cap2 z2 W u0 u1 u2).mono fun e W' ⟨he, bel⟩ => ?_
  subst he
  exact ⟨_, rfl, _, _, _, [], _, [], hW', trodAll_mk1 (shut_bool Try.underlying4 _), (trodAll_cons_mk (shut_int Try.underlying2 w0) (trodAll_cons_mk (Below.trod laidOut (by kernel_rfl) (of_decide_eq_true (by kernel_rfl)) k1 bel lt1) (trodAll_cons_mk (Below.trod laidOut (by kernel_rfl) (of_decide_eq_true (by kernel_rfl)) k2 bel lt2) trodAll_mk0))), rfl, bel.frame _, fun h => by cases h⟩

theorem over : Rows.fnExactJoinBlockSystemsRow.holds Try.pinned (OpenSpec.ofChange Rows.fnExactJoinBlockSystemsSpec) :=
  OpenClaim.holds_of_wide 12 Try.f12 rfl rfl rfl rfl rfl rfl rfl ⟨rfl, rfl, rfl, rfl, rfl⟩ rfl rfl rfl rfl rfl (by kernel_rfl) Try.func12 (by kernel_rfl)
    (of_decide_eq_true (by kernel_rfl)) (by unfold Func.isWrapper; first | (rw [if_pos (by decide +kernel)]; kernel_rfl) | (rw [if_neg (by decide +kernel)]; exact ⟨rfl, rfl⟩))
    (fun os started H enc _ => lifted os started H enc)

theorem proved : Rows.FnExactJoinBlockSystemsSaid := over
end fnExactJoinBlockSystems
end Go.Proofs.Ytiekjklhojmnoaa
