/- The law FnGroupAxioms: for every input it returns true, and what the argument holds is as it was. The walk, and the row. No condition. -/
import Derived.Test.YtkjnabpllecglaaLike
import Derived.ProofKit
import Derived.OpenShut
import Derived.ShutString
import Derived.ChangeOld
namespace Go.Proofs.Ytkjnabpllecglaa
open Go.RowKit

set_option maxHeartbeats 2000000 in
theorem fnGroupAxioms_law (a0 : Option Addr) (n0 c0 : Nat) (w : World) (hby : Bytes w a0 n0) :
    Calls Try.prog 14 #[.slice a0 n0 c0] w fun e w' => e = .returned (.bool true) ∧ Below w.heap.size w w' := by
  obtain ⟨R, hR⟩ : ∃ R : Ending → World → Prop, R = fun e w' => e = .returned (.bool true) ∧ Below w.heap.size w w' := ⟨_, rfl⟩
  have H : Hd (∀ w', Below w.heap.size w w' → R (.returned (.bool true)) w') := by intro w' h; rw [hR]; exact ⟨rfl, h⟩
  rw [← hR]; clear hR
  by_cases hn0 : 4096 < n0
  · go_enter Try.func14, Try.ntmps14
    go_wp2_with fail
    refine big_c _ _ _ _ ?_
    go_wp2_with fail
    exact H.o _ (Below.refl _ _)
  go_enter Try.func14, Try.ntmps14
  go_wp2_with fail
  refine big_c _ _ _ _ ?_
  go_wp2_with fail
  refine roll_c _ _ _ _ _ hby (by omega) ?_
  intro g w1 hb1 hd1
  have hgl := hd1.lt
  have hg0 : ∀ b off s, (some (⟨g, 0, none⟩ : Addr)) = some ⟨b, off, s⟩ → w.heap.size ≤ b := by intro b off s e; cases e; exact hgl.1
  go_wp2_with fail
  refine below_c _ g _ _ hd1 (by omega) ?_
  intro v w2 hv0 hv1 hw2 hd2
  replace hd1 := hd2; clear hd2
  have hB := Hd.i (hb1.trans (hw2.below hg0))
  replace hgl := hd1.lt
  obtain ⟨n, hn⟩ : ∃ n : Nat, 1 + v = (n : Int) := ⟨(1 + v).toNat, by omega⟩
  have hn1 : 1 ≤ n := by omega
  have hn2 : n ≤ 9 := by omega
  replace hn := Hd.i hn
  have hn20 : n ≤ 20 := by omega
  clear hw2 hb1
  go_wp2_with fail
  refine swapPermutation_z _ g n _ _ hn hd1 hn1 hn20 ?_
  intro b3 d3 p w3 hp lp hw3 hd3 ho3
  replace hB := Hd.i (hB.o.trans (hw3.below hB.o.size hg0))
  have ap3 := Hd.i (dice_apart ho3 hgl.2)
  clear hw3
  go_wp2_with fail
  refine swapPermutation_z _ g n _ _ hn hd3 hn1 hn20 ?_
  intro b4 d4 q w4 hq lq hw4 hd4 ho4
  replace hB := Hd.i (hB.o.trans (hw4.below hB.o.size hg0))
  replace ho3 := hw4.ownI ho3 ap3.o
  have ap4 := Hd.i (dice_apart ho4 hd3.lt.2)
  clear hw4
  go_wp2_with fail
  refine swapPermutation_z _ g n _ _ hn hd4 hn1 hn20 ?_
  intro b5 d5 r w5 hr lr hw5 hd5 ho5
  replace hB := Hd.i (hB.o.trans (hw5.below hB.o.size hg0))
  replace ho3 := hw5.ownI ho3 ap3.o
  replace ho4 := hw5.ownI ho4 ap4.o
  clear hw5 ap3 ap4 hd1 hd3 hd4 hd5
  have hpq : Hd (PermPair p q) := ⟨by rw [lp.o, lq.o], hp.o, hq.o⟩
  have hqr : Hd (PermPair q r) := ⟨by rw [lq.o, lr.o], hq.o, hr.o⟩
  have ipq := Hd.i (isPerm_comp hpq.o)
  have iqr := Hd.i (isPerm_comp hqr.o)
  have iip := Hd.i (isPerm_inv hp.o)
  have hpq_r : Hd (PermPair (comp p q) r) := ⟨by rw [comp_length, lp.o, lr.o], ipq.o, hr.o⟩
  have hp_qr : Hd (PermPair p (comp q r)) := ⟨by rw [comp_length, lp.o, lq.o], hp.o, iqr.o⟩
  have hpi : Hd (PermPair p (inv p)) := ⟨by rw [inv_length], hp.o, iip.o⟩
  have hip : Hd (PermPair (inv p) p) := ⟨by rw [inv_length], iip.o, hp.o⟩
  have e1 : Hd (comp (comp p q) r = comp p (comp q r)) := comp_assoc fun x hx => by rw [lq.o, ← lp.o]; exact hp.o.range x hx
  have e2 : Hd (comp p (inv p) = idl n) := (comp_inv hp.o).trans (by rw [lp.o])
  have e3 : Hd (comp (inv p) p = idl n) := (inv_comp hp.o).trans (by rw [lp.o])
  go_wp2_with fail
  refine composePair _ _ _ p _ _ _ q _ ho3 ho4 hpq ?_
  intro b6 m6 d6 w6 hb6 ho6
  replace ho3 := ho3.up hb6
  replace ho4 := ho4.up hb6
  replace ho5 := ho5.up hb6
  replace hB := Hd.i (below_ups hB.o hb6 hB.o.size)
  clear hb6
  go_wp2_with fail
  refine composePair _ _ _ q _ _ _ r _ ho4 ho5 hqr ?_
  intro b7 m7 d7 w7 hb7 ho7
  replace ho3 := ho3.up hb7
  replace ho5 := ho5.up hb7
  replace ho6 := ho6.up hb7
  replace hB := Hd.i (below_ups hB.o hb7 hB.o.size)
  clear hb7 ho4
  go_wp2_with fail
  refine composePair _ _ _ (comp p q) _ _ _ r _ ho6 ho5 hpq_r ?_
  intro b8 m8 d8 w8 hb8 ho8
  replace ho3 := ho3.up hb8
  replace ho6 := ho6.up hb8
  replace ho7 := ho7.up hb8
  replace hB := Hd.i (below_ups hB.o hb8 hB.o.size)
  clear hb8 ho5
  go_wp2_with fail
  refine composePair _ _ _ p _ _ _ (comp q r) _ ho3 ho7 hp_qr ?_
  intro b9 m9 d9 w9 hb9 ho9
  replace ho3 := ho3.up hb9
  replace ho6 := ho6.up hb9
  replace ho8 := ho8.up hb9
  replace hB := Hd.i (below_ups hB.o hb9 hB.o.size)
  clear hb9 ho7
  go_wp2_with fail
  refine inversePerm _ _ _ p _ ho3 hp ?_
  intro b10 m10 d10 w10 hb10 ho10
  replace ho3 := ho3.up hb10
  replace ho6 := ho6.up hb10
  replace ho8 := ho8.up hb10
  replace ho9 := ho9.up hb10
  replace hB := Hd.i (below_ups hB.o hb10 hB.o.size)
  clear hb10
  go_wp2_with fail
  refine composePair _ _ _ p _ _ _ (inv p) _ ho3 ho10 hpi ?_
  intro b11 m11 d11 w11 hb11 ho11
  replace ho3 := ho3.up hb11
  replace ho6 := ho6.up hb11
  replace ho8 := ho8.up hb11
  replace ho9 := ho9.up hb11
  replace ho10 := ho10.up hb11
  replace hB := Hd.i (below_ups hB.o hb11 hB.o.size)
  clear hb11
  go_wp2_with fail
  refine composePair _ _ _ (inv p) _ _ _ p _ ho10 ho3 hip ?_
  intro b12 m12 d12 w12 hb12 ho12
  replace ho6 := ho6.up hb12
  replace ho8 := ho8.up hb12
  replace ho9 := ho9.up hb12
  replace ho11 := ho11.up hb12
  replace hB := Hd.i (below_ups hB.o hb12 hB.o.size)
  clear hb12 ho3 ho10
  go_wp2_with fail
  refine identityOf _ n _ hn hn1 hn20 ?_
  intro b13 m13 d13 w13 hb13 ho13
  replace ho6 := ho6.up hb13
  replace ho8 := ho8.up hb13
  replace ho9 := ho9.up hb13
  replace ho11 := ho11.up hb13
  replace ho12 := ho12.up hb13
  replace hB := Hd.i (below_ups hB.o hb13 hB.o.size)
  clear hb13
  have hone : ((m13 : Int) == 1 + v) = true := by
    have h1 := ho13.length
    rw [idl_length] at h1
    have h2 := hn.o
    rw [beq_iff_eq]; omega
  have l13 := ho13.le
  go_wp2_with fail
  refine likeInts_same _ _ _ _ _ _ _ _ _ ho8.ints ho9.ints e1 ?_
  intro w14 hd14
  replace ho6 := hd14.ownI ho6
  replace ho11 := hd14.ownI ho11
  replace ho12 := hd14.ownI ho12
  replace ho13 := hd14.ownI ho13
  replace hB := Hd.i (hd14.up hB.o)
  clear hd14 ho8 ho9
  go_wp2_with fail
  refine likeInts_same _ _ _ _ _ _ _ _ _ ho11.ints ho13.ints e2 ?_
  intro w15 hd15
  replace ho6 := hd15.ownI ho6
  replace ho12 := hd15.ownI ho12
  replace ho13 := hd15.ownI ho13
  replace hB := Hd.i (hd15.up hB.o)
  clear hd15 ho11
  go_wp2_with fail
  refine likeInts_same _ _ _ _ _ _ _ _ _ ho12.ints ho13.ints e3 ?_
  intro w16 hd16
  replace ho6 := hd16.ownI ho6
  replace hB := Hd.i (hd16.up hB.o)
  clear hd16
  go_wp2_with fail
  refine isPermTrue _ _ _ _ _ ho6.ints ipq ?_
  go_wp2_with fail
  exact H.o _ hB.o

set_option linter.unusedVariables false
namespace fnGroupAxioms
open Go.ChangeShapes Go.WideShapes Go.ChangeAt Go.RowKit
open Go.ChangeMaps (open_string shut_string)

theorem own : ownKnob Try.prog.godebug = none := by kernel_rfl
theorem laidOut : laidOutB Try.prog = true := by kernel_rfl

set_option maxRecDepth 100000 in
theorem lifted (os : Os) (started : os.Started) (H : Type) (enc : TypeId × Value → H) :
    ReturnsInHanded {} Try.checked os 14 .any (Rows.fnGroupAxiomsSpec.pre6 enc Try.prog Try.f14 Rows.fnGroupAxiomsRow.domain false) (Rows.fnGroupAxiomsSpec.post enc Try.prog Try.f14 false true false false) := by
  refine returnsInHanded_of_change (C := Try.checked) own started (by kernel_rfl) Try.func14
    (ChangeSpec.witness6 (enc := enc) (C := Try.checked) false ⟨#[], #[.slice none 0 0], []⟩ 8 (by kernel_rfl) (by kernel_rfl) (by kernel_rfl) (by kernel_rfl)) ?_
  intro W base args ds gs before hval0 hW hcnd _
  have hval : ∀ (j : Nat) t v, Try.f14.params[j]? = some t → args[j]? = some v → Value.okWide Try.prog W .any base t v := hval0
  have hW' := hW
  obtain ⟨p, q, hA0, hV, rfl, hfz, hnd⟩ := hW
  have hA : DataW.TrodAll enc Try.prog W 0 (fun _ => true) true Try.f14.params.toList args.toList ds p := hA0
  rw [Try.params14] at hA hval
  obtain ⟨v0, vs0, d0, ds0, p0, q0, hargs, rfl, rfl, h0, r0⟩ := trodAll_cons hA
  obtain ⟨rfl, rfl, rfl⟩ := trodAll_nil r0
  obtain rfl : args = #[v0] := by cases args; simp_all
  obtain ⟨rfl, rfl⟩ := trodVars_none hV
  obtain ⟨a0, len0, cap0, rfl⟩ := okWide_slice Try.underlying35 (hval 0 35 v0 rfl rfl)
  have k0 := h0
  have lt0 : ∀ x ∈ p0, x.block < W.heap.size := by obtain ⟨m, hm⟩ := k0; exact DataW.trod_lt m _ _ _ hm
  obtain ⟨z0, u0⟩ : ∃ _ : Unit, Bytes W a0 len0 := by
    obtain ⟨fuel, hf⟩ := h0
    rcases open_ints Try.underlying35 Try.underlying5 (by kernel_rfl) hf with ⟨hcs, _⟩ | ⟨x, l, c, zs, hcs, _, hl, hm, hz, _, hcell, hwz⟩
    · simp [Value.cells] at hcs
      obtain ⟨rfl, rfl, rfl⟩ := hcs
      exact ⟨(), Bytes.nil _⟩
    · simp [Value.cells] at hcs
      obtain ⟨rfl, rfl, rfl⟩ := hcs
      exact ⟨(), Bytes.of_open hl hm (by simpa using hz) hcell hwz⟩
  clear hA0 hval0
  refine (fnGroupAxioms_law a0 len0 cap0 W u0).mono fun e W' ⟨he, bel⟩ => ?_
  subst he
  exact ⟨_, rfl, _, _, _, [], _, [], hW', trodAll_mk1 (shut_bool Try.underlying4 _), (trodAll_cons_mk (Below.trod laidOut (by kernel_rfl) (of_decide_eq_true (by kernel_rfl)) k0 bel lt0) trodAll_mk0), rfl, bel.frame _, fun h => by cases h⟩

theorem over : Rows.fnGroupAxiomsRow.holds Try.pinned (OpenSpec.ofChange Rows.fnGroupAxiomsSpec) :=
  OpenClaim.holds_of_wide 14 Try.f14 rfl rfl rfl rfl rfl rfl rfl ⟨rfl, rfl, rfl, rfl, rfl⟩ rfl rfl rfl rfl rfl (by kernel_rfl) Try.func14 (by kernel_rfl)
    (of_decide_eq_true (by kernel_rfl)) (by unfold Func.isWrapper; first | (rw [if_pos (by decide +kernel)]; kernel_rfl) | (rw [if_neg (by decide +kernel)]; exact ⟨rfl, rfl⟩))
    (fun os started H enc _ => lifted os started H enc)

theorem proved : Rows.FnGroupAxiomsSaid := over
end fnGroupAxioms
end Go.Proofs.Ytkjnabpllecglaa
