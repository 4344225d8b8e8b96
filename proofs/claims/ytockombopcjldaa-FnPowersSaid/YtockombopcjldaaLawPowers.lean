/- The law FnPowers: for every input it returns true, and what the argument holds is as it was. The walk, and the row. No condition. -/
import Derived.Test.YtockombopcjldaaLike
import Derived.Test.YtockombopcjldaaPurePow
import Derived.ProofKit
import Derived.OpenShut
import Derived.ShutString
import Derived.ChangeOld
namespace Go.Proofs.Ytockombopcjldaa
open Go.RowKit

theorem powerPerm {R : Ending → World → Prop} {B : Nat} (a : Option Addr) (n cap : Nat) (p : List Int) (z : Int) (w : World) (h : OwnI w B a n cap p) (hp : Hd (IsPerm p)) (hz : -9223372036854775808 ≤ z ∧ z ≤ 9223372036854775807) (H : MakesI R w (powZ p z)) :
    Calls Try.prog 33 #[.slice a n cap, .int .i64 z] w R := by
  refine topImplPower a n cap p z w h hz ?_
  rw [powZ_eq hp.o]; exact H
theorem orderPerm {R : Ending → World → Prop} {B : Nat} (a : Option Addr) (n cap : Nat) (p : List Int) (o : Nat) (w : World) (h : OwnI w B a n cap p) (hp : Hd (IsPerm p)) (ho : Hd (o = orderN p)) (H : Gives R w (.int .i64 o)) :
    Calls Try.prog 17 #[.slice a n cap] w R := by
  refine topImplElementOrder a n cap p w h ?_
  rw [show pOrder p = (o : Int) by rw [ho.o]; simp [pOrder, hp.o]]; exact H
theorem orderPermS {R : Ending → World → Prop} {B : Nat} (a : Option Addr) (n cap : Nat) (p : List Int) (o : Nat) (w : World) (h : OwnI w B a n cap p) (hp : Hd (IsPerm p)) (ho : Hd (o = orderN p)) (H : Gives R w (.int .i64 o)) :
    Calls Try.prog 15 #[.slice a n cap] w R := by
  refine topSpecElementOrder a n cap p w h ?_
  rw [show pOrder p = (o : Int) by rw [ho.o]; simp [pOrder, hp.o]]; exact H
theorem identityOfS {R : Ending → World → Prop} (n : Nat) (w : World) (h1 : 1 ≤ n) (hn : n ≤ 20) (H : MakesI R w (idl n)) : Calls Try.prog 53 #[.int .i64 n] w R := by
  refine topSpecIdentity (n : Int) w (by omega) ?_
  rw [show pIdentity (n : Int) = idl n by simp [pIdentity]; omega]
  exact H
theorem likeInts_diff {R : Ending → World → Prop} (a : Option Addr) (n cap : Nat) (xs : List Int) (a' : Option Addr) (n' cap' : Nat) (ys : List Int) (w : World) (hx : Ints w a n xs) (hy : Ints w a' n' ys) (e : Hd (xs ≠ ys))
    (H : Reads R w (.bool false)) : Calls Try.prog 51 #[.slice a n cap, .slice a' n' cap'] w R := by
  refine likeInts_c a n cap xs a' n' cap' ys w hx hy ?_
  rw [decide_eq_false e.o]; exact H

set_option maxHeartbeats 2000000 in
theorem fnPowers_law (a0 : Option Addr) (n0 c0 : Nat) (w : World) (hby : Bytes w a0 n0) :
    Calls Try.prog 14 #[.slice a0 n0 c0] w fun e w' => e = .returned (.bool true) ∧ Below w.heap.size w w' := by
  obtain ⟨R, hR⟩ : ∃ R : Ending → World → Prop, R = fun e w' => e = .returned (.bool true) ∧ Below w.heap.size w w' := ⟨_, rfl⟩
  have H : Hd (∀ w', Below w.heap.size w w' → R (.returned (.bool true)) w') := by intro w' h; rw [hR]; exact ⟨rfl, h⟩
  rw [← hR]; clear hR
  by_cases hn0 : 4096 < n0
  · go_enter Try.func14, Try.ntmps14
    go_wp2_with fail
    refine big_c _ _ _ _ ?_
    go_wp2_with fail
    exact H.o _ (Below.refl _ _)
  go_enter Try.func14, Try.ntmps14
  go_wp2_with fail
  refine big_c _ _ _ _ ?_
  go_wp2_with fail
  refine roll_c _ _ _ _ _ hby (by omega) ?_
  intro g w1 hb1 hd1
  have hgl := hd1.lt
  have hg0 : ∀ b off s, (some (⟨g, 0, none⟩ : Addr)) = some ⟨b, off, s⟩ → w.heap.size ≤ b := by intro b off s e; cases e; exact hgl.1
  go_wp2_with fail
  refine below_c _ g _ _ hd1 (by omega) ?_
  intro v w2 hv0 hv1 hw2 hd2
  replace hd1 := hd2; clear hd2
  have hB := Hd.i (hb1.trans (hw2.below hg0))
  replace hgl := hd1.lt
  obtain ⟨n, hn⟩ : ∃ n : Nat, 1 + v = (n : Int) := ⟨(1 + v).toNat, by omega⟩
  have hn1 : 1 ≤ n := by omega
  have hn20 : n ≤ 20 := by omega
  replace hn := Hd.i hn
  clear hw2 hb1
  go_wp2_with fail
  refine swapPermutation_z _ g n _ _ hn hd1 hn1 hn20 ?_
  intro b3 d3 p w3 hp lp hw3 hd3 ho3
  replace hB := Hd.i (hB.o.trans (hw3.below hB.o.size hg0))
  have ap3 := Hd.i (dice_apart ho3 hgl.2)
  clear hw3 hd1
  go_wp2_with fail
  refine below_c _ g _ _ hd3 (by omega) ?_
  intro vj w4 hj0 hj1 hw4 hd4
  replace ho3 := ho3.wrote hw4 ap3.o
  replace hB := Hd.i (hB.o.trans (hw4.below hg0))
  clear hw4 hd3
  go_wp2_with fail
  refine below_c _ g _ _ hd4 (by omega) ?_
  intro vk w5 hk0 hk1 hw5 hd5
  replace ho3 := ho3.wrote hw5 ap3.o
  replace hB := Hd.i (hB.o.trans (hw5.below hg0))
  clear hw5 hd4 hd5 ap3
  obtain ⟨o, ho⟩ : ∃ o : Nat, Hd (o = orderN p) := ⟨_, rfl⟩
  have hor : 1 ≤ o ∧ o ≤ 232792560 := by rw [ho.o]; exact orderN_pos hp.o
  have hor1 := hor.1
  have hor2 := hor.2
  clear hor
  have hpp : ∀ x y, Hd (PermPair (powZ p x) (powZ p y)) := fun x y => ⟨by rw [powZ_length, powZ_length], isPerm_powZ hp.o x, isPerm_powZ hp.o y⟩
  go_wp2_with fail
  refine powerPerm _ _ _ p _ _ ho3 hp (by omega) ?_
  intro b6 m6 d6 w6 hb6 ho6
  replace ho3 := ho3.up hb6
  replace hB := Hd.i (below_ups hB.o hb6 hB.o.size)
  clear hb6
  go_wp2_with fail
  refine powerPerm _ _ _ p _ _ ho3 hp (by omega) ?_
  intro b7 m7 d7 w7 hb7 ho7
  replace ho3 := ho3.up hb7
  replace ho6 := ho6.up hb7
  replace hB := Hd.i (below_ups hB.o hb7 hB.o.size)
  clear hb7
  go_wp2_with fail
  refine composePair _ _ _ _ _ _ _ _ _ ho6 ho7 (hpp _ _) ?_
  rw [powZ_add hp.o]
  intro b8 m8 d8 w8 hb8 ho8
  replace ho3 := ho3.up hb8
  replace hB := Hd.i (below_ups hB.o hb8 hB.o.size)
  clear hb8 ho6 ho7 hpp
  go_wp2_with fail
  refine orderPerm _ _ _ p o _ ho3 hp ho ?_
  intro w9 hb9
  replace ho3 := ho3.up hb9
  replace ho8 := ho8.up hb9
  replace hB := Hd.i (below_ups hB.o hb9 hB.o.size)
  clear hb9
  go_wp2_with fail
  refine powerPerm _ _ _ p _ _ ho3 hp (by omega) ?_
  intro b10 m10 d10 w10 hb10 ho10
  replace ho3 := ho3.up hb10
  replace ho8 := ho8.up hb10
  replace hB := Hd.i (below_ups hB.o hb10 hB.o.size)
  clear hb10
  go_wp2_with fail
  refine likeInts_same _ _ _ _ _ _ _ _ _ ho8.ints ho10.ints (Hd.i rfl) ?_
  intro w11 hd11
  replace ho3 := hd11.ownI ho3
  replace hB := Hd.i (hd11.up hB.o)
  clear hd11 ho8 ho10
  go_wp2_with fail
  refine orderPermS _ _ _ p o _ ho3 hp ho ?_
  intro w12 hb12
  replace ho3 := ho3.up hb12
  replace hB := Hd.i (below_ups hB.o hb12 hB.o.size)
  clear hb12
  go_wp2_with fail
  refine powerPerm _ _ _ p _ _ ho3 hp (by omega) ?_
  intro b13 m13 d13 w13 hb13 ho13
  replace ho3 := ho3.up hb13
  replace hB := Hd.i (below_ups hB.o hb13 hB.o.size)
  clear hb13
  go_wp2_with fail
  refine identityOf _ n _ (Hd.i rfl) hn1 hn20 ?_
  intro b14 m14 d14 w14 hb14 ho14
  replace ho3 := ho3.up hb14
  replace ho13 := ho13.up hb14
  replace hB := Hd.i (below_ups hB.o hb14 hB.o.size)
  clear hb14
  go_wp2_with fail
  refine likeInts_same _ _ _ _ _ _ _ _ _ ho13.ints ho14.ints (by show _ = _; rw [ho.o, powZ_order hp.o, lp.o]) ?_
  intro w15 hd15
  replace ho3 := hd15.ownI ho3
  replace hB := Hd.i (hd15.up hB.o)
  clear hd15 ho13 ho14
  replace ho3 := ho3.mono (B' := w.heap.size) (by first | exact Nat.le_trans hgl.1 (Nat.le_of_lt hgl.2) | omega)
  go_wp2
  go_loopw [11] (fun i wr => ∃ k : Nat, 1 ≤ k ∧ k ≤ o ∧ i = .int .i64 k ∧ OwnI wr w.heap.size b3 n d3 p ∧ Hd (Below w.heap.size w wr)) (fun i _ => o - (intOf i).toNat)
  case atStart => exact ⟨1, Nat.le_refl _, hor1, rfl, ho3, hB⟩
  case round =>
    obtain ⟨k, hk1', hk, rfl, hor, hBr⟩ := hrel
    by_cases hlt : k < o
    · go_wp2_with fail
      refine powerPerm _ _ _ p _ _ hor hp (by omega) ?_
      intro b20 m20 d20 w20 hb20 ho20
      replace hor := hor.up hb20
      replace hBr := Hd.i (below_ups hBr.o hb20 hBr.o.size)
      clear hb20
      go_wp2_with fail
      refine identityOfS n _ hn1 hn20 ?_
      intro b21 m21 d21 w21 hb21 ho21
      replace hor := hor.up hb21
      replace ho20 := ho20.up hb21
      replace hBr := Hd.i (below_ups hBr.o hb21 hBr.o.size)
      clear hb21
      go_wp2_with fail
      refine likeInts_diff _ _ _ _ _ _ _ _ _ ho20.ints ho21.ints (by show _ ≠ _; rw [← lp.o]; exact powZ_small hp.o hk1' (by rw [← ho.o]; exact hlt)) ?_
      intro w22 hd22
      replace hor := hd22.ownI hor
      replace hBr := Hd.i (hd22.up hBr.o)
      clear hd22 ho20 ho21
      go_wp2_with fail
      exact ⟨⟨k + 1, by omega, by omega, by go_num, hor, hBr⟩, by simp [intOf]; omega⟩
    · go_wp2_with fail
      refine powerPerm _ _ _ p _ _ hor hp (by omega) ?_
      intro b20 m20 d20 w20 hb20 ho20
      replace hor := hor.up hb20
      replace hBr := Hd.i (below_ups hBr.o hb20 hBr.o.size)
      clear hb20
      go_wp2_with fail
      refine inversePerm _ _ _ p _ hor hp ?_
      intro b21 m21 d21 w21 hb21 ho21
      replace ho20 := ho20.up hb21
      replace hBr := Hd.i (below_ups hBr.o hb21 hBr.o.size)
      clear hb21
      go_wp2_with fail
      refine likeInts_same _ _ _ _ _ _ _ _ _ ho20.ints ho21.ints (Hd.i (powZ_neg hp.o)) ?_
      intro w22 hd22
      replace hBr := Hd.i (hd22.up hBr.o)
      clear hd22
      go_wp2_with fail
      exact H.o _ hBr.o

set_option linter.unusedVariables false
namespace fnPowers
open Go.ChangeShapes Go.WideShapes Go.ChangeAt Go.RowKit
open Go.ChangeMaps (open_string shut_string)

theorem own : ownKnob Try.prog.godebug = none := by kernel_rfl
theorem laidOut : laidOutB Try.prog = true := by kernel_rfl

set_option maxRecDepth 100000 in
theorem lifted (os : Os) (started : os.Started) (H : Type) (enc : TypeId × Value → H) :
    ReturnsInHanded {} Try.checked os 14 .any (Rows.fnPowersSpec.pre6 enc Try.prog Try.f14 Rows.fnPowersRow.domain false) (Rows.fnPowersSpec.post enc Try.prog Try.f14 false true false false) := by
  refine returnsInHanded_of_change (C := Try.checked) own started (by kernel_rfl) Try.func14
    (ChangeSpec.witness6 (enc := enc) (C := Try.checked) false ⟨#[], #[.slice none 0 0], []⟩ 8 (by kernel_rfl) (by kernel_rfl) (by kernel_rfl) (by kernel_rfl)) ?_
  intro W base args ds gs before hval0 hW hcnd _
  have hval : ∀ (j : Nat) t v, Try.f14.params[j]? = some t → args[j]? = some v → Value.okWide Try.prog W .any base t v := hval0
  have hW' := hW
  obtain ⟨p, q, hA0, hV, rfl, hfz, hnd⟩ := hW
  have hA : DataW.TrodAll enc Try.prog W 0 (fun _ => true) true Try.f14.params.toList args.toList ds p := hA0
  rw [Try.params14] at hA hval
  obtain ⟨v0, vs0, d0, ds0, p0, q0, hargs, rfl, rfl, h0, r0⟩ := trodAll_cons hA
  obtain ⟨rfl, rfl, rfl⟩ := trodAll_nil r0
  obtain rfl : args = #[v0] := by cases args; simp_all
  obtain ⟨rfl, rfl⟩ := trodVars_none hV
  obtain ⟨a0, len0, cap0, rfl⟩ := okWide_slice Try.underlying39 (hval 0 39 v0 rfl rfl)
  have k0 := h0
  have lt0 : ∀ x ∈ p0, x.block < W.heap.size := by obtain ⟨m, hm⟩ := k0; exact DataW.trod_lt m _ _ _ hm
  obtain ⟨z0, u0⟩ : ∃ _ : Unit, Bytes W a0 len0 := by
    obtain ⟨fuel, hf⟩ := h0
    rcases open_ints Try.underlying39 Try.underlying5 (by kernel_rfl) hf with ⟨hcs, _⟩ | ⟨x, l, c, zs, hcs, _, hl, hm, hz, _, hcell, hwz⟩
    · simp [Value.cells] at hcs
      obtain ⟨rfl, rfl, rfl⟩ := hcs
      exact ⟨(), Bytes.nil _⟩
    · simp [Value.cells] at hcs
      obtain ⟨rfl, rfl, rfl⟩ := hcs
      exact ⟨(), Bytes.of_open hl hm (by simpa using hz) hcell hwz⟩
  clear hA0 hval0
  refine (fnPowers_law a0 len0 cap0 W u0).mono fun e W' ⟨he, bel⟩ => ?_
  subst he
  exact ⟨_, rfl, _, _, _, [], _, [], hW', trodAll_mk1 (shut_bool Try.underlying4 _), (trodAll_cons_mk (Below.trod laidOut (by kernel_rfl) (of_decide_eq_true (by kernel_rfl)) k0 bel lt0) trodAll_mk0), rfl, bel.frame _, fun h => by cases h⟩

theorem over : Rows.fnPowersRow.holds Try.pinned (OpenSpec.ofChange Rows.fnPowersSpec) :=
  OpenClaim.holds_of_wide 14 Try.f14 rfl rfl rfl rfl rfl rfl rfl ⟨rfl, rfl, rfl, rfl, rfl⟩ rfl rfl rfl rfl rfl (by kernel_rfl) Try.func14 (by kernel_rfl)
    (of_decide_eq_true (by kernel_rfl)) (by unfold Func.isWrapper; first | (rw [if_pos (by decide +kernel)]; kernel_rfl) | (rw [if_neg (by decide +kernel)]; exact ⟨rfl, rfl⟩))
    (fun os started H enc _ => lifted os started H enc)

theorem proved : Rows.FnPowersSaid := over
end fnPowers
end Go.Proofs.Ytockombopcjldaa
