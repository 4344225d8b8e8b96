/- SameGroup. -/
import Derived.Test.YtpijnjhheikmcaaChainTop4
namespace Go.Proofs.Ytpijnjhheikmcaa
open Go.RowKit

theorem memAll_iff {d : Nat} {xss ps : List (List Int)} : memAll d xss ps = true ↔ ∀ p ∈ ps, Grp d xss p := by
  unfold memAll
  rw [List.all_eq_true]
  exact ⟨fun h p hp => memB_iff.1 (h p hp), fun h p hp => memB_iff.2 (h p hp)⟩
open Classical in
noncomputable def pSameGroup (z : Int) (xss yss : List (List Int)) : Bool := if GenSet z xss ∧ GenSet z yss then memAll z.toNat xss yss && memAll z.toNat yss xss else false
theorem same_orders {d : Nat} (h1 : 1 ≤ d) (h2 : d ≤ 20) {xss yss : List (List Int)} (hx : Gs d xss) (hy : Gs d yss) :
    ((((ordF (osz d xss) 0 d : Nat) : Int) == ((ordF (osz d yss) 0 d : Nat) : Int)) && memAll d xss yss) = (memAll d xss yss && memAll d yss xss) := by
  cases hm : memAll d xss yss with
  | false => rw [Bool.and_false, Bool.false_and]
  | true =>
    rw [Bool.and_true, Bool.true_and]
    have hs := memAll_iff.1 hm
    cases hb : memAll d yss xss with
    | true =>
      have ht := memAll_iff.1 hb
      have e := osz_congr (d := d) (xss := xss) (yss := yss) fun p => ⟨fun h => h.mono h1 h2 hy ht, fun h => h.mono h1 h2 hx hs⟩
      rw [e]; simp
    | false =>
      rw [beq_eq_false_iff_ne]
      intro e
      have e' : ordF (osz d xss) 0 d = ordF (osz d yss) 0 d := by omega
      have hall := same_of_order h1 h2 hx hy hs e'
      have : memAll d yss xss = true := memAll_iff.2 fun p hp => hall p (Grp.gen hx hp)
      rw [this] at hb; cases hb

theorem topImplSameGroup {R : Ending → World → Prop} {B B' : Nat} (z : Int) (a : Option Addr) (n cap : Nat) (hs : List Hdr) (xss : List (List Int)) (b : Option Addr) (m capb : Nat) (hs' : List Hdr) (yss : List (List Int)) (w : World) (_ : -9223372036854775808 ≤ z ∧ z ≤ 9223372036854775807) (hx : OwnH w B a n cap hs xss) (hy : OwnH w B' b m capb hs' yss)
    (H : Gives R w (.bool (pSameGroup z xss yss))) : Calls Try.prog 27 #[.int .i64 z, .slice a n cap, .slice b m capb] w R := by
  have H' := Hd.i H; clear H
  have hmx := hx.rows
  have hmy := hy.rows
  by_cases hgx : GenSet z xss
  · have hdx := Hd.i (decide_eq_true hgx)
    by_cases hgy : GenSet z yss
    · have hdy := Hd.i (decide_eq_true hgy)
      obtain ⟨d, rfl⟩ := genSet_d hgx
      have e := Hd.i (show pSameGroup (d : Int) xss yss = ((((ordF (osz d xss) 0 d : Nat) : Int) == ((ordF (osz d yss) 0 d : Nat) : Int)) && memAll d xss yss) by
        rw [same_orders (by have := hgx.1; omega) (by have := hgx.2.1; omega) (gs_of hgx) (gs_of hgy)]
        simp [pSameGroup, hgx, hgy])
      have hm := genSet_n hgy hmy
      have hgsx := Hd.i (gs_of hgx)
      have hgsy := Hd.i (gs_of hgy)
      replace hgx := Hd.i hgx
      replace hgy := Hd.i hgy
      cases heq : (((ordF (osz d xss) 0 d : Nat) : Int) == ((ordF (osz d yss) 0 d : Nat) : Int)) with
      | true =>
        rw [heq, Bool.true_and] at e
        go_enter Try.func27, Try.ntmps27
        go_wp2_with fail
        refine implGenSet_c (d : Int) _ _ _ xss _ hmx ?_
        intro w1 hb1
        rw [hdx.o]
        go_wp2_with fail
        refine implGenSet_c (d : Int) _ _ _ yss _ (hmy.up hb1) ?_
        intro w2 hb2
        rw [hdy.o]
        have hb12 := below_ups hb1 hb2 hb1.size
        go_wp2_with fail
        refine implChain_c d _ _ _ xss _ (hmx.up hb12) hgx ?_
        intro w3 cx hb3 hCx
        have hb13 := below_ups hb12 hb3 hb12.size
        go_wp2_with fail
        refine implChain_c d _ _ _ yss _ (hmy.up hb13) hgy ?_
        intro w4 cy hb4 hCy
        have hb14 := below_ups hb13 hb4 hb13.size
        go_wp2_with fail
        refine implOrderC_c d cx xss 0 _ (Nat.zero_le _) (hCx.up hb4) hgsx ?_
        intro w5 hb5
        have hb15 := below_ups hb14 hb5 hb14.size
        go_wp2_with fail
        refine implOrderC_c d cy yss 0 _ (Nat.zero_le _) (hCy.up hb5) hgsy ?_
        intro w6 hb6
        have hb16 := below_ups hb15 hb6 hb15.size
        go_wp2_with fail
        refine implHasAll_c d cx xss _ _ _ yss _ (((hCx.up hb4).up hb5).up hb6) (hmy.up hb16) hgsy hm ?_
        intro w7 hb7
        go_wp2
        exact retB (H'.o _ (below_ups hb16 hb7 hb16.size)) e.o
      | false =>
        rw [heq, Bool.false_and] at e
        go_enter Try.func27, Try.ntmps27
        go_wp2_with fail
        refine implGenSet_c (d : Int) _ _ _ xss _ hmx ?_
        intro w1 hb1
        rw [hdx.o]
        go_wp2_with fail
        refine implGenSet_c (d : Int) _ _ _ yss _ (hmy.up hb1) ?_
        intro w2 hb2
        rw [hdy.o]
        have hb12 := below_ups hb1 hb2 hb1.size
        go_wp2_with fail
        refine implChain_c d _ _ _ xss _ (hmx.up hb12) hgx ?_
        intro w3 cx hb3 hCx
        have hb13 := below_ups hb12 hb3 hb12.size
        go_wp2_with fail
        refine implChain_c d _ _ _ yss _ (hmy.up hb13) hgy ?_
        intro w4 cy hb4 hCy
        have hb14 := below_ups hb13 hb4 hb13.size
        go_wp2_with fail
        refine implOrderC_c d cx xss 0 _ (Nat.zero_le _) (hCx.up hb4) hgsx ?_
        intro w5 hb5
        have hb15 := below_ups hb14 hb5 hb14.size
        go_wp2_with fail
        refine implOrderC_c d cy yss 0 _ (Nat.zero_le _) (hCy.up hb5) hgsy ?_
        intro w6 hb6
        have hb16 := below_ups hb15 hb6 hb15.size
        go_wp2
        exact retB (H'.o _ hb16) e.o
    · have hdy := Hd.i (decide_eq_false hgy)
      have e := Hd.i (show pSameGroup z xss yss = false by simp [pSameGroup, hgy])
      replace hgx := Hd.i hgx
      replace hgy := Hd.i hgy
      go_enter Try.func27, Try.ntmps27
      go_wp2_with fail
      refine implGenSet_c z _ _ _ xss _ hmx ?_
      intro w1 hb1
      rw [hdx.o]
      go_wp2_with fail
      refine implGenSet_c z _ _ _ yss _ (hmy.up hb1) ?_
      intro w2 hb2
      rw [hdy.o]
      go_wp2
      exact retB (H'.o _ (below_ups hb1 hb2 hb1.size)) e.o
  · have hdx := Hd.i (decide_eq_false hgx)
    have e := Hd.i (show pSameGroup z xss yss = false by simp [pSameGroup, hgx])
    replace hgx := Hd.i hgx
    go_enter Try.func27, Try.ntmps27
    go_wp2_with fail
    refine implGenSet_c z _ _ _ xss _ hmx ?_
    intro w1 hb1
    rw [hdx.o]
    go_wp2
    exact retB (H'.o _ hb1) e.o

theorem topSpecSameGroup {R : Ending → World → Prop} {B B' : Nat} (z : Int) (a : Option Addr) (n cap : Nat) (hs : List Hdr) (xss : List (List Int)) (b : Option Addr) (m capb : Nat) (hs' : List Hdr) (yss : List (List Int)) (w : World) (_ : -9223372036854775808 ≤ z ∧ z ≤ 9223372036854775807) (hx : OwnH w B a n cap hs xss) (hy : OwnH w B' b m capb hs' yss)
    (H : Gives R w (.bool (pSameGroup z xss yss))) : Calls Try.prog 26 #[.int .i64 z, .slice a n cap, .slice b m capb] w R := by
  have H' := Hd.i H; clear H
  have hmx := hx.rows
  have hmy := hy.rows
  by_cases hgx : GenSet z xss
  · have hdx := Hd.i (decide_eq_true hgx)
    by_cases hgy : GenSet z yss
    · have hdy := Hd.i (decide_eq_true hgy)
      obtain ⟨d, rfl⟩ := genSet_d hgx
      have e := Hd.i (show pSameGroup (d : Int) xss yss = (memAll d xss yss && memAll d yss xss) by simp [pSameGroup, hgx, hgy])
      have hm := genSet_n hgy hmy
      have hn := genSet_n hgx hmx
      have hgsx := Hd.i (gs_of hgx)
      have hgsy := Hd.i (gs_of hgy)
      replace hgx := Hd.i hgx
      replace hgy := Hd.i hgy
      cases h1 : memAll d xss yss with
      | true =>
        rw [h1, Bool.true_and] at e
        replace h1 := Hd.i h1
        go_enter Try.func26, Try.ntmps26
        go_wp2_with fail
        refine specGenSet_c (d : Int) _ _ _ xss _ hmx ?_
        intro w1 hr1
        rw [hdx.o]
        have hb1 := hr1.below w.heap.size
        go_wp2_with fail
        refine specGenSet_c (d : Int) _ _ _ yss _ (hmy.up hb1) ?_
        intro w2 hr2
        rw [hdy.o]
        have hb12 := below_ups hb1 (hr2.below _) hb1.size
        go_wp2_with fail
        refine specBuild_c d _ _ _ xss _ (hmx.up hb12) hgx ?_
        intro w3 cx hb3 hCx
        have hb13 := below_ups hb12 hb3 hb12.size
        go_wp2_with fail
        refine specHasAll_c d cx xss _ _ _ yss _ hCx (hmy.up hb13) hgsy hm ?_
        intro w4 hb4
        rw [h1.o]
        have hb14 := below_ups hb13 hb4 hb13.size
        go_wp2_with fail
        refine specBuild_c d _ _ _ yss _ (hmy.up hb14) hgy ?_
        intro w5 cy hb5 hCy
        have hb15 := below_ups hb14 hb5 hb14.size
        go_wp2_with fail
        refine specHasAll_c d cy yss _ _ _ xss _ hCy (hmx.up hb15) hgsx hn ?_
        intro w6 hb6
        go_wp2
        exact retB (H'.o _ (below_ups hb15 hb6 hb15.size)) e.o
      | false =>
        rw [h1, Bool.false_and] at e
        replace h1 := Hd.i h1
        go_enter Try.func26, Try.ntmps26
        go_wp2_with fail
        refine specGenSet_c (d : Int) _ _ _ xss _ hmx ?_
        intro w1 hr1
        rw [hdx.o]
        have hb1 := hr1.below w.heap.size
        go_wp2_with fail
        refine specGenSet_c (d : Int) _ _ _ yss _ (hmy.up hb1) ?_
        intro w2 hr2
        rw [hdy.o]
        have hb12 := below_ups hb1 (hr2.below _) hb1.size
        go_wp2_with fail
        refine specBuild_c d _ _ _ xss _ (hmx.up hb12) hgx ?_
        intro w3 cx hb3 hCx
        have hb13 := below_ups hb12 hb3 hb12.size
        go_wp2_with fail
        refine specHasAll_c d cx xss _ _ _ yss _ hCx (hmy.up hb13) hgsy hm ?_
        intro w4 hb4
        rw [h1.o]
        have hb14 := below_ups hb13 hb4 hb13.size
        go_wp2
        exact retB (H'.o _ hb14) e.o
    · have hdy := Hd.i (decide_eq_false hgy)
      have e := Hd.i (show pSameGroup z xss yss = false by simp [pSameGroup, hgy])
      replace hgx := Hd.i hgx
      replace hgy := Hd.i hgy
      go_enter Try.func26, Try.ntmps26
      go_wp2_with fail
      refine specGenSet_c z _ _ _ xss _ hmx ?_
      intro w1 hr1
      rw [hdx.o]
      have hb1 := hr1.below w.heap.size
      go_wp2_with fail
      refine specGenSet_c z _ _ _ yss _ (hmy.up hb1) ?_
      intro w2 hr2
      rw [hdy.o]
      go_wp2
      exact retB (H'.o _ (below_ups hb1 (hr2.below _) hb1.size)) e.o
  · have hdx := Hd.i (decide_eq_false hgx)
    have e := Hd.i (show pSameGroup z xss yss = false by simp [pSameGroup, hgx])
    replace hgx := Hd.i hgx
    go_enter Try.func26, Try.ntmps26
    go_wp2_with fail
    refine specGenSet_c z _ _ _ xss _ hmx ?_
    intro w1 hr1
    rw [hdx.o]
    have hb1 := hr1.below w.heap.size
    go_wp2
    exact retB (H'.o _ hb1) e.o
end Go.Proofs.Ytpijnjhheikmcaa
