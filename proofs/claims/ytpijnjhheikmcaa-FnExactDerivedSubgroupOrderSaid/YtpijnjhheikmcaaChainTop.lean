/- GroupOrder, IsMember, IsSubgroup. -/
import Derived.Test.YtpijnjhheikmcaaChainOrd
import Derived.Test.YtpijnjhheikmcaaPermTop
namespace Go.Proofs.Ytpijnjhheikmcaa
open Go.RowKit

theorem genSet_d {z : Int} {xss : List (List Int)} (h : GenSet z xss) : ∃ d : Nat, z = d := ⟨z.toNat, by have := h.1; omega⟩
open Classical in
noncomputable def pGroupOrder (z : Int) (xss : List (List Int)) : Int := if GenSet z xss then (ordF (osz z.toNat xss) 0 z.toNat : Nat) else 0
open Classical in
noncomputable def pIsMember (z : Int) (xss : List (List Int)) (p : List Int) : Bool := if GenSet z xss ∧ (p.length : Int) = z ∧ IsPerm p then memB z.toNat xss p else false
open Classical in
noncomputable def pIsSubgroup (z : Int) (xss yss : List (List Int)) : Bool := if GenSet z xss ∧ GenSet z yss then memAll z.toNat yss xss else false

theorem implGroupOrder_c {K : Ending → World → Prop} (z : Int) (a : Option Addr) (n cap : Nat) (xss : List (List Int)) (w : World) (hm : Mat w a n xss) (H : Gives K w (.int .i64 (pGroupOrder z xss))) :
    Calls Try.prog 29 #[.int .i64 z, .slice a n cap] w K := by
  have H' := Hd.i H; clear H
  by_cases hg : GenSet z xss
  · have hdec := Hd.i (decide_eq_true hg)
    obtain ⟨d, rfl⟩ := genSet_d hg
    have e : pGroupOrder (d : Int) xss = (ordF (osz d xss) 0 d : Nat) := by simp [pGroupOrder, hg]
    replace hg := Hd.i hg
    replace e := Hd.i e
    go_enter Try.func29, Try.ntmps29
    go_wp2_with fail
    refine implGenSet_c (d : Int) _ _ _ xss _ hm ?_
    intro w1 hb1
    rw [hdec.o]
    go_wp2_with fail
    refine implChain_c d _ _ _ xss _ (hm.up hb1) hg ?_
    intro w2 cp hb2 hC
    go_wp2_with fail
    refine implOrderC_c d cp xss 0 _ (Nat.zero_le _) hC (gs_of hg.o) ?_
    intro w3 hb3
    go_wp2
    exact retI (H'.o _ (below_ups (below_ups hb1 hb2 hb1.size) hb3 (Nat.le_trans hb1.size hb2.size))) e.o
  · have hdec := Hd.i (decide_eq_false hg)
    have e : pGroupOrder z xss = 0 := by simp [pGroupOrder, hg]
    replace hg := Hd.i hg
    replace e := Hd.i e
    go_enter Try.func29, Try.ntmps29
    go_wp2_with fail
    refine implGenSet_c z _ _ _ xss _ hm ?_
    intro w1 hb1
    rw [hdec.o]
    go_wp2
    exact retI (H'.o _ hb1) e.o
theorem specGroupOrder_c {K : Ending → World → Prop} (z : Int) (a : Option Addr) (n cap : Nat) (xss : List (List Int)) (w : World) (hm : Mat w a n xss) (H : Gives K w (.int .i64 (pGroupOrder z xss))) :
    Calls Try.prog 28 #[.int .i64 z, .slice a n cap] w K := by
  have H' := Hd.i H; clear H
  by_cases hg : GenSet z xss
  · have hdec := Hd.i (decide_eq_true hg)
    obtain ⟨d, rfl⟩ := genSet_d hg
    have e : pGroupOrder (d : Int) xss = (ordF (osz d xss) 0 d : Nat) := by simp [pGroupOrder, hg]
    replace hg := Hd.i hg
    replace e := Hd.i e
    go_enter Try.func28, Try.ntmps28
    go_wp2_with fail
    refine specGenSet_c (d : Int) _ _ _ xss _ hm ?_
    intro w1 hd1
    rw [hdec.o]
    have hb1 := hd1.below w.heap.size
    go_wp2_with fail
    refine specBuild_c d _ _ _ xss _ (hm.up hb1) hg ?_
    intro w2 cp hb2 hC
    go_wp2_with fail
    refine specOrder_c d cp xss _ hC (gs_of hg.o) ?_
    intro w3 hb3
    go_wp2
    exact retI (H'.o _ (below_ups (below_ups hb1 hb2 hb1.size) hb3 (Nat.le_trans hb1.size hb2.size))) e.o
  · have hdec := Hd.i (decide_eq_false hg)
    have e : pGroupOrder z xss = 0 := by simp [pGroupOrder, hg]
    replace hg := Hd.i hg
    replace e := Hd.i e
    go_enter Try.func28, Try.ntmps28
    go_wp2_with fail
    refine specGenSet_c z _ _ _ xss _ hm ?_
    intro w1 hd1
    rw [hdec.o]
    have hb1 := hd1.below w.heap.size
    go_wp2
    exact retI (H'.o _ hb1) e.o
theorem topImplGroupOrder {R : Ending → World → Prop} {B : Nat} (z : Int) (a : Option Addr) (n cap : Nat) (hs : List Hdr) (xss : List (List Int)) (w : World) (_ : -9223372036854775808 ≤ z ∧ z ≤ 9223372036854775807) (hx : OwnH w B a n cap hs xss)
    (H : Gives R w (.int .i64 (pGroupOrder z xss))) : Calls Try.prog 29 #[.int .i64 z, .slice a n cap] w R := implGroupOrder_c z a n cap xss w hx.rows H
theorem topSpecGroupOrder {R : Ending → World → Prop} {B : Nat} (z : Int) (a : Option Addr) (n cap : Nat) (hs : List Hdr) (xss : List (List Int)) (w : World) (_ : -9223372036854775808 ≤ z ∧ z ≤ 9223372036854775807) (hx : OwnH w B a n cap hs xss)
    (H : Gives R w (.int .i64 (pGroupOrder z xss))) : Calls Try.prog 28 #[.int .i64 z, .slice a n cap] w R := specGroupOrder_c z a n cap xss w hx.rows H

theorem topImplIsMember {R : Ending → World → Prop} {B B' : Nat} (z : Int) (a : Option Addr) (n cap : Nat) (hs : List Hdr) (xss : List (List Int)) (a' : Option Addr) (n' cap' : Nat) (p : List Int) (w : World) (_ : -9223372036854775808 ≤ z ∧ z ≤ 9223372036854775807) (hx : OwnH w B a n cap hs xss) (hp : OwnI w B' a' n' cap' p)
    (H : Gives R w (.bool (pIsMember z xss p))) : Calls Try.prog 19 #[.int .i64 z, .slice a n cap, .slice a' n' cap'] w R := by
  have H' := Hd.i H; clear H
  have hm := hx.rows
  have hpi := hp.ints
  have hpl := hp.length
  have hle := hpi.le
  by_cases hg : GenSet z xss
  · have hdec := Hd.i (decide_eq_true hg)
    obtain ⟨d, rfl⟩ := genSet_d hg
    by_cases hl : n' = d
    · subst hl
      by_cases hperm : IsPerm p
      · have hdp := Hd.i (decide_eq_true hperm)
        have e : pIsMember (n' : Int) xss p = memB n' xss p := by simp [pIsMember, hg, hpl, hperm]
        replace e := Hd.i e
        have hpm := Hd.i (show Pm n' p from ⟨hperm, hpl⟩)
        replace hg := Hd.i hg
        replace hperm := Hd.i hperm
        replace hpl := Hd.i hpl
        go_enter Try.func19, Try.ntmps19
        go_wp2_with fail
        refine implGenSet_c (n' : Int) _ _ _ xss _ hm ?_
        intro w1 hb1
        rw [hdec.o]
        have hp1 := hpi.up hb1
        go_wp2_with (first | (go_at_call 53; refine length_c _ _ _ _ ?_) | (go_at_call 54; refine implIsPerm_c _ _ _ p _ hp1 ?_; rw [hdp.o]) | (go_at_call 55; refine implChain_c n' _ _ _ xss _ (hm.up hb1) hg ?_; intro w2 cp hb2 hC; have hp2 := hp1.up hb2))
        refine implHas0_c n' cp xss _ _ _ p _ hC hp2 hpm ?_
        intro w3 hb3
        go_wp2
        exact retB (H'.o _ (below_ups (below_ups hb1 hb2 hb1.size) hb3 (Nat.le_trans hb1.size hb2.size))) e.o
      · have hdp := Hd.i (decide_eq_false hperm)
        have e : pIsMember (n' : Int) xss p = false := by simp [pIsMember, hperm]
        replace e := Hd.i e
        replace hg := Hd.i hg
        replace hperm := Hd.i hperm
        replace hpl := Hd.i hpl
        go_enter Try.func19, Try.ntmps19
        go_wp2_with fail
        refine implGenSet_c (n' : Int) _ _ _ xss _ hm ?_
        intro w1 hb1
        rw [hdec.o]
        have hp1 := hpi.up hb1
        go_wp2_with (first | (go_at_call 53; refine length_c _ _ _ _ ?_) | (go_at_call 54; refine implIsPerm_c _ _ _ p _ hp1 ?_; rw [hdp.o]))
        exact retB (H'.o _ hb1) e.o
    · have e : pIsMember (d : Int) xss p = false := by
        unfold pIsMember
        rw [if_neg]
        rintro ⟨_, h, _⟩
        omega
      replace e := Hd.i e
      replace hg := Hd.i hg
      have hne : ((n' : Int) == (d : Int)) = false := by simp; omega
      go_enter Try.func19, Try.ntmps19
      go_wp2_with fail
      refine implGenSet_c (d : Int) _ _ _ xss _ hm ?_
      intro w1 hb1
      rw [hdec.o]
      go_wp2_with (first | (go_at_call 53; refine length_c _ _ _ _ ?_))
      exact retB (H'.o _ hb1) e.o
  · have hdec := Hd.i (decide_eq_false hg)
    have e : pIsMember z xss p = false := by simp [pIsMember, hg]
    replace hg := Hd.i hg
    replace e := Hd.i e
    go_enter Try.func19, Try.ntmps19
    go_wp2_with fail
    refine implGenSet_c z _ _ _ xss _ hm ?_
    intro w1 hb1
    rw [hdec.o]
    go_wp2
    exact retB (H'.o _ hb1) e.o
end Go.Proofs.Ytpijnjhheikmcaa
