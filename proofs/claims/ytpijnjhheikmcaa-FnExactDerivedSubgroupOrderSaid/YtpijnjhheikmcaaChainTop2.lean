/- IsMember of the reference; IsSubgroup, SubgroupIndex. -/
import Derived.Test.YtpijnjhheikmcaaChainTop
namespace Go.Proofs.Ytpijnjhheikmcaa
open Go.RowKit

theorem topSpecIsMember {R : Ending → World → Prop} {B B' : Nat} (z : Int) (a : Option Addr) (n cap : Nat) (hs : List Hdr) (xss : List (List Int)) (a' : Option Addr) (n' cap' : Nat) (p : List Int) (w : World) (_ : -9223372036854775808 ≤ z ∧ z ≤ 9223372036854775807) (hx : OwnH w B a n cap hs xss) (hp : OwnI w B' a' n' cap' p)
    (H : Gives R w (.bool (pIsMember z xss p))) : Calls Try.prog 16 #[.int .i64 z, .slice a n cap, .slice a' n' cap'] w R := by
  have H' := Hd.i H; clear H
  have hm := hx.rows
  have hpi := hp.ints
  have hpl := hp.length
  have hpc := hp.cap
  have hle := hpi.le
  by_cases hg : GenSet z xss
  · have hdec := Hd.i (decide_eq_true hg)
    obtain ⟨d, rfl⟩ := genSet_d hg
    by_cases hl : n' = d
    · subst hl
      by_cases hperm : IsPerm p
      · have hdp := Hd.i (decide_eq_true hperm)
        have e : pIsMember (n' : Int) xss p = memB n' xss p := by simp [pIsMember, hg, hpl, hperm]
        replace e := Hd.i e
        have hpm := Hd.i (show Pm n' p from ⟨hperm, hpl⟩)
        replace hg := Hd.i hg
        replace hperm := Hd.i hperm
        replace hpl := Hd.i hpl
        go_enter Try.func16, Try.ntmps16
        go_wp2_with fail
        refine specGenSet_c (n' : Int) _ _ _ xss _ hm ?_
        intro w1 hd1
        rw [hdec.o]
        have hb1 := hd1.below w.heap.size
        have hp1 := hpi.up hb1
        go_wp2_with (first | (go_at_call 49; refine specIsPerm_c _ _ _ p _ hp1 hpc ?_; intro w4 hd4; rw [hdp.o]; have hb4 := below_ups hb1 (hd4.below _) hb1.size; have hp4 := hpi.up hb4) | (go_at_call 51; refine specBuild_c n' _ _ _ xss _ (hm.up hb4) hg ?_; intro w2 cp hb2 hC; have hp2 := hp4.up hb2))
        refine specHas0_c n' cp xss _ _ _ p _ hC hp2 hpm ?_
        intro w3 hb3
        go_wp2
        exact retB (H'.o _ (below_ups (below_ups hb4 hb2 hb4.size) hb3 (Nat.le_trans hb4.size hb2.size))) e.o
      · have hdp := Hd.i (decide_eq_false hperm)
        have e : pIsMember (n' : Int) xss p = false := by simp [pIsMember, hperm]
        replace e := Hd.i e
        replace hg := Hd.i hg
        replace hperm := Hd.i hperm
        replace hpl := Hd.i hpl
        go_enter Try.func16, Try.ntmps16
        go_wp2_with fail
        refine specGenSet_c (n' : Int) _ _ _ xss _ hm ?_
        intro w1 hd1
        rw [hdec.o]
        have hb1 := hd1.below w.heap.size
        have hp1 := hpi.up hb1
        go_wp2_with (first | (go_at_call 49; refine specIsPerm_c _ _ _ p _ hp1 hpc ?_; intro w4 hd4; rw [hdp.o]; have hb4 := below_ups hb1 (hd4.below _) hb1.size))
        exact retB (H'.o _ hb4) e.o
    · have e : pIsMember (d : Int) xss p = false := by
        unfold pIsMember
        rw [if_neg]
        rintro ⟨_, h, _⟩
        omega
      replace e := Hd.i e
      replace hg := Hd.i hg
      have hne : ((n' : Int) == (d : Int)) = false := by simp; omega
      go_enter Try.func16, Try.ntmps16
      go_wp2_with fail
      refine specGenSet_c (d : Int) _ _ _ xss _ hm ?_
      intro w1 hd1
      rw [hdec.o]
      have hb1 := hd1.below w.heap.size
      go_wp2
      exact retB (H'.o _ hb1) e.o
  · have hdec := Hd.i (decide_eq_false hg)
    have e : pIsMember z xss p = false := by simp [pIsMember, hg]
    replace hg := Hd.i hg
    replace e := Hd.i e
    go_enter Try.func16, Try.ntmps16
    go_wp2_with fail
    refine specGenSet_c z _ _ _ xss _ hm ?_
    intro w1 hd1
    rw [hdec.o]
    have hb1 := hd1.below w.heap.size
    go_wp2
    exact retB (H'.o _ hb1) e.o

theorem implAreGroups_c {K : Ending → World → Prop} (z : Int) (a : Option Addr) (n cap : Nat) (xss : List (List Int)) (b : Option Addr) (m capb : Nat) (yss : List (List Int)) (w : World) (hx : Mat w a n xss) (hy : Mat w b m yss) (H : Gives K w (.bool (decide (GenSet z xss) && decide (GenSet z yss)))) :
    Calls Try.prog 64 #[.int .i64 z, .slice a n cap, .slice b m capb] w K := by
  have H' := Hd.i H; clear H
  cases hdec : decide (GenSet z xss) with
  | true =>
    replace hdec := Hd.i hdec
    cases hdec2 : decide (GenSet z yss) with
    | true =>
      have e : (decide (GenSet z xss) && decide (GenSet z yss)) = true := by rw [hdec.o, hdec2]; rfl
      replace hdec2 := Hd.i hdec2
      replace e := Hd.i e
      go_enter Try.func64, Try.ntmps64
      go_wp2_with fail
      refine implGenSet_c z _ _ _ xss _ hx ?_
      intro w1 hb1
      rw [hdec.o]
      go_wp2_with fail
      refine implGenSet_c z _ _ _ yss _ (hy.up hb1) ?_
      intro w2 hb2
      rw [hdec2.o]
      go_wp2
      exact retB (H'.o _ (below_ups hb1 hb2 hb1.size)) e.o
    | false =>
      have e : (decide (GenSet z xss) && decide (GenSet z yss)) = false := by rw [hdec2, Bool.and_false]
      replace hdec2 := Hd.i hdec2
      replace e := Hd.i e
      go_enter Try.func64, Try.ntmps64
      go_wp2_with fail
      refine implGenSet_c z _ _ _ xss _ hx ?_
      intro w1 hb1
      rw [hdec.o]
      go_wp2_with fail
      refine implGenSet_c z _ _ _ yss _ (hy.up hb1) ?_
      intro w2 hb2
      rw [hdec2.o]
      go_wp2
      exact retB (H'.o _ (below_ups hb1 hb2 hb1.size)) e.o
  | false =>
    have e : (decide (GenSet z xss) && decide (GenSet z yss)) = false := by rw [hdec]; rfl
    replace hdec := Hd.i hdec
    replace e := Hd.i e
    go_enter Try.func64, Try.ntmps64
    go_wp2_with fail
    refine implGenSet_c z _ _ _ xss _ hx ?_
    intro w1 hb1
    rw [hdec.o]
    go_wp2
    exact retB (H'.o _ hb1) e.o

theorem genSet_n {z : Int} {xss : List (List Int)} {n : Nat} {w : World} {a : Option Addr} (h : GenSet z xss) (hm : Mat w a n xss) : n ≤ 1000000 := by have := h.2.2.1; have := hm.length; omega
theorem implIsSubgroup_c {K : Ending → World → Prop} (z : Int) (a : Option Addr) (n cap : Nat) (xss : List (List Int)) (b : Option Addr) (m capb : Nat) (yss : List (List Int)) (w : World) (hx : Mat w a n xss) (hy : Mat w b m yss) (H : Gives K w (.bool (pIsSubgroup z xss yss))) :
    Calls Try.prog 25 #[.int .i64 z, .slice a n cap, .slice b m capb] w K := by
  have H' := Hd.i H; clear H
  by_cases hg : GenSet z xss ∧ GenSet z yss
  · have hdec := Hd.i (show (decide (GenSet z xss) && decide (GenSet z yss)) = true by simp [hg.1, hg.2])
    obtain ⟨d, rfl⟩ := genSet_d hg.1
    have e := Hd.i (show pIsSubgroup (d : Int) xss yss = memAll d yss xss by simp [pIsSubgroup, hg.1, hg.2])
    have hn := genSet_n hg.1 hx
    replace hg := Hd.i hg
    go_enter Try.func25, Try.ntmps25
    go_wp2_with fail
    refine implAreGroups_c (d : Int) _ _ _ xss _ _ _ yss _ hx hy ?_
    intro w1 hb1
    rw [hdec.o]
    go_wp2_with fail
    refine implChain_c d _ _ _ yss _ (hy.up hb1) hg.o.2 ?_
    intro w2 cp hb2 hC
    go_wp2_with fail
    refine implHasAll_c d cp yss _ _ _ xss _ hC ((hx.up hb1).up hb2) (gs_of hg.o.1) hn ?_
    intro w3 hb3
    go_wp2
    exact retB (H'.o _ (below_ups (below_ups hb1 hb2 hb1.size) hb3 (Nat.le_trans hb1.size hb2.size))) e.o
  · have hdec := Hd.i (show (decide (GenSet z xss) && decide (GenSet z yss)) = false by simpa using hg)
    have e := Hd.i (show pIsSubgroup z xss yss = false by unfold pIsSubgroup; rw [if_neg hg])
    replace hg := Hd.i hg
    go_enter Try.func25, Try.ntmps25
    go_wp2_with fail
    refine implAreGroups_c z _ _ _ xss _ _ _ yss _ hx hy ?_
    intro w1 hb1
    rw [hdec.o]
    go_wp2
    exact retB (H'.o _ hb1) e.o
theorem specIsSubgroup_c {K : Ending → World → Prop} (z : Int) (a : Option Addr) (n cap : Nat) (xss : List (List Int)) (b : Option Addr) (m capb : Nat) (yss : List (List Int)) (w : World) (hx : Mat w a n xss) (hy : Mat w b m yss) (H : Gives K w (.bool (pIsSubgroup z xss yss))) :
    Calls Try.prog 24 #[.int .i64 z, .slice a n cap, .slice b m capb] w K := by
  have H' := Hd.i H; clear H
  by_cases hgx : GenSet z xss
  · have hdx := Hd.i (decide_eq_true hgx)
    by_cases hgy : GenSet z yss
    · have hdy := Hd.i (decide_eq_true hgy)
      obtain ⟨d, rfl⟩ := genSet_d hgx
      have e := Hd.i (show pIsSubgroup (d : Int) xss yss = memAll d yss xss by simp [pIsSubgroup, hgx, hgy])
      have hn := genSet_n hgx hx
      replace hgx := Hd.i hgx
      replace hgy := Hd.i hgy
      go_enter Try.func24, Try.ntmps24
      go_wp2_with fail
      refine specGenSet_c (d : Int) _ _ _ xss _ hx ?_
      intro w1 hd1
      rw [hdx.o]
      have hb1 := hd1.below w.heap.size
      go_wp2_with fail
      refine specGenSet_c (d : Int) _ _ _ yss _ (hy.up hb1) ?_
      intro w4 hd4
      rw [hdy.o]
      have hb4 := below_ups hb1 (hd4.below _) hb1.size
      go_wp2_with fail
      refine specBuild_c d _ _ _ yss _ (hy.up hb4) hgy ?_
      intro w2 cp hb2 hC
      go_wp2_with fail
      refine specHasAll_c d cp yss _ _ _ xss _ hC ((hx.up hb4).up hb2) (gs_of hgx.o) hn ?_
      intro w3 hb3
      go_wp2
      exact retB (H'.o _ (below_ups (below_ups hb4 hb2 hb4.size) hb3 (Nat.le_trans hb4.size hb2.size))) e.o
    · have hdy := Hd.i (decide_eq_false hgy)
      have e := Hd.i (show pIsSubgroup z xss yss = false by simp [pIsSubgroup, hgy])
      replace hgx := Hd.i hgx
      replace hgy := Hd.i hgy
      go_enter Try.func24, Try.ntmps24
      go_wp2_with fail
      refine specGenSet_c z _ _ _ xss _ hx ?_
      intro w1 hd1
      rw [hdx.o]
      have hb1 := hd1.below w.heap.size
      go_wp2_with fail
      refine specGenSet_c z _ _ _ yss _ (hy.up hb1) ?_
      intro w4 hd4
      rw [hdy.o]
      have hb4 := below_ups hb1 (hd4.below _) hb1.size
      go_wp2
      exact retB (H'.o _ hb4) e.o
  · have hdx := Hd.i (decide_eq_false hgx)
    have e := Hd.i (show pIsSubgroup z xss yss = false by simp [pIsSubgroup, hgx])
    replace hgx := Hd.i hgx
    go_enter Try.func24, Try.ntmps24
    go_wp2_with fail
    refine specGenSet_c z _ _ _ xss _ hx ?_
    intro w1 hd1
    rw [hdx.o]
    have hb1 := hd1.below w.heap.size
    go_wp2
    exact retB (H'.o _ hb1) e.o
theorem topImplIsSubgroup {R : Ending → World → Prop} {B B' : Nat} (z : Int) (a : Option Addr) (n cap : Nat) (hs : List Hdr) (xss : List (List Int)) (b : Option Addr) (m capb : Nat) (hs' : List Hdr) (yss : List (List Int)) (w : World) (_ : -9223372036854775808 ≤ z ∧ z ≤ 9223372036854775807) (hx : OwnH w B a n cap hs xss) (hy : OwnH w B' b m capb hs' yss)
    (H : Gives R w (.bool (pIsSubgroup z xss yss))) : Calls Try.prog 25 #[.int .i64 z, .slice a n cap, .slice b m capb] w R := implIsSubgroup_c z a n cap xss b m capb yss w hx.rows hy.rows H
theorem topSpecIsSubgroup {R : Ending → World → Prop} {B B' : Nat} (z : Int) (a : Option Addr) (n cap : Nat) (hs : List Hdr) (xss : List (List Int)) (b : Option Addr) (m capb : Nat) (hs' : List Hdr) (yss : List (List Int)) (w : World) (_ : -9223372036854775808 ≤ z ∧ z ≤ 9223372036854775807) (hx : OwnH w B a n cap hs xss) (hy : OwnH w B' b m capb hs' yss)
    (H : Gives R w (.bool (pIsSubgroup z xss yss))) : Calls Try.prog 24 #[.int .i64 z, .slice a n cap, .slice b m capb] w R := specIsSubgroup_c z a n cap xss b m capb yss w hx.rows hy.rows H
end Go.Proofs.Ytpijnjhheikmcaa
