/- SubgroupIndex, SameCoset. -/
import Derived.Test.YtpijnjhheikmcaaChainTop2
import Derived.Test.YtpijnjhheikmcaaConj
namespace Go.Proofs.Ytpijnjhheikmcaa
open Go.RowKit

theorem ordF_pos {f : Nat → Nat} (k : Nat) : ∀ i, (∀ j, j < i → 1 ≤ f j) → 1 ≤ ordF f k i
  | 0, _ => Nat.le_refl _
  | i + 1, h => by
    unfold ordF
    split
    · exact Nat.mul_pos (ordF_pos k i fun j hj => h j (by omega)) (h i (by omega))
    · exact Nat.le_refl _
open Classical in
theorem osz_pos {d : Nat} {xss : List (List Int)} {i : Nat} (hi : i < d) : 1 ≤ osz d xss i := by
  unfold osz
  refine List.length_pos_of_mem (a := i) (List.mem_filter.2 ⟨List.mem_range.2 hi, ?_⟩)
  exact decide_eq_true ⟨idl d, .one, .idl _ _ (by omega), idl_at0 (by omega) (by omega)⟩
theorem pGroupOrder_nat (z : Int) (xss : List (List Int)) : ∃ x : Nat, pGroupOrder z xss = (x : Int) ∧ x ≤ 2432902008176640000 ∧ (GenSet z xss → 1 ≤ x) := by
  by_cases h : GenSet z xss
  · obtain ⟨d, rfl⟩ := genSet_d h
    have h1 := h.1
    have h2 := h.2.1
    exact ⟨ordF (osz d xss) 0 d, by simp [pGroupOrder, h], ordF_le (by omega) (osz_le (by omega) (by omega) (gs_of h)) _ _ (Nat.le_refl _), fun _ => ordF_pos _ _ fun j hj => osz_pos hj⟩
  · exact ⟨0, by simp [pGroupOrder, h], by omega, fun h' => absurd h' h⟩
noncomputable def pSubgroupIndex (z : Int) (xss yss : List (List Int)) : Int := if pIsSubgroup z xss yss = true then pGroupOrder z yss / pGroupOrder z xss else 0
theorem pIsSubgroup_gen {z : Int} {xss yss : List (List Int)} (h : pIsSubgroup z xss yss = true) : GenSet z xss ∧ GenSet z yss := by
  unfold pIsSubgroup at h
  split at h
  · assumption
  · cases h

theorem topImplSubgroupIndex {R : Ending → World → Prop} {B B' : Nat} (z : Int) (a : Option Addr) (n cap : Nat) (hs : List Hdr) (xss : List (List Int)) (b : Option Addr) (m capb : Nat) (hs' : List Hdr) (yss : List (List Int)) (w : World) (_ : -9223372036854775808 ≤ z ∧ z ≤ 9223372036854775807) (hx : OwnH w B a n cap hs xss) (hy : OwnH w B' b m capb hs' yss)
    (H : Gives R w (.int .i64 (pSubgroupIndex z xss yss))) : Calls Try.prog 40 #[.int .i64 z, .slice a n cap, .slice b m capb] w R := by
  have H' := Hd.i H; clear H
  have hmx := hx.rows
  have hmy := hy.rows
  cases hs : pIsSubgroup z xss yss with
  | true =>
    obtain ⟨x, hx1, hx2, hx3⟩ := pGroupOrder_nat z xss
    obtain ⟨y, hy1, hy2, hy3⟩ := pGroupOrder_nat z yss
    have hx4 := hx3 (pIsSubgroup_gen hs).1
    have e := Hd.i (show pSubgroupIndex z xss yss = (y : Int) / (x : Int) by simp [pSubgroupIndex, hs, hx1, hy1])
    have hle : 0 ≤ (y : Int) / (x : Int) := Int.ediv_nonneg (by omega) (by omega)
    have hdv : (y : Int) / (x : Int) ≤ y := Int.ediv_le_self _ (by omega)
    have hq := Hd.i (IntWalk.wrap64_in ((y : Int) / (x : Int)) (by omega))
    replace hs := Hd.i hs
    replace hx1 := Hd.i hx1
    replace hy1 := Hd.i hy1
    clear hx3 hy3 hle hdv
    go_enter Try.func40, Try.ntmps40
    go_wp2_with fail
    refine implIsSubgroup_c z _ _ _ xss _ _ _ yss _ hmx hmy ?_
    intro w1 hb1
    rw [hs.o]
    go_wp2_with fail
    refine implGroupOrder_c z _ _ _ yss _ (hmy.up hb1) ?_
    intro w2 hb2
    rw [hy1.o]
    have hb12 := below_ups hb1 hb2 hb1.size
    go_wp2_with fail
    refine implGroupOrder_c z _ _ _ xss _ (hmx.up hb12) ?_
    intro w3 hb3
    rw [hx1.o]
    go_wp2
    first | rw [hq.o] | skip
    exact retI (H'.o _ (below_ups hb12 hb3 hb12.size)) e.o
  | false =>
    have e := Hd.i (show pSubgroupIndex z xss yss = 0 by simp [pSubgroupIndex, hs])
    replace hs := Hd.i hs
    go_enter Try.func40, Try.ntmps40
    go_wp2_with fail
    refine implIsSubgroup_c z _ _ _ xss _ _ _ yss _ hmx hmy ?_
    intro w1 hb1
    rw [hs.o]
    go_wp2
    exact retI (H'.o _ hb1) e.o
theorem topSpecSubgroupIndex {R : Ending → World → Prop} {B B' : Nat} (z : Int) (a : Option Addr) (n cap : Nat) (hs : List Hdr) (xss : List (List Int)) (b : Option Addr) (m capb : Nat) (hs' : List Hdr) (yss : List (List Int)) (w : World) (_ : -9223372036854775808 ≤ z ∧ z ≤ 9223372036854775807) (hx : OwnH w B a n cap hs xss) (hy : OwnH w B' b m capb hs' yss)
    (H : Gives R w (.int .i64 (pSubgroupIndex z xss yss))) : Calls Try.prog 39 #[.int .i64 z, .slice a n cap, .slice b m capb] w R := by
  have H' := Hd.i H; clear H
  have hmx := hx.rows
  have hmy := hy.rows
  cases hs : pIsSubgroup z xss yss with
  | true =>
    obtain ⟨x, hx1, hx2, hx3⟩ := pGroupOrder_nat z xss
    obtain ⟨y, hy1, hy2, hy3⟩ := pGroupOrder_nat z yss
    have hx4 := hx3 (pIsSubgroup_gen hs).1
    have e := Hd.i (show pSubgroupIndex z xss yss = (y : Int) / (x : Int) by simp [pSubgroupIndex, hs, hx1, hy1])
    have hle : 0 ≤ (y : Int) / (x : Int) := Int.ediv_nonneg (by omega) (by omega)
    have hdv : (y : Int) / (x : Int) ≤ y := Int.ediv_le_self _ (by omega)
    have hq := Hd.i (IntWalk.wrap64_in ((y : Int) / (x : Int)) (by omega))
    replace hs := Hd.i hs
    replace hx1 := Hd.i hx1
    replace hy1 := Hd.i hy1
    clear hx3 hy3 hle hdv
    go_enter Try.func39, Try.ntmps39
    go_wp2_with fail
    refine specIsSubgroup_c z _ _ _ xss _ _ _ yss _ hmx hmy ?_
    intro w1 hb1
    rw [hs.o]
    go_wp2_with fail
    refine specGroupOrder_c z _ _ _ yss _ (hmy.up hb1) ?_
    intro w2 hb2
    rw [hy1.o]
    have hb12 := below_ups hb1 hb2 hb1.size
    go_wp2_with fail
    refine specGroupOrder_c z _ _ _ xss _ (hmx.up hb12) ?_
    intro w3 hb3
    rw [hx1.o]
    go_wp2
    first | rw [hq.o] | skip
    exact retI (H'.o _ (below_ups hb12 hb3 hb12.size)) e.o
  | false =>
    have e := Hd.i (show pSubgroupIndex z xss yss = 0 by simp [pSubgroupIndex, hs])
    replace hs := Hd.i hs
    go_enter Try.func39, Try.ntmps39
    go_wp2_with fail
    refine specIsSubgroup_c z _ _ _ xss _ _ _ yss _ hmx hmy ?_
    intro w1 hb1
    rw [hs.o]
    go_wp2
    exact retI (H'.o _ hb1) e.o

open Classical in
noncomputable def pSameCoset (z : Int) (xss : List (List Int)) (p q : List Int) : Bool := if GenSet z xss ∧ (p.length : Int) = z ∧ PermPair p q then memB z.toNat xss (comp q (inv p)) else false
theorem topImplSameCoset {R : Ending → World → Prop} {B B' B'' : Nat} (z : Int) (a : Option Addr) (n cap : Nat) (hs : List Hdr) (xss : List (List Int)) (a' : Option Addr) (n' cap' : Nat) (p : List Int) (a'' : Option Addr) (n'' cap'' : Nat) (q : List Int) (w : World) (_ : -9223372036854775808 ≤ z ∧ z ≤ 9223372036854775807) (hx : OwnH w B a n cap hs xss) (hp : OwnI w B' a' n' cap' p) (hq : OwnI w B'' a'' n'' cap'' q)
    (H : Gives R w (.bool (pSameCoset z xss p q))) : Calls Try.prog 23 #[.int .i64 z, .slice a n cap, .slice a' n' cap', .slice a'' n'' cap''] w R := by
  have H' := Hd.i H; clear H
  have hm := hx.rows
  have hpi := hp.ints
  have hqi := hq.ints
  have hpl := hp.length
  have hql := hq.length
  have hle := hpi.le
  by_cases hg : GenSet z xss
  · have hdec := Hd.i (decide_eq_true hg)
    obtain ⟨d, rfl⟩ := genSet_d hg
    by_cases hl : n' = d
    · subst hl
      by_cases hperm : PermPair p q
      · have hdp := Hd.i (decide_eq_true hperm)
        have e := Hd.i (show pSameCoset (n' : Int) xss p q = memB n' xss (comp q (inv p)) by simp [pSameCoset, hg, hpl, hperm])
        have hpp : Pm n' p := ⟨hperm.2.1, hpl⟩
        have hqq : Pm n' q := ⟨hperm.2.2, by rw [← hperm.1]; exact hpl⟩
        have hn'' : n'' = n' := by rw [← hql]; exact hqq.2
        have hpm := Hd.i (hqq.comp hpp.inv)
        have hpperm := hperm.2.1
        have hn20 : n'' ≤ 1000000 := by have := hpperm.2.1; omega
        have hrng : Hd (∀ x ∈ q, 0 ≤ x ∧ x < n') := fun x hx => by have := hqq.1.range x hx; rwa [hqq.2] at this
        replace hg := Hd.i hg
        replace hperm := Hd.i hperm
        replace hpl := Hd.i hpl
        replace hql := Hd.i hql
        replace hn'' := Hd.i hn''
        replace hpp := Hd.i hpp
        replace hqq := Hd.i hqq
        go_enter Try.func23, Try.ntmps23
        go_wp2_with fail
        refine implGenSet_c (n' : Int) _ _ _ xss _ hm ?_
        intro w1 hb1
        rw [hdec.o]
        have hp1 := hpi.up hb1
        have hq1 := hqi.up hb1
        go_wp2_with (first | (go_at_call 53; refine length_c _ _ _ _ ?_) | (go_at_call 60; refine implArePerms_c _ _ _ p _ _ _ q _ hp1 hq1 ?_; rw [hdp.o]) | (go_at_call 55; refine implChain_c n' _ _ _ xss _ (hm.up hb1) hg ?_; intro w2 cp hb2 hC; have hp2 := hp1.up hb2; have hq2 := hq1.up hb2))
        refine implInverse_c _ _ _ p _ hp2 hpperm ?_
        intro b3 m3 c3 w3 hb3 ho3
        have hm3 := Hd.i (show m3 = n' by rw [← ho3.length, inv_length]; exact hpl.o)
        go_wp2_with fail
        refine implCompose_c _ _ _ q _ _ _ (inv p) _ (hq2.up hb3) ho3.ints hn20 (by rw [hm3.o]; exact hrng) ?_
        intro b4 m4 c4 w4 hb4 ho4
        go_wp2_with fail
        refine implHas0_c n' cp xss _ _ _ (comp q (inv p)) _ ((hC.up hb3).up hb4) ho4.ints hpm ?_
        intro w5 hb5
        go_wp2
        have hbA := below_ups hb1 hb2 hb1.size
        have hbB := below_ups hbA hb3 hbA.size
        have hbC := below_ups hbB hb4 hbB.size
        exact retB (H'.o _ (below_ups hbC hb5 hbC.size)) e.o
      · have hdp := Hd.i (decide_eq_false hperm)
        have e := Hd.i (show pSameCoset (n' : Int) xss p q = false by simp [pSameCoset, hperm])
        replace hg := Hd.i hg
        replace hperm := Hd.i hperm
        replace hpl := Hd.i hpl
        replace hql := Hd.i hql
        go_enter Try.func23, Try.ntmps23
        go_wp2_with fail
        refine implGenSet_c (n' : Int) _ _ _ xss _ hm ?_
        intro w1 hb1
        rw [hdec.o]
        have hp1 := hpi.up hb1
        have hq1 := hqi.up hb1
        go_wp2_with (first | (go_at_call 53; refine length_c _ _ _ _ ?_) | (go_at_call 60; refine implArePerms_c _ _ _ p _ _ _ q _ hp1 hq1 ?_; rw [hdp.o]))
        exact retB (H'.o _ hb1) e.o
    · have e := Hd.i (show pSameCoset (d : Int) xss p q = false by
        unfold pSameCoset
        rw [if_neg]
        rintro ⟨_, h, _⟩
        omega)
      replace hg := Hd.i hg
      have hne : ((n' : Int) == (d : Int)) = false := by simp; omega
      go_enter Try.func23, Try.ntmps23
      go_wp2_with fail
      refine implGenSet_c (d : Int) _ _ _ xss _ hm ?_
      intro w1 hb1
      rw [hdec.o]
      go_wp2_with (first | (go_at_call 53; refine length_c _ _ _ _ ?_))
      exact retB (H'.o _ hb1) e.o
  · have hdec := Hd.i (decide_eq_false hg)
    have e := Hd.i (show pSameCoset z xss p q = false by simp [pSameCoset, hg])
    replace hg := Hd.i hg
    go_enter Try.func23, Try.ntmps23
    go_wp2_with fail
    refine implGenSet_c z _ _ _ xss _ hm ?_
    intro w1 hb1
    rw [hdec.o]
    go_wp2
    exact retB (H'.o _ hb1) e.o
end Go.Proofs.Ytpijnjhheikmcaa
