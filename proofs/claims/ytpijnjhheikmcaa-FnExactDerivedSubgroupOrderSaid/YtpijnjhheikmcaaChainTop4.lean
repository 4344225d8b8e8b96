/- SameCoset of the reference; IsNormalSubgroup; SameGroup. -/
import Derived.Test.YtpijnjhheikmcaaChainTop3
namespace Go.Proofs.Ytpijnjhheikmcaa
open Go.RowKit

theorem specPermOf_c {K : Ending → World → Prop} (z : Int) (a : Option Addr) (n cap : Nat) (p : List Int) (w : World) (hp : Ints w a n p) (hc : n ≤ cap) (H : Gives K w (.bool (decide ((p.length : Int) = z ∧ IsPerm p)))) :
    Calls Try.prog 57 #[.int .i64 z, .slice a n cap] w K := by
  have H' := Hd.i H; clear H
  have hl := hp.length
  have hle := hp.le
  by_cases hz : (n : Int) = z
  · subst hz
    have hdec := Hd.i (show decide (IsPerm p) = decide ((p.length : Int) = (n : Int) ∧ IsPerm p) by simp [hl])
    replace hl := Hd.i hl
    go_enter Try.func57, Try.ntmps57
    go_wp2_with fail
    refine specIsPerm_c _ _ _ p _ hp hc ?_
    intro w1 hd1
    go_wp2
    exact retB (H'.o _ (hd1.below _)) hdec.o.symm
  · have hdec := Hd.i (show decide ((p.length : Int) = z ∧ IsPerm p) = false by rw [hl]; simp [hz])
    have hne : ((n : Int) == z) = false := by simpa using hz
    replace hl := Hd.i hl
    go_enter Try.func57, Try.ntmps57
    go_wp2
    exact retB (H'.o _ (Below.refl _ _)) hdec.o

theorem topSpecSameCoset {R : Ending → World → Prop} {B B' B'' : Nat} (z : Int) (a : Option Addr) (n cap : Nat) (hs : List Hdr) (xss : List (List Int)) (a' : Option Addr) (n' cap' : Nat) (p : List Int) (a'' : Option Addr) (n'' cap'' : Nat) (q : List Int) (w : World) (_ : -9223372036854775808 ≤ z ∧ z ≤ 9223372036854775807) (hx : OwnH w B a n cap hs xss) (hp : OwnI w B' a' n' cap' p) (hq : OwnI w B'' a'' n'' cap'' q)
    (H : Gives R w (.bool (pSameCoset z xss p q))) : Calls Try.prog 22 #[.int .i64 z, .slice a n cap, .slice a' n' cap', .slice a'' n'' cap''] w R := by
  have H' := Hd.i H; clear H
  have hm := hx.rows
  have hpi := hp.ints
  have hqi := hq.ints
  have hpl := hp.length
  have hql := hq.length
  have hpc := hp.cap
  have hqc := hq.cap
  by_cases hg : GenSet z xss
  · have hdec := Hd.i (decide_eq_true hg)
    by_cases h1 : (p.length : Int) = z ∧ IsPerm p
    · have hd1 := Hd.i (decide_eq_true h1)
      by_cases h2 : (q.length : Int) = z ∧ IsPerm q
      · have hd2 := Hd.i (decide_eq_true h2)
        have hpp : Pm n' p := ⟨h1.2, hpl⟩
        have hnz : z = (n' : Int) := by rw [← hpl]; exact h1.1.symm
        subst hnz
        have hqq : Pm n' q := ⟨h2.2, by omega⟩
        have e := Hd.i (show pSameCoset (n' : Int) xss p q = memB n' xss (comp q (inv p)) by
          unfold pSameCoset
          rw [if_pos ⟨hg, h1.1, by omega, h1.2, h2.2⟩]
          rfl)
        have hpm := Hd.i (hqq.comp hpp.inv)
        have hpperm := h1.2
        have hn20 : n'' ≤ 1000000 := by have := hpperm.2.1; omega
        have hrng : Hd (∀ x ∈ q, 0 ≤ x ∧ x < n') := fun x hx => by have := hqq.1.range x hx; rwa [hqq.2] at this
        replace hg := Hd.i hg
        replace h1 := Hd.i h1
        replace h2 := Hd.i h2
        replace hpl := Hd.i hpl
        replace hql := Hd.i hql
        replace hpp := Hd.i hpp
        replace hqq := Hd.i hqq
        go_enter Try.func22, Try.ntmps22
        go_wp2_with fail
        refine specGenSet_c (n' : Int) _ _ _ xss _ hm ?_
        intro w1 hdr1
        rw [hdec.o]
        have hb1 := hdr1.below w.heap.size
        go_wp2_with fail
        refine specPermOf_c (n' : Int) _ _ _ p _ (hpi.up hb1) hpc ?_
        intro w2 hb2
        rw [hd1.o]
        have hb12 := below_ups hb1 hb2 hb1.size
        go_wp2_with fail
        refine specPermOf_c (n' : Int) _ _ _ q _ (hqi.up hb12) hqc ?_
        intro w3 hb3
        rw [hd2.o]
        have hb13 := below_ups hb12 hb3 hb12.size
        go_wp2_with fail
        refine specBuild_c n' _ _ _ xss _ (hm.up hb13) hg ?_
        intro w4 cp hb4 hC
        have hb14 := below_ups hb13 hb4 hb13.size
        go_wp2_with fail
        refine specInverse_c _ _ _ p _ (hpi.up hb14) hpperm ?_
        intro b5 m5 c5 w5 hb5 ho5
        have hb15 := below_ups hb14 hb5 hb14.size
        have hm5 := Hd.i (show m5 = n' by rw [← ho5.length, inv_length]; exact hpl.o)
        go_wp2_with fail
        refine specCompose_c _ _ _ q _ _ _ (inv p) _ (hqi.up hb15) ho5.ints hn20 (by rw [hm5.o]; exact hrng) ?_
        intro b6 m6 c6 w6 hb6 ho6
        have hb16 := below_ups hb15 hb6 hb15.size
        go_wp2_with fail
        refine specHas0_c n' cp xss _ _ _ (comp q (inv p)) _ ((hC.up hb5).up hb6) ho6.ints hpm ?_
        intro w7 hb7
        go_wp2
        exact retB (H'.o _ (below_ups hb16 hb7 hb16.size)) e.o
      · have hd2 := Hd.i (decide_eq_false h2)
        have e := Hd.i (show pSameCoset z xss p q = false by
          unfold pSameCoset
          rw [if_neg]
          rintro ⟨_, h, hh⟩
          exact h2 ⟨by rw [← hh.1]; exact h, hh.2.2⟩)
        replace hg := Hd.i hg
        replace h1 := Hd.i h1
        replace h2 := Hd.i h2
        replace hpl := Hd.i hpl
        replace hql := Hd.i hql
        go_enter Try.func22, Try.ntmps22
        go_wp2_with fail
        refine specGenSet_c z _ _ _ xss _ hm ?_
        intro w1 hdr1
        rw [hdec.o]
        have hb1 := hdr1.below w.heap.size
        go_wp2_with fail
        refine specPermOf_c z _ _ _ p _ (hpi.up hb1) hpc ?_
        intro w2 hb2
        rw [hd1.o]
        have hb12 := below_ups hb1 hb2 hb1.size
        go_wp2_with fail
        refine specPermOf_c z _ _ _ q _ (hqi.up hb12) hqc ?_
        intro w3 hb3
        rw [hd2.o]
        have hb13 := below_ups hb12 hb3 hb12.size
        go_wp2
        exact retB (H'.o _ hb13) e.o
    · have hd1 := Hd.i (decide_eq_false h1)
      have e := Hd.i (show pSameCoset z xss p q = false by
        unfold pSameCoset
        rw [if_neg]
        rintro ⟨_, h, hh⟩
        exact h1 ⟨h, hh.2.1⟩)
      replace hg := Hd.i hg
      replace h1 := Hd.i h1
      replace hpl := Hd.i hpl
      replace hql := Hd.i hql
      go_enter Try.func22, Try.ntmps22
      go_wp2_with fail
      refine specGenSet_c z _ _ _ xss _ hm ?_
      intro w1 hdr1
      rw [hdec.o]
      have hb1 := hdr1.below w.heap.size
      go_wp2_with fail
      refine specPermOf_c z _ _ _ p _ (hpi.up hb1) hpc ?_
      intro w2 hb2
      rw [hd1.o]
      have hb12 := below_ups hb1 hb2 hb1.size
      go_wp2
      exact retB (H'.o _ hb12) e.o
  · have hdec := Hd.i (decide_eq_false hg)
    have e := Hd.i (show pSameCoset z xss p q = false by simp [pSameCoset, hg])
    replace hg := Hd.i hg
    go_enter Try.func22, Try.ntmps22
    go_wp2_with fail
    refine specGenSet_c z _ _ _ xss _ hm ?_
    intro w1 hdr1
    rw [hdec.o]
    have hb1 := hdr1.below w.heap.size
    go_wp2
    exact retB (H'.o _ hb1) e.o

/-- Two groups are one when the one lies in the other and the orders are the same. -/
theorem prod_eq {f g : Nat → Nat} : ∀ i, (∀ j, j < i → 1 ≤ f j ∧ f j ≤ g j) → ordF f 0 i = ordF g 0 i → ∀ j, j < i → f j = g j
  | 0, _, _ => fun j hj => by omega
  | i + 1, h, e => by
    rw [ordF_succ _ (Nat.zero_le _), ordF_succ _ (Nat.zero_le _)] at e
    have hi := h i (by omega)
    have hle : ∀ k, k ≤ i → ordF f 0 k ≤ ordF g 0 k := by
      intro k
      induction k with
      | zero => intro _; exact Nat.le_refl _
      | succ k ih =>
        intro hk
        rw [ordF_succ _ (Nat.zero_le _), ordF_succ _ (Nat.zero_le _)]
        exact Nat.mul_le_mul (ih (by omega)) (h k (by omega)).2
    have h1 := hle i (Nat.le_refl _)
    have hp := ordF_pos (f := f) 0 i fun j hj => (h j (by omega)).1
    have e1 : ordF f 0 i = ordF g 0 i := by
      apply Nat.le_antisymm h1
      apply Nat.le_of_not_lt
      intro hlt
      have a := Nat.mul_le_mul (Nat.le_refl (ordF f 0 i)) hi.2
      have b : ordF f 0 i * g i < ordF g 0 i * g i := Nat.mul_lt_mul_of_pos_right hlt (by omega)
      omega
    have e2 : f i = g i := by
      apply Nat.le_antisymm hi.2
      apply Nat.le_of_not_lt
      intro hlt
      have a : ordF f 0 i * f i < ordF f 0 i * g i := Nat.mul_lt_mul_of_pos_left hlt hp
      rw [← e1] at e
      omega
    intro j hj
    by_cases hji : j = i
    · subst hji; exact e2
    · exact prod_eq i (fun j hj => h j (by omega)) e1 j (by omega)
theorem filter_same {α : Type} {p q : α → Bool} (h : ∀ x, p x = true → q x = true) : ∀ l : List α, (l.filter p).length = (l.filter q).length → ∀ x ∈ l, q x = true → p x = true := by
  intro l e x hx hq
  cases hp : p x with
  | true => rfl
  | false => have := filter_lt h l x hx hp hq; omega
open Classical in
theorem same_of_order {d : Nat} (h1 : 1 ≤ d) (h2 : d ≤ 20) {xss yss : List (List Int)} (hx : Gs d xss) (hy : Gs d yss) (hs : ∀ p ∈ yss, Grp d xss p) (ho : ordF (osz d xss) 0 d = ordF (osz d yss) 0 d) : ∀ p, Grp d xss p → Grp d yss p := by
  have hsub : ∀ p, Grp d yss p → Grp d xss p := fun p hp => hp.mono h1 h2 hx hs
  have hhit : ∀ i y, Hit d yss i y → Hit d xss i y := fun i y ⟨p, a, b⟩ => ⟨p, hsub p a, b⟩
  have hf : ∀ i, ∀ y, decide (Hit d yss i y) = true → decide (Hit d xss i y) = true := fun i y h => decide_eq_true (hhit i y (of_decide_eq_true h))
  have hle : ∀ i, osz d yss i ≤ osz d xss i := fun i => filter_le (hf i) _
  have heq := prod_eq d (fun j hj => ⟨osz_pos hj, hle j⟩) ho.symm
  have hback : ∀ i y, i < d → y < d → Hit d xss i y → Hit d yss i y := fun i y hi hy hh =>
    of_decide_eq_true (filter_same (hf i) _ (heq i hi) y (List.mem_range.2 hy) (decide_eq_true hh))
  have key : ∀ f i, d - i = f → i ≤ d → ∀ p, Grp d xss p → Fx i p → Grp d yss p := by
    intro f
    induction f with
    | zero =>
      intro i hf hi p hp hfx
      obtain rfl : i = d := by omega
      rw [Fx.full h1 (hp.pm h1 h2 hx) hfx]
      exact .one
    | succ f ih =>
      intro i hf hi p hp hfx
      have hpm := hp.pm h1 h2 hx
      have hr := hpm.rng (x := (i : Int)) (by omega) (by omega)
      obtain ⟨q, hq, hqf, hqi⟩ := hback i (at0 p i).toNat (by omega) (by omega) ⟨p, hp, hfx, by omega⟩
      have hqm := hq.pm h1 h2 hy
      have hqe : at0 q i = at0 p i := by rw [hqi]; omega
      have hg := ih (i + 1) (by omega) (by omega) (comp p (inv q)) (hp.comp h1 h2 hx (grp_inv h1 h2 hx (hsub q hq))) (fun x hx' => by
        by_cases hxi : x < i
        · exact hfx.comp (by omega) hpm (hqf.inv (by omega) hqm) x hxi
        · obtain rfl : x = i := by omega
          rw [hpm.at_comp (by omega) (by omega), ← hqe, hqm.inv_at (by omega) (by omega)])
      have := hg.comp h1 h2 hy hq
      rwa [hpm.div_mul hqm] at this
  intro p hp
  exact key d 0 (by omega) (by omega) p hp (fx_zero p)
end Go.Proofs.Ytpijnjhheikmcaa
