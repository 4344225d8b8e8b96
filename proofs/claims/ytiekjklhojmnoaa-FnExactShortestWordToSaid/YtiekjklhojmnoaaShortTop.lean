/- What the law of ShortestWordTo calls. -/
import Derived.Test.YtiekjklhojmnoaaShort
namespace Go.Proofs.Ytiekjklhojmnoaa
open Go.RowKit

theorem short_no {z : Int} {xss : List (List Int)} {x y : Int} (h : ¬ ShortOk z xss x y) : pShort z xss x y = [] ∧ pShortOk z xss x y = false := by simp [pShort, pShortOk, h]
theorem short_yes {d : Nat} {xss : List (List Int)} {x y : Int} (h : ShortOk (d : Int) xss x y) : pShort d xss x y = (wordAt (bfs d xss x) y).getD [] ∧ pShortOk d xss x y = (wordAt (bfs d xss x) y).isSome := by simp [pShort, pShortOk, h]

theorem topSpecShortestWordTo {R : Ending → World → Prop} {B : Nat} (z : Int) (a : Option Addr) (n cap : Nat) (hs : List Hdr) (xss : List (List Int)) (x y : Int) (w : World) (_ : -9223372036854775808 ≤ z ∧ z ≤ 9223372036854775807) (hx : OwnH w B a n cap hs xss) (_ : -9223372036854775808 ≤ x ∧ x ≤ 9223372036854775807) (_ : -9223372036854775808 ≤ y ∧ y ≤ 9223372036854775807)
    (H : MakesIB R w (pShort z xss x y) (pShortOk z xss x y)) : Calls Try.prog 25 #[.int .i64 z, .slice a n cap, .int .i64 x, .int .i64 y] w R := by
  have H' := Hd.i H; clear H
  have hm := hx.rows
  by_cases hg : GenSet z xss
  · have hdec := Hd.i (decide_eq_true hg)
    obtain ⟨d, rfl⟩ : ∃ d : Nat, z = d := ⟨z.toNat, by have := hg.1; omega⟩
    have hd1 : 1 ≤ d := by have := hg.1; omega
    have hd20 : d ≤ 20 := by have := hg.2.1; omega
    by_cases hp : 0 ≤ x ∧ x < d
    · have hpd := Hd.i (decide_eq_true hp)
      by_cases hq : 0 ≤ y ∧ y < d
      · have hqd := Hd.i (decide_eq_true hq)
        have e := Hd.i (short_yes (show ShortOk (d : Int) xss x y from ⟨hg, hp, hq⟩))
        have h := H'.o
        rw [e.o.1, e.o.2] at h
        exact specShort_c d a n cap xss x y w hm hg hp hq h
      · have hqd := Hd.i (decide_eq_false hq)
        have e := Hd.i (short_no (show ¬ ShortOk (d : Int) xss x y from fun h => hq h.2.2))
        replace hg := Hd.i hg
        replace hp := Hd.i hp
        replace hq := Hd.i hq
        go_enter Try.func25, Try.ntmps25
        go_wp2_with fail
        refine specGenSet_c (d : Int) _ _ _ xss _ hm ?_
        intro w1 hd
        rw [hdec.o]
        have hb1 := hd.below w.heap.size
        go_wp2_with fail
        refine specPoint_c d x _ hd1 hd20 ?_
        rw [hpd.o]
        go_wp2_with fail
        refine specPoint_c d y _ hd1 hd20 ?_
        rw [hqd.o]
        go_wp2_with fail
        have h := H'.o
        rw [e.o.1, e.o.2] at h
        exact h _ _ _ _ (hb1.alloc hb1.size _) (OwnI.emptyLit _ hb1.size)
    · have hpd := Hd.i (decide_eq_false hp)
      have e := Hd.i (short_no (show ¬ ShortOk (d : Int) xss x y from fun h => hp h.2.1))
      replace hg := Hd.i hg
      replace hp := Hd.i hp
      go_enter Try.func25, Try.ntmps25
      go_wp2_with fail
      refine specGenSet_c (d : Int) _ _ _ xss _ hm ?_
      intro w1 hd
      rw [hdec.o]
      have hb1 := hd.below w.heap.size
      go_wp2_with fail
      refine specPoint_c d x _ hd1 hd20 ?_
      rw [hpd.o]
      go_wp2_with fail
      have h := H'.o
      rw [e.o.1, e.o.2] at h
      exact h _ _ _ _ (hb1.alloc hb1.size _) (OwnI.emptyLit _ hb1.size)
  · have hdec := Hd.i (decide_eq_false hg)
    have e := Hd.i (short_no (show ¬ ShortOk z xss x y from fun h => hg h.1))
    replace hg := Hd.i hg
    go_enter Try.func25, Try.ntmps25
    go_wp2_with fail
    refine specGenSet_c z _ _ _ xss _ hm ?_
    intro w1 hd
    rw [hdec.o]
    have hb1 := hd.below w.heap.size
    go_wp2_with fail
    have h := H'.o
    rw [e.o.1, e.o.2] at h
    exact h _ _ _ _ (hb1.alloc hb1.size _) (OwnI.emptyLit _ hb1.size)

set_option maxHeartbeats 1000000 in
theorem topImplShortestWordTo {R : Ending → World → Prop} {B : Nat} (z : Int) (a : Option Addr) (n cap : Nat) (hs : List Hdr) (xss : List (List Int)) (x y : Int) (w : World) (_ : -9223372036854775808 ≤ z ∧ z ≤ 9223372036854775807) (hx : OwnH w B a n cap hs xss) (_ : -9223372036854775808 ≤ x ∧ x ≤ 9223372036854775807) (_ : -9223372036854775808 ≤ y ∧ y ≤ 9223372036854775807)
    (H : MakesIB R w (pShort z xss x y) (pShortOk z xss x y)) : Calls Try.prog 26 #[.int .i64 z, .slice a n cap, .int .i64 x, .int .i64 y] w R := by
  have H' := Hd.i H; clear H
  have hm := hx.rows
  by_cases hg : GenSet z xss
  · have hdec := Hd.i (decide_eq_true hg)
    obtain ⟨d, rfl⟩ : ∃ d : Nat, z = d := ⟨z.toNat, by have := hg.1; omega⟩
    have hd1 : 1 ≤ d := by have := hg.1; omega
    have hd20 : d ≤ 20 := by have := hg.2.1; omega
    by_cases hp : 0 ≤ x ∧ x < d
    · have hpd := Hd.i (decide_eq_true hp)
      by_cases hq : 0 ≤ y ∧ y < d
      · have hqd := Hd.i (decide_eq_true hq)
        have e := Hd.i (short_yes (show ShortOk (d : Int) xss x y from ⟨hg, hp, hq⟩))
        obtain ⟨x, rfl⟩ : ∃ k : Nat, x = k := ⟨x.toNat, by omega⟩
        obtain ⟨y, rfl⟩ : ∃ k : Nat, y = k := ⟨y.toNat, by omega⟩
        have hxd : x < d := by omega
        have hyd : y < d := by omega
        have hgs := Hd.i (genSet_gens hg)
        have hxr := Hd.i (show 0 ≤ (x : Int) ∧ (x : Int) < d by omega)
        have hne := neNil
        replace hg := Hd.i hg
        replace hp := Hd.i hp
        replace hq := Hd.i hq
        go_enter Try.func26, Try.ntmps26
        go_wp2_with fail
        refine implGenSet_c (d : Int) _ _ _ xss _ hm ?_
        intro w1 hb1
        rw [hdec.o]
        go_wp2_with fail
        refine implPoint_c d (x : Int) _ hd1 hd20 ?_
        rw [hpd.o]
        go_wp2_with fail
        refine implPoint_c d (y : Int) _ hd1 hd20 ?_
        rw [hqd.o]
        go_wp2_with fail
        refine wordsFrom_c d _ _ _ xss x _ (hm.up hb1) hg hxd ?_
        intro w2 hb2 hW
        have hbw := below_ups hb1 hb2 hb1.size
        obtain ⟨wa, wn, wc, hcw, hfw, hwno, hwso⟩ := hW.at hyd
        cases hv : wordAt (bfs d xss x) (y : Int) with
        | none =>
          have hnil := hwno.o hv
          simp only [Prod.mk.injEq] at hnil
          obtain ⟨rfl, rfl, rfl⟩ := hnil
          replace hv := Hd.i hv
          clear hwno hwso hW
          go_wp2
          have h := H'.o
          rw [e.o.1, e.o.2, hv.o] at h
          exact h _ _ _ _ hbw (OwnI.nil _ _)
        | some ws =>
          obtain ⟨hne', hown⟩ := hwso.o ws hv
          obtain ⟨ad, rfl⟩ : ∃ ad, wa = some ad := Option.ne_none_iff_exists'.1 hne'
          have hrow : OwnI w2 w.heap.size (some ad) wn wc ws := hown.1.mono hb1.size
          replace hv := Hd.i hv
          clear hwno hwso hW hne' hown
          go_wp2
          have h := H'.o
          rw [e.o.1, e.o.2, hv.o] at h
          exact h _ _ _ _ hbw hrow
      · have hqd := Hd.i (decide_eq_false hq)
        have e := Hd.i (short_no (show ¬ ShortOk (d : Int) xss x y from fun h => hq h.2.2))
        replace hg := Hd.i hg
        replace hp := Hd.i hp
        replace hq := Hd.i hq
        go_enter Try.func26, Try.ntmps26
        go_wp2_with fail
        refine implGenSet_c (d : Int) _ _ _ xss _ hm ?_
        intro w1 hb1
        rw [hdec.o]
        go_wp2_with fail
        refine implPoint_c d x _ hd1 hd20 ?_
        rw [hpd.o]
        go_wp2_with fail
        refine implPoint_c d y _ hd1 hd20 ?_
        rw [hqd.o]
        go_wp2_with fail
        have h := H'.o
        rw [e.o.1, e.o.2] at h
        exact h _ _ _ _ hb1 (OwnI.nil _ _)
    · have hpd := Hd.i (decide_eq_false hp)
      have e := Hd.i (short_no (show ¬ ShortOk (d : Int) xss x y from fun h => hp h.2.1))
      replace hg := Hd.i hg
      replace hp := Hd.i hp
      go_enter Try.func26, Try.ntmps26
      go_wp2_with fail
      refine implGenSet_c (d : Int) _ _ _ xss _ hm ?_
      intro w1 hb1
      rw [hdec.o]
      go_wp2_with fail
      refine implPoint_c d x _ hd1 hd20 ?_
      rw [hpd.o]
      go_wp2_with fail
      have h := H'.o
      rw [e.o.1, e.o.2] at h
      exact h _ _ _ _ hb1 (OwnI.nil _ _)
  · have hdec := Hd.i (decide_eq_false hg)
    have e := Hd.i (short_no (show ¬ ShortOk z xss x y from fun h => hg h.1))
    replace hg := Hd.i hg
    go_enter Try.func26, Try.ntmps26
    go_wp2_with fail
    refine implGenSet_c z _ _ _ xss _ hm ?_
    intro w1 hb1
    rw [hdec.o]
    go_wp2_with fail
    have h := H'.o
    rw [e.o.1, e.o.2] at h
    exact h _ _ _ _ hb1 (OwnI.nil _ _)
end Go.Proofs.Ytiekjklhojmnoaa
