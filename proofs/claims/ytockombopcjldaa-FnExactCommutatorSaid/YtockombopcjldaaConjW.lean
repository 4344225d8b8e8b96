/- ConjugateWord, Commutator. -/
import Derived.Test.YtockombopcjldaaJoin
import Derived.Test.YtockombopcjldaaBack
import Derived.Deep.RegionWith
namespace Go.Proofs.Ytockombopcjldaa
open Go.RowKit

def iw (p : List Int) : List Int := (p.map negw).reverse
def pConjW (p q : List Int) : List Int := pJoin [p, q, iw p]
def pCommW (p q : List Int) : List Int := pJoin [p, q, iw p, iw q]
theorem iw_eq {p : List Int} (h : IsWord p) : iw p = (p.map (- ·)).reverse := by rw [iw, negw_word h]
theorem noJoin {p q : List Int} {l : List (List Int)} (h : ¬ (IsWord p ∧ IsWord q)) : ¬ JoinOk (p :: q :: l) := fun k => h ⟨k.1 p (by simp), k.1 q (by simp)⟩

set_option maxHeartbeats 400000 in
theorem topImplConjugateWord {R : Ending → World → Prop} {B B' : Nat} (a : Option Addr) (n cap : Nat) (p : List Int) (a' : Option Addr) (n' cap' : Nat) (q : List Int) (w : World) (h : OwnI w B a n cap p) (h' : OwnI w B' a' n' cap' q) (hn : p.length ≤ 2000000) (_ : q.length ≤ 2000000)
    (H : MakesIB R w (pConjW p q) (decide (JoinOk [p, q, iw p]))) : Calls Try.prog 35 #[.slice a n cap, .slice a' n' cap'] w R := by
  have H' := Hd.i H; clear H
  rw [h.length] at hn
  go_enter Try.func35, Try.ntmps35
  go_wp2_with fail
  refine implInverseWord_c _ _ _ p _ h.ints hn ?_
  intro b1 m1 d1 w1 hb1 ho1
  replace h := h.up hb1
  replace h' := h'.up hb1
  have hm := Mat.lit3 h.ints h'.ints ho1.ints h.cap h'.cap ho1.cap
  have hb0 := fun o => hb1.alloc hb1.size o
  go_wp2_with fail
  refine joinWords_c _ _ _ [p, q, iw p] _ hm (by omega) ?_
  intro b2 m2 d2 w2 hb2 ho2
  go_wp2_with fail
  exact H'.o _ _ _ _ (below_ups (hb0 _) hb2 (hb0 _).size) (ho2.mono (hb0 _).size)

set_option maxHeartbeats 400000 in
theorem topImplCommutator {R : Ending → World → Prop} {B B' : Nat} (a : Option Addr) (n cap : Nat) (p : List Int) (a' : Option Addr) (n' cap' : Nat) (q : List Int) (w : World) (h : OwnI w B a n cap p) (h' : OwnI w B' a' n' cap' q) (hn : p.length ≤ 2000000) (hn' : q.length ≤ 2000000)
    (H : MakesIB R w (pCommW p q) (decide (JoinOk [p, q, iw p, iw q]))) : Calls Try.prog 37 #[.slice a n cap, .slice a' n' cap'] w R := by
  have H' := Hd.i H; clear H
  rw [h.length] at hn
  rw [h'.length] at hn'
  go_enter Try.func37, Try.ntmps37
  go_wp2_with fail
  refine implInverseWord_c _ _ _ p _ h.ints hn ?_
  intro b1 m1 d1 w1 hb1 ho1
  replace h := h.up hb1
  replace h' := h'.up hb1
  go_wp2_with fail
  refine implInverseWord_c _ _ _ q _ h'.ints hn' ?_
  intro b2 m2 d2 w2 hb2 ho2
  replace h := h.up hb2
  replace h' := h'.up hb2
  replace ho1 := ho1.up hb2
  have hb12 := below_ups hb1 hb2 hb1.size
  have hm := Mat.lit4 h.ints h'.ints ho1.ints ho2.ints h.cap h'.cap ho1.cap ho2.cap
  have hb0 := fun o => hb12.alloc hb12.size o
  go_wp2_with fail
  refine joinWords_c _ _ _ [p, q, iw p, iw q] _ hm (by omega) ?_
  intro b3 m3 d3 w3 hb3 ho3
  go_wp2_with fail
  exact H'.o _ _ _ _ (below_ups (hb0 _) hb3 (hb0 _).size) (ho3.mono (hb0 _).size)

set_option maxHeartbeats 400000 in
theorem topSpecConjugateWord {R : Ending → World → Prop} {B B' : Nat} (a : Option Addr) (n cap : Nat) (p : List Int) (a' : Option Addr) (n' cap' : Nat) (q : List Int) (w : World) (h : OwnI w B a n cap p) (h' : OwnI w B' a' n' cap' q) (_ : p.length ≤ 2000000) (_ : q.length ≤ 2000000)
    (H : MakesIB R w (pConjW p q) (decide (JoinOk [p, q, iw p]))) : Calls Try.prog 34 #[.slice a n cap, .slice a' n' cap'] w R := by
  have H' := Hd.i H; clear H
  by_cases hp : IsWord p
  · have hdp := Hd.i (decide_eq_true hp)
    by_cases hq : IsWord q
    · have hdq := Hd.i (decide_eq_true hq)
      have ei := Hd.i (iw_eq hp)
      go_enter Try.func34, Try.ntmps34
      go_wp2_with fail
      refine specIsWord_c _ _ _ p _ h.ints ?_
      rw [hdp.o]
      go_wp2_with fail
      refine specIsWord_c _ _ _ q _ h'.ints ?_
      rw [hdq.o]
      go_wp2_with fail
      refine specInvertWord_c _ _ _ p _ h.ints hp ?_
      rw [← ei.o]
      intro b1 m1 d1 w1 hb1 ho1
      replace h := h.up hb1
      replace h' := h'.up hb1
      have hm := Mat.lit3 h.ints h'.ints ho1.ints h.cap h'.cap ho1.cap
      have hb0 := fun o => hb1.alloc hb1.size o
      go_wp2_with fail
      refine concatWords_c _ _ _ [p, q, iw p] _ hm (by omega) ?_
      intro b2 m2 d2 w2 hb2 ho2
      go_wp2_with fail
      exact H'.o _ _ _ _ (below_ups (hb0 _) hb2 (hb0 _).size) (ho2.mono (hb0 _).size)
    · have hdq := Hd.i (decide_eq_false hq)
      have hno := noJoin (p := p) (q := q) (l := [iw p]) (fun k => hq k.2)
      have e1 := Hd.i (show pConjW p q = [] by simp [pConjW, pJoin, hno])
      have e2 := Hd.i (decide_eq_false hno)
      clear hno
      go_enter Try.func34, Try.ntmps34
      go_wp2_with fail
      refine specIsWord_c _ _ _ p _ h.ints ?_
      rw [hdp.o]
      go_wp2_with fail
      refine specIsWord_c _ _ _ q _ h'.ints ?_
      rw [hdq.o]
      go_wp2_with fail
      have := H'.o _ _ _ _ ((Below.refl w.heap.size w).alloc (Nat.le_refl _) _) (by rw [e1.o]; exact OwnI.emptyLit _ (Nat.le_refl _))
      rw [e2.o] at this
      exact this
  · have hdp := Hd.i (decide_eq_false hp)
    have hno := noJoin (p := p) (q := q) (l := [iw p]) (fun k => hp k.1)
    have e1 := Hd.i (show pConjW p q = [] by simp [pConjW, pJoin, hno])
    have e2 := Hd.i (decide_eq_false hno)
    clear hno
    go_enter Try.func34, Try.ntmps34
    go_wp2_with fail
    refine specIsWord_c _ _ _ p _ h.ints ?_
    rw [hdp.o]
    go_wp2_with fail
    have := H'.o _ _ _ _ ((Below.refl w.heap.size w).alloc (Nat.le_refl _) _) (by rw [e1.o]; exact OwnI.emptyLit _ (Nat.le_refl _))
    rw [e2.o] at this
    exact this

set_option maxHeartbeats 400000 in
theorem topSpecCommutator {R : Ending → World → Prop} {B B' : Nat} (a : Option Addr) (n cap : Nat) (p : List Int) (a' : Option Addr) (n' cap' : Nat) (q : List Int) (w : World) (h : OwnI w B a n cap p) (h' : OwnI w B' a' n' cap' q) (_ : p.length ≤ 2000000) (_ : q.length ≤ 2000000)
    (H : MakesIB R w (pCommW p q) (decide (JoinOk [p, q, iw p, iw q]))) : Calls Try.prog 36 #[.slice a n cap, .slice a' n' cap'] w R := by
  have H' := Hd.i H; clear H
  by_cases hp : IsWord p
  · have hdp := Hd.i (decide_eq_true hp)
    by_cases hq : IsWord q
    · have hdq := Hd.i (decide_eq_true hq)
      have ei := Hd.i (iw_eq hp)
      have ei2 := Hd.i (iw_eq hq)
      go_enter Try.func36, Try.ntmps36
      go_wp2_with fail
      refine specIsWord_c _ _ _ p _ h.ints ?_
      rw [hdp.o]
      go_wp2_with fail
      refine specIsWord_c _ _ _ q _ h'.ints ?_
      rw [hdq.o]
      go_wp2_with fail
      refine specInvertWord_c _ _ _ p _ h.ints hp ?_
      rw [← ei.o]
      intro b1 m1 d1 w1 hb1 ho1
      replace h := h.up hb1
      replace h' := h'.up hb1
      go_wp2_with fail
      refine specInvertWord_c _ _ _ q _ h'.ints hq ?_
      rw [← ei2.o]
      intro b3 m3 d3 w3 hb3 ho3
      replace h := h.up hb3
      replace h' := h'.up hb3
      replace ho1 := ho1.up hb3
      have hb13 := below_ups hb1 hb3 hb1.size
      have hm := Mat.lit4 h.ints h'.ints ho1.ints ho3.ints h.cap h'.cap ho1.cap ho3.cap
      have hb0 := fun o => hb13.alloc hb13.size o
      go_wp2_with fail
      refine concatWords_c _ _ _ [p, q, iw p, iw q] _ hm (by omega) ?_
      intro b2 m2 d2 w2 hb2 ho2
      go_wp2_with fail
      exact H'.o _ _ _ _ (below_ups (hb0 _) hb2 (hb0 _).size) (ho2.mono (hb0 _).size)
    · have hdq := Hd.i (decide_eq_false hq)
      have hno := noJoin (p := p) (q := q) (l := [iw p, iw q]) (fun k => hq k.2)
      have e1 := Hd.i (show pCommW p q = [] by simp [pCommW, pJoin, hno])
      have e2 := Hd.i (decide_eq_false hno)
      clear hno
      go_enter Try.func36, Try.ntmps36
      go_wp2_with fail
      refine specIsWord_c _ _ _ p _ h.ints ?_
      rw [hdp.o]
      go_wp2_with fail
      refine specIsWord_c _ _ _ q _ h'.ints ?_
      rw [hdq.o]
      go_wp2_with fail
      have := H'.o _ _ _ _ ((Below.refl w.heap.size w).alloc (Nat.le_refl _) _) (by rw [e1.o]; exact OwnI.emptyLit _ (Nat.le_refl _))
      rw [e2.o] at this
      exact this
  · have hdp := Hd.i (decide_eq_false hp)
    have hno := noJoin (p := p) (q := q) (l := [iw p, iw q]) (fun k => hp k.1)
    have e1 := Hd.i (show pCommW p q = [] by simp [pCommW, pJoin, hno])
    have e2 := Hd.i (decide_eq_false hno)
    clear hno
    go_enter Try.func36, Try.ntmps36
    go_wp2_with fail
    refine specIsWord_c _ _ _ p _ h.ints ?_
    rw [hdp.o]
    go_wp2_with fail
    have := H'.o _ _ _ _ ((Below.refl w.heap.size w).alloc (Nat.le_refl _) _) (by rw [e1.o]; exact OwnI.emptyLit _ (Nat.le_refl _))
    rw [e2.o] at this
    exact this
end Go.Proofs.Ytockombopcjldaa
