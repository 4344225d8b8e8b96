/- IsPermutation, Identity, Inverse, Compose, PermutationLess as they are called by the laws. -/
import Derived.Test.YtockombopcjldaaPermFns
import Derived.Deep.RegionWith
namespace Go.Proofs.Ytockombopcjldaa
open Go.RowKit


theorem topSpecIdentity {R : Ending → World → Prop} (n : Int) (w : World) (_ : -9223372036854775808 ≤ n ∧ n ≤ 9223372036854775807) (H : MakesI R w (pIdentity n)) : Calls Try.prog 53 #[.int .i64 n] w R := by
  have H' := Hd.i H; clear H
  by_cases hr : 1 ≤ n ∧ n ≤ 20
  · obtain ⟨m, rfl⟩ : ∃ m : Nat, n = m := ⟨n.toNat, by omega⟩
    have e := Hd.i (show pIdentity (m : Int) = idl m by simp [pIdentity, hr])
    go_enter Try.func53, Try.ntmps53
    go_wp2_with (first | (go_at_call 70; refine inRange_c _ _ _ _ (fun _ => ?_) (fun _ => ?_) <;> go_prune) | (go_at_call 86; refine specIdentity_c m _ (by omega) ?_; intro a2 n2 c2 w2 hb2 ho2))
    exact H'.o _ _ _ _ hb2 (e.o ▸ ho2)
  · have e := Hd.i (show pIdentity n = [] by simp [pIdentity, hr])
    go_enter Try.func53, Try.ntmps53
    go_wp2_with (first | (go_at_call 70; refine inRange_c _ _ _ _ (fun _ => ?_) (fun _ => ?_) <;> go_prune))
    exact H'.o _ _ _ _ ((Below.refl _ _).alloc (Nat.le_refl _) _) (e.o ▸ OwnI.emptyLit w (Nat.le_refl _))

theorem topImplIdentity {R : Ending → World → Prop} (n : Int) (w : World) (_ : -9223372036854775808 ≤ n ∧ n ≤ 9223372036854775807) (H : MakesI R w (pIdentity n)) : Calls Try.prog 52 #[.int .i64 n] w R := by
  have H' := Hd.i H; clear H
  by_cases hr : 1 ≤ n ∧ n ≤ 20
  · obtain ⟨m, rfl⟩ : ∃ m : Nat, n = m := ⟨n.toNat, by omega⟩
    have e := Hd.i (show pIdentity (m : Int) = idl m by simp [pIdentity, hr])
    go_enter Try.func52, Try.ntmps52
    go_wp2_with (first | (go_at_call 71; refine within_c _ _ _ _ (fun _ => ?_) (fun _ => ?_) <;> go_prune) | (go_at_call 85; refine implIdentity_c m _ (by omega) ?_; intro a2 n2 c2 w2 hb2 ho2))
    exact H'.o _ _ _ _ hb2 (e.o ▸ ho2)
  · have e := Hd.i (show pIdentity n = [] by simp [pIdentity, hr])
    go_enter Try.func52, Try.ntmps52
    go_wp2_with (first | (go_at_call 71; refine within_c _ _ _ _ (fun _ => ?_) (fun _ => ?_) <;> go_prune))
    exact H'.o _ _ _ _ (Below.refl _ _) (e.o ▸ OwnI.nil w _)

theorem topImplInverse {R : Ending → World → Prop} {B : Nat} (a : Option Addr) (n cap : Nat) (p : List Int) (w : World) (h : OwnI w B a n cap p) (H : MakesI R w (pInverse p)) :
    Calls Try.prog 54 #[.slice a n cap] w R := by
  have H' := Hd.i H; clear H
  by_cases hp : IsPerm p
  · have e := Hd.i (show pInverse p = inv p by simp [pInverse, hp])
    go_enter Try.func54, Try.ntmps54
    go_wp2_with (first | (go_at_call 58; refine implIsPerm_c _ _ _ p _ h.ints ?_) | (go_at_call 87; refine implInverse_c _ _ _ p _ h.ints hp ?_; intro a2 n2 c2 w2 hb2 ho2))
    exact H'.o _ _ _ _ hb2 (e.o ▸ ho2)
  · have e := Hd.i (show pInverse p = [] by simp [pInverse, hp])
    go_enter Try.func54, Try.ntmps54
    go_wp2_with (first | (go_at_call 58; refine implIsPerm_c _ _ _ p _ h.ints ?_))
    exact H'.o _ _ _ _ (Below.refl _ _) (e.o ▸ OwnI.nil _ _)

theorem implArePerms_c {R : Ending → World → Prop} (a : Option Addr) (n cap : Nat) (p : List Int) (a' : Option Addr) (n' cap' : Nat) (q : List Int) (w : World) (hp : Ints w a n p) (hq : Ints w a' n' q)
    (H : R (.returned (.bool (decide (PermPair p q)))) w) : Calls Try.prog 63 #[.slice a n cap, .slice a' n' cap'] w R := by
  have H' := Hd.i H; clear H
  have hl1 := Hd.i hp.length
  have hl2 := Hd.i hq.length
  by_cases hn : n = n'
  · subst hn
    by_cases h1 : IsPerm p
    · by_cases h2 : IsPerm q
      · go_enter Try.func63, Try.ntmps63
        go_wp2_with (first | (go_at_call_of 58 (Value.slice a n cap); refine implIsPerm_c _ _ _ p _ hp ?_) | (go_at_call 58; refine implIsPerm_c _ _ _ q _ hq ?_))
        exact retB H' (decide_eq_true ⟨hl1.o.trans hl2.o.symm, h1, h2⟩)
      · go_enter Try.func63, Try.ntmps63
        go_wp2_with (first | (go_at_call_of 58 (Value.slice a n cap); refine implIsPerm_c _ _ _ p _ hp ?_) | (go_at_call 58; refine implIsPerm_c _ _ _ q _ hq ?_))
        exact retB H' (decide_eq_false fun h => h2 h.2.2)
    · go_enter Try.func63, Try.ntmps63
      go_wp2_with (first | (go_at_call_of 58 (Value.slice a n cap); refine implIsPerm_c _ _ _ p _ hp ?_))
      exact retB H' (decide_eq_false fun h => h1 h.2.1)
  · go_enter Try.func63, Try.ntmps63
    go_wp2
    exact retB H' (decide_eq_false fun h => hn (hl1.o.symm.trans (h.1.trans hl2.o)))

theorem specSameDeg_c {R : Ending → World → Prop} (a : Option Addr) (n cap : Nat) (p : List Int) (a' : Option Addr) (n' cap' : Nat) (q : List Int) (w : World) (hp : Ints w a n p) (hq : Ints w a' n' q) (hc : n ≤ cap) (hc' : n' ≤ cap')
    (H : Reads R w (.bool (decide (PermPair p q)))) : Calls Try.prog 60 #[.slice a n cap, .slice a' n' cap'] w R := by
  have H' := Hd.i H; clear H
  have hl1 := Hd.i hp.length
  have hl2 := Hd.i hq.length
  by_cases h1 : IsPerm p
  · by_cases h2 : IsPerm q
    · by_cases hn : n = n'
      · subst hn
        go_enter Try.func60, Try.ntmps60
        go_wp2_with (first | (go_at_call_of 55 (Value.slice a n cap); refine specIsPerm_c _ _ _ p _ hp hc ?_; intro w1 hd1) | (go_at_call 55; refine specIsPerm_c _ _ _ q _ (hd1.ints hq) hc' ?_; intro w2 hd2))
        exact retB (H'.o _ (hd1.trans hd2)) (decide_eq_true ⟨hl1.o.trans hl2.o.symm, h1, h2⟩)
      · have hnb : ((n : Int) == (n' : Int)) = false := by rw [beq_eq_false_iff_ne]; omega
        go_enter Try.func60, Try.ntmps60
        go_wp2_with (first | (go_at_call_of 55 (Value.slice a n cap); refine specIsPerm_c _ _ _ p _ hp hc ?_; intro w1 hd1) | (go_at_call 55; refine specIsPerm_c _ _ _ q _ (hd1.ints hq) hc' ?_; intro w2 hd2))
        exact retB (H'.o _ (hd1.trans hd2)) (decide_eq_false fun h => hn (hl1.o.symm.trans (h.1.trans hl2.o)))
    · go_enter Try.func60, Try.ntmps60
      go_wp2_with (first | (go_at_call_of 55 (Value.slice a n cap); refine specIsPerm_c _ _ _ p _ hp hc ?_; intro w1 hd1) | (go_at_call 55; refine specIsPerm_c _ _ _ q _ (hd1.ints hq) hc' ?_; intro w2 hd2))
      exact retB (H'.o _ (hd1.trans hd2)) (decide_eq_false fun h => h2 h.2.2)
  · go_enter Try.func60, Try.ntmps60
    go_wp2_with (first | (go_at_call_of 55 (Value.slice a n cap); refine specIsPerm_c _ _ _ p _ hp hc ?_; intro w1 hd1))
    exact retB (H'.o _ hd1) (decide_eq_false fun h => h1 h.2.1)

theorem topImplCompose {R : Ending → World → Prop} {B B' : Nat} (a : Option Addr) (n cap : Nat) (p : List Int) (a' : Option Addr) (n' cap' : Nat) (q : List Int) (w : World) (h : OwnI w B a n cap p) (h' : OwnI w B' a' n' cap' q)
    (H : MakesIB R w (pCompose p q) (decide (PermPair p q))) : Calls Try.prog 50 #[.slice a n cap, .slice a' n' cap'] w R := by
  have H' := Hd.i H; clear H
  by_cases hpp : PermPair p q
  · have e := Hd.i (show pCompose p q = comp p q by simp [pCompose, hpp])
    have hr := Hd.i (show ∀ x ∈ p, 0 ≤ x ∧ x < n' from h'.length ▸ hpp.range)
    have hn : n ≤ 1000000 := by have := hpp.2.1.2.1; have := h.length; omega
    go_enter Try.func50, Try.ntmps50
    go_wp2_with (first | (go_at_call 63; refine implArePerms_c _ _ _ p _ _ _ q _ h.ints h'.ints ?_) | (go_at_call 84; refine implCompose_c _ _ _ p _ _ _ q _ h.ints h'.ints hn hr ?_; intro a2 n2 c2 w2 hb2 ho2))
    have := H'.o a2 n2 c2 w2 hb2 (e.o ▸ ho2)
    rw [decide_eq_true hpp] at this
    exact this
  · have e := Hd.i (show pCompose p q = [] by simp [pCompose, hpp])
    go_enter Try.func50, Try.ntmps50
    go_wp2_with (first | (go_at_call 63; refine implArePerms_c _ _ _ p _ _ _ q _ h.ints h'.ints ?_))
    have := H'.o _ _ _ _ (Below.refl _ _) (e.o ▸ OwnI.nil _ _)
    rw [decide_eq_false hpp] at this
    exact this

theorem topSpecIsPermutation {R : Ending → World → Prop} {B : Nat} (a : Option Addr) (n cap : Nat) (p : List Int) (w : World) (h : OwnI w B a n cap p) (H : Gives R w (.bool (decide (IsPerm p)))) :
    Calls Try.prog 55 #[.slice a n cap] w R := specIsPerm_c a n cap p w h.ints h.cap fun _ hd => H _ (hd.below _)
theorem topImplIsPermutation {R : Ending → World → Prop} {B : Nat} (a : Option Addr) (n cap : Nat) (p : List Int) (w : World) (h : OwnI w B a n cap p) (H : Gives R w (.bool (decide (IsPerm p)))) :
    Calls Try.prog 58 #[.slice a n cap] w R := implIsPerm_c a n cap p w h.ints (H _ (Below.refl _ _))
end Go.Proofs.Ytockombopcjldaa
