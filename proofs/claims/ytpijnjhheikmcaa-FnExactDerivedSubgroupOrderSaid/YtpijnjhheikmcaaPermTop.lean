/- IsPermutation, Identity, Inverse, Compose, PermutationLess as they are called by the laws. -/
import Derived.Test.YtpijnjhheikmcaaPermFns
import Derived.Deep.RegionWith
namespace Go.Proofs.Ytpijnjhheikmcaa
open Go.RowKit
theorem implArePerms_c {R : Ending → World → Prop} (a : Option Addr) (n cap : Nat) (p : List Int) (a' : Option Addr) (n' cap' : Nat) (q : List Int) (w : World) (hp : Ints w a n p) (hq : Ints w a' n' q)
    (H : R (.returned (.bool (decide (PermPair p q)))) w) : Calls Try.prog 60 #[.slice a n cap, .slice a' n' cap'] w R := by
  have H' := Hd.i H; clear H
  have hl1 := Hd.i hp.length
  have hl2 := Hd.i hq.length
  by_cases hn : n = n'
  · subst hn
    by_cases h1 : IsPerm p
    · by_cases h2 : IsPerm q
      · go_enter Try.func60, Try.ntmps60
        go_wp2_with (first | (go_at_call_of 54 (Value.slice a n cap); refine implIsPerm_c _ _ _ p _ hp ?_) | (go_at_call 54; refine implIsPerm_c _ _ _ q _ hq ?_))
        exact retB H' (decide_eq_true ⟨hl1.o.trans hl2.o.symm, h1, h2⟩)
      · go_enter Try.func60, Try.ntmps60
        go_wp2_with (first | (go_at_call_of 54 (Value.slice a n cap); refine implIsPerm_c _ _ _ p _ hp ?_) | (go_at_call 54; refine implIsPerm_c _ _ _ q _ hq ?_))
        exact retB H' (decide_eq_false fun h => h2 h.2.2)
    · go_enter Try.func60, Try.ntmps60
      go_wp2_with (first | (go_at_call_of 54 (Value.slice a n cap); refine implIsPerm_c _ _ _ p _ hp ?_))
      exact retB H' (decide_eq_false fun h => h1 h.2.1)
  · go_enter Try.func60, Try.ntmps60
    go_wp2
    exact retB H' (decide_eq_false fun h => hn (hl1.o.symm.trans (h.1.trans hl2.o)))

theorem topSpecIsPermutation {R : Ending → World → Prop} {B : Nat} (a : Option Addr) (n cap : Nat) (p : List Int) (w : World) (h : OwnI w B a n cap p) (H : Gives R w (.bool (decide (IsPerm p)))) :
    Calls Try.prog 49 #[.slice a n cap] w R := specIsPerm_c a n cap p w h.ints h.cap fun _ hd => H _ (hd.below _)
theorem topImplIsPermutation {R : Ending → World → Prop} {B : Nat} (a : Option Addr) (n cap : Nat) (p : List Int) (w : World) (h : OwnI w B a n cap p) (H : Gives R w (.bool (decide (IsPerm p)))) :
    Calls Try.prog 54 #[.slice a n cap] w R := implIsPerm_c a n cap p w h.ints (H _ (Below.refl _ _))
end Go.Proofs.Ytpijnjhheikmcaa
