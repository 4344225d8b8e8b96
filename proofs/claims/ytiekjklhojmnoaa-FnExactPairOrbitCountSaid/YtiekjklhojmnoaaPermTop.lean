/- IsPermutation, Identity, Inverse, Compose, PermutationLess as they are called by the laws. -/
import Derived.Test.YtiekjklhojmnoaaPermFns
import Derived.Deep.RegionWith
namespace Go.Proofs.Ytiekjklhojmnoaa
open Go.RowKit
theorem topSpecIsPermutation {R : Ending → World → Prop} {B : Nat} (a : Option Addr) (n cap : Nat) (p : List Int) (w : World) (h : OwnI w B a n cap p) (H : Gives R w (.bool (decide (IsPerm p)))) :
    Calls Try.prog 93 #[.slice a n cap] w R := specIsPerm_c a n cap p w h.ints h.cap fun _ hd => H _ (hd.below _)
theorem topImplIsPermutation {R : Ending → World → Prop} {B : Nat} (a : Option Addr) (n cap : Nat) (p : List Int) (w : World) (h : OwnI w B a n cap p) (H : Gives R w (.bool (decide (IsPerm p)))) :
    Calls Try.prog 98 #[.slice a n cap] w R := implIsPerm_c a n cap p w h.ints (H _ (Below.refl _ _))
end Go.Proofs.Ytiekjklhojmnoaa
