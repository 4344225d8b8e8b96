/- IsPermutation, Identity, Inverse, Compose, PermutationLess as they are called by the laws. -/
import Derived.Test.YtkojonjcikgikaaDoorPermFns
import Derived.Deep.RegionWith
namespace Go.Proofs.YtkojonjcikgikaaDoor
open Go.RowKit
theorem topSpecIsPermutation {R : Ending → World → Prop} {B : Nat} (a : Option Addr) (n cap : Nat) (p : List Int) (w : World) (h : OwnI w B a n cap p) (H : Gives R w (.bool (decide (IsPerm p)))) :
    Calls Tryd.prog 21 #[.slice a n cap] w R := specIsPerm_c a n cap p w h.ints h.cap fun _ hd => H _ (hd.below _)
theorem topImplIsPermutation {R : Ending → World → Prop} {B : Nat} (a : Option Addr) (n cap : Nat) (p : List Int) (w : World) (h : OwnI w B a n cap p) (H : Gives R w (.bool (decide (IsPerm p)))) :
    Calls Tryd.prog 24 #[.slice a n cap] w R := implIsPerm_c a n cap p w h.ints (H _ (Below.refl _ _))
end Go.Proofs.YtkojonjcikgikaaDoor
