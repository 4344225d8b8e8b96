/- Conjugate: the program's and the reference's. -/
import Derived.Test.YtpijnjhheikmcaaPermTop
import Derived.Test.YtpijnjhheikmcaaPureGroup
namespace Go.Proofs.Ytpijnjhheikmcaa
open Go.RowKit

def conj (p q : List Int) : List Int := comp (comp (inv q) p) q
def pConjugate (p q : List Int) : List Int := if PermPair p q then conj p q else []
theorem PermPair.inv_left {p q : List Int} (h : PermPair p q) : PermPair (inv q) p := ⟨by rw [inv_length, h.1], isPerm_inv h.2.2, h.2.1⟩
theorem PermPair.conj_left {p q : List Int} (h : PermPair p q) : PermPair (comp (inv q) p) q := ⟨by rw [comp_length, inv_length], isPerm_comp h.inv_left, h.2.2⟩
theorem isPerm_conj {p q : List Int} (h : PermPair p q) : IsPerm (conj p q) := isPerm_comp h.conj_left
theorem conj_length {p q : List Int} : (conj p q).length = q.length := by rw [conj, comp_length, comp_length, inv_length]

theorem implConjugate_c {R : Ending → World → Prop} (a : Option Addr) (n cap : Nat) (p : List Int) (a' : Option Addr) (n' cap' : Nat) (q : List Int) (w : World) (h : Ints w a n p) (h' : Ints w a' n' q) (hpp : PermPair p q)
    (H : MakesI R w (conj p q)) : Calls Try.prog 70 #[.slice a n cap, .slice a' n' cap'] w R := by
  have H' := Hd.i H; clear H
  have hr1 : Hd (∀ x ∈ inv q, 0 ≤ x ∧ x < n) := h.length ▸ hpp.inv_left.range
  have hr2 : Hd (∀ x ∈ comp (inv q) p, 0 ≤ x ∧ x < n') := h'.length ▸ hpp.conj_left.range
  have hq : IsPerm q := hpp.2.2
  have hn : n ≤ 20 := by have := hpp.2.1.2.1; have := h.length; omega
  have hn' : n' ≤ 20 := by have := hpp.2.2.2.1; have := h'.length; omega
  go_enter Try.func70, Try.ntmps70
  go_wp2_with fail
  refine implInverse_c _ _ _ q _ h' hq ?_
  intro b1 m1 c1 w1 hb1 ho1
  have l1 : m1 ≤ 1000000 := by have := ho1.length; rw [inv_length] at this; have := h'.length; omega
  go_wp2_with fail
  refine implCompose_c _ _ _ (inv q) _ _ _ p _ ho1.ints (h.up hb1) l1 hr1 ?_
  intro b2 m2 c2 w2 hb2 ho2
  have l2 : m2 ≤ 1000000 := by have := ho2.length; rw [comp_length, inv_length] at this; have := h'.length; omega
  have hb12 := below_ups hb1 hb2 hb1.size
  go_wp2_with fail
  refine implCompose_c _ _ _ (comp (inv q) p) _ _ _ q _ ho2.ints (h'.up hb12) l2 hr2 ?_
  intro b3 m3 c3 w3 hb3 ho3
  have hb123 := below_ups hb12 hb3 hb12.size
  go_wp2_with fail
  exact H'.o _ _ _ _ hb123 (ho3.mono hb12.size)

end Go.Proofs.Ytpijnjhheikmcaa
