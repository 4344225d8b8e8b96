/- The orbit of a point under generators; no program in sight. -/
import Derived.Test.YtpijnjhheikmcaaPureCycle
namespace Go.Proofs.Ytpijnjhheikmcaa

/-- The permutation of a letter. -/
def letP (xss : List (List Int)) (l : Int) : List Int := if l < 0 then inv ((xss[(-l - 1).toNat]?).getD []) else (xss[(l - 1).toNat]?).getD []

/-- y is reached from x by generators. -/
inductive Reach (xss : List (List Int)) (x : Int) : Int → Prop
  | refl : Reach xss x x
  | step {y : Int} {p : List Int} : Reach xss x y → p ∈ xss → Reach xss x (at0 p y)
/-- Generators of the degree n. -/
def Gens (n : Nat) (xss : List (List Int)) : Prop := ∀ p ∈ xss, IsPerm p ∧ p.length = n
theorem Reach.range {n : Nat} {xss : List (List Int)} (hg : Gens n xss) {x y : Int} (hx : 0 ≤ x ∧ x < n) (h : Reach xss x y) : 0 ≤ y ∧ y < n := by
  induction h with
  | refl => exact hx
  | step _ hp ih =>
    have h1 := hg _ hp
    have := h1.1.at0_range ih.1 (by omega)
    omega
theorem Reach.trans {xss : List (List Int)} {x y z : Int} (h : Reach xss x y) (k : Reach xss y z) : Reach xss x z := by
  induction k with
  | refl => exact h
  | step _ hp ih => exact ih.step hp
theorem Reach.it {xss : List (List Int)} {x y : Int} (h : Reach xss x y) {p : List Int} (hp : p ∈ xss) : ∀ k, Reach xss x (it p k y) := by
  intro k
  induction k with
  | zero => exact h
  | succ k ih => exact ih.step hp
theorem inv_it {p : List Int} (hp : IsPerm p) {y : Int} (hy : 0 ≤ y ∧ y < p.length) : at0 (inv p) y = it p (per p y - 1) y := by
  have hs := per_spec hp hy
  have hr := it_range hp hy.1 hy.2 (per p y - 1)
  have e : at0 p (it p (per p y - 1) y) = y := by
    rw [← it_succ, show per p y - 1 + 1 = per p y by omega]
    exact hs.2.2.1
  conv => lhs; rw [← e]
  exact inv_at0 hp hr.1 hr.2
/-- The inverses reach no further. -/
theorem Reach.inv {n : Nat} {xss : List (List Int)} (hg : Gens n xss) {x y : Int} (hx : 0 ≤ x ∧ x < n) (h : Reach xss x y) {p : List Int} (hp : p ∈ xss) : Reach xss x (at0 (inv p) y) := by
  have hr := h.range hg hx
  have h1 := hg p hp
  rw [inv_it h1.1 ⟨hr.1, by omega⟩]
  exact h.it hp _
theorem Reach.symm {n : Nat} {xss : List (List Int)} (hg : Gens n xss) {x y : Int} (hx : 0 ≤ x ∧ x < n) (h : Reach xss x y) : Reach xss y x := by
  induction h with
  | refl => exact .refl
  | @step z p hz hp ih =>
    have hr := hz.range hg hx
    have h1 := hg p hp
    have hr2 := h1.1.at0_range hr.1 (show z < p.length by omega)
    have h2 := Reach.inv hg (x := at0 p z) ⟨hr2.1, by omega⟩ .refl hp
    rw [inv_at0 h1.1 hr.1 (by omega)] at h2
    exact h2.trans ih
end Go.Proofs.Ytpijnjhheikmcaa
