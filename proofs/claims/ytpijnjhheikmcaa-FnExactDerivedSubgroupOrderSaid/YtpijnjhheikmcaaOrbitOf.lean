/- The reference's orbit of a point. -/
import Derived.Test.YtpijnjhheikmcaaPureBfs
import Derived.Test.YtpijnjhheikmcaaEval
namespace Go.Proofs.Ytpijnjhheikmcaa
open Go.RowKit

theorem genSet_gens {d : Nat} {xss : List (List Int)} (h : GenSet (d : Int) xss) : Gens d xss := fun p hp => by
  have := h.perm hp
  exact ⟨this.1, by omega⟩

/-- What has been found so far: different points, all reached; those below k have been gone through. -/
def Found (xss : List (List Int)) (x : Int) (os : List Int) (k : Nat) : Prop :=
  os.Nodup ∧ x ∈ os ∧ (∀ y ∈ os, Reach xss x y) ∧ ∀ j, j < k → ∀ y, os[j]? = some y → ∀ p ∈ xss, at0 p y ∈ os
theorem Found.snoc {xss : List (List Int)} {x y : Int} {os : List Int} {k : Nat} (h : Found xss x os k) (hk : k ≤ os.length) (hy : y ∉ os) (hr : Reach xss x y) : Found xss x (os ++ [y]) k := by
  obtain ⟨h1, h2, h3, h4⟩ := h
  refine ⟨List.nodup_append.2 ⟨h1, List.pairwise_singleton _ _, fun a ha b hb => ?_⟩, List.mem_append_left _ h2, fun z hz => ?_, fun j hj z hz p hp => ?_⟩
  · obtain rfl := List.mem_singleton.1 hb
    intro e; exact hy (e ▸ ha)
  · rcases List.mem_append.1 hz with hz | hz
    · exact h3 z hz
    · obtain rfl := List.mem_singleton.1 hz; exact hr
  · rw [List.getElem?_append_left (by omega)] at hz
    exact List.mem_append_left _ (h4 j hj z hz p hp)
theorem Found.full {xss : List (List Int)} {x : Int} {os : List Int} (h : Found xss x os os.length) : os.Nodup ∧ ∀ y, y ∈ os ↔ Reach xss x y := by
  refine ⟨h.1, fun y => ⟨h.2.2.1 y, fun hr => ?_⟩⟩
  induction hr with
  | refl => exact h.2.1
  | step _ hp ih =>
    obtain ⟨j, hj⟩ := List.getElem?_of_mem ih
    exact h.2.2.2 j (List.getElem?_eq_some_iff.1 hj).1 _ hj _ hp
theorem Found.len {n : Nat} {xss : List (List Int)} (hg : Gens n xss) {x : Int} (hx : 0 ≤ x ∧ x < n) {os : List Int} {k : Nat} (h : Found xss x os k) : os.length ≤ n := by
  have hs : os ⊆ idl n := fun y hy => mem_idl.2 ((h.2.2.1 y hy).range hg hx)
  have := h.1.length_le_of_subset hs
  rwa [idl_length] at this

theorem found_range {d : Nat} {xss : List (List Int)} (hg : Gens d xss) {x : Int} (hx : 0 ≤ x ∧ x < d) {os : List Int} {k j : Nat} (h : Found xss x os k) {u : Int} (hu : os[j]? = some u) : 0 ≤ u ∧ u < d :=
  (h.2.2.1 u (List.mem_of_getElem? hu)).range hg hx
/-- Within a round: the images of u under the first j generators are found. -/
def Half (xss : List (List Int)) (x : Int) (os : List Int) (k : Nat) (u : Int) (j : Nat) : Prop := Found xss x os k ∧ os[k]? = some u ∧ ∀ q p, q < j → xss[q]? = some p → at0 p u ∈ os
theorem Half.next {xss : List (List Int)} {x u : Int} {os : List Int} {k : Nat} (h : Half xss x os k u xss.length) : Found xss x os (k + 1) := by
  obtain ⟨⟨h1, h2, h3, h4⟩, h5, h6⟩ := h
  refine ⟨h1, h2, h3, fun j hj y hy p hp => ?_⟩
  by_cases e : j = k
  · subst e
    rw [h5] at hy
    cases hy
    obtain ⟨q, hq⟩ := List.getElem?_of_mem hp
    exact h6 q p (List.getElem?_eq_some_iff.1 hq).1 hq
  · exact h4 j (by omega) y hy p hp
theorem Half.old {xss : List (List Int)} {x u y : Int} {os : List Int} {k j : Nat} {p : List Int} (h : Half xss x os k u j) (hp : xss[j]? = some p) (hy : p[u.toNat]? = some y) (hm : y ∈ os) : Half xss x os k u (j + 1) := by
  refine ⟨h.1, h.2.1, fun q r hq hr => ?_⟩
  by_cases e : q = j
  · subst e
    rw [hp] at hr
    cases hr
    rw [at0_of hy]; exact hm
  · exact h.2.2 q r (by omega) hr
theorem Half.new {xss : List (List Int)} {x u y : Int} {os : List Int} {k j : Nat} {p : List Int} (h : Half xss x os k u j) (hp : xss[j]? = some p) (hy : p[u.toNat]? = some y) (hm : y ∉ os) : Half xss x (os ++ [y]) k u (j + 1) := by
  have hk := (List.getElem?_eq_some_iff.1 h.2.1).1
  refine ⟨h.1.snoc (by omega) hm ?_, by rw [List.getElem?_append_left hk]; exact h.2.1, fun q r hq hr => ?_⟩
  · rw [← at0_of hy]
    exact (h.1.2.2.1 u (List.mem_of_getElem? h.2.1)).step (List.mem_of_getElem? hp)
  · by_cases e : q = j
    · subst e
      rw [hp] at hr
      cases hr
      rw [at0_of hy]; exact List.mem_append_right _ (List.mem_singleton_self _)
    · exact List.mem_append_left _ (h.2.2 q r (by omega) hr)

end Go.Proofs.Ytpijnjhheikmcaa
