/- Strictly increasing lists of points: the reference's test. -/
import Derived.Test.YtkojonjcikgikaaPureStab
import Derived.Test.YtkojonjcikgikaaOrbitS
namespace Go.Proofs.Ytkojonjcikgikaa
open Go.RowKit

theorem PtSet.nil (d : Nat) : PtSet d [] := ⟨.nil, by simp⟩
theorem PtSet.snoc {d : Nat} {ps : List Int} {i : Nat} {x : Int} (h : PtSet d (ps.take i)) (hx : ps[i]? = some x) (hr : 0 ≤ x ∧ x < (d : Int)) (hl : ∀ y, 0 < i → ps[i - 1]? = some y → y < x) : PtSet d (ps.take (i + 1)) := by
  rw [take_succ_some hx]
  refine ⟨List.pairwise_append.2 ⟨h.1, List.pairwise_singleton _ _, fun a ha b hb => ?_⟩, fun y hy => ?_⟩
  · obtain rfl := List.mem_singleton.1 hb
    obtain ⟨j, hj, e⟩ := List.mem_iff_getElem.1 ha
    have hj' : j < i := by rw [List.length_take] at hj; omega
    have hin : i < ps.length := (List.getElem?_eq_some_iff.1 hx).1
    have hi1 : ps[i - 1]? = some ps[i - 1] := List.getElem?_eq_getElem (by omega)
    have hlast := hl _ (by omega) hi1
    have e' : ps[j]'(by omega) = a := by rw [← e, List.getElem_take]
    by_cases hji : j = i - 1
    · subst hji; rw [← e']; exact hlast
    · have h1 := List.pairwise_iff_getElem.1 h.1 j (i - 1) hj (by rw [List.length_take]; omega) (by omega)
      rw [List.getElem_take, List.getElem_take, e'] at h1
      omega
  · rcases List.mem_append.1 hy with hy | hy
    · exact h.2 y hy
    · obtain rfl := List.mem_singleton.1 hy; exact hr
theorem PtSet.lt {d : Nat} {ps : List Int} (h : PtSet d ps) {i : Nat} {x y : Int} (hi : 0 < i) (hy : ps[i - 1]? = some y) (hx : ps[i]? = some x) : y < x := by
  obtain ⟨h1, e1⟩ := List.getElem?_eq_some_iff.1 hy
  obtain ⟨h2, e2⟩ := List.getElem?_eq_some_iff.1 hx
  have := List.pairwise_iff_getElem.1 h.1 (i - 1) i h1 h2 (by omega)
  rwa [e1, e2] at this

open Classical in
noncomputable def ptB (d : Nat) (ps : List Int) : Bool := decide (PtSet d ps)
open Classical in
theorem ptB_true {d : Nat} {ps : List Int} (h : PtSet d ps) : ptB d ps = true := by unfold ptB; exact decide_eq_true h
open Classical in
theorem ptB_false {d : Nat} {ps : List Int} (h : ¬ PtSet d ps) : ptB d ps = false := by unfold ptB; exact decide_eq_false h

end Go.Proofs.Ytkojonjcikgikaa
