/- Block systems: the program's classOf. -/
import Derived.Test.YtkojonjcikgikaaBlkS
import Derived.Test.YtkojonjcikgikaaLibS
namespace Go.Proofs.Ytkojonjcikgikaa
open Go.RowKit
theorem part_contains {d : Nat} {bs : List (List Int)} (h : PartTo d bs bs.length) : (clM d bs bs.flatten (-1)).contains (-1) = !(partB d bs) := by
  have hnd := h.nd
  have hset := h.set
  rw [List.take_length] at hnd hset
  have hr : ∀ x ∈ bs.flatten, 0 ≤ x ∧ x < (d : Int) := fun x hx => by
    obtain ⟨b, hb, hxb⟩ := List.mem_flatten.1 hx
    exact (hset b hb).2 x hxb
  by_cases hP : Part d bs
  · rw [partB_true hP, clM_full hP]
    have : (-1 : Int) ∉ cls d bs := by
      intro hm
      unfold cls at hm
      obtain ⟨x, _, e⟩ := List.mem_map.1 hm
      omega
    simpa using this
  · rw [partB_false hP]
    have hex : ∃ x : Int, (0 ≤ x ∧ x < (d : Int)) ∧ x ∉ bs.flatten := by
      apply Classical.byContradiction
      intro hno
      refine hP (h.full (Nat.le_antisymm (seenB_len hnd hr) ?_))
      have hsub := (idl_nodup d).length_le_of_subset (l₂ := bs.flatten) fun x hx => by
        apply Classical.byContradiction
        intro hn
        exact hno ⟨x, mem_idl.1 hx, hn⟩
      rwa [idl_length] at hsub
    obtain ⟨x, hx, hn⟩ := hex
    have : (-1 : Int) ∈ clM d bs bs.flatten (-1) := by
      unfold clM
      exact List.mem_map.2 ⟨x, mem_idl.2 hx, by rw [if_neg hn]⟩
    simpa using this
theorem PtSet.take {d : Nat} {ps : List Int} (h : PtSet d ps) (k : Nat) : PtSet d (ps.take k) := ⟨h.1.sublist (List.take_sublist _ _), fun x hx => h.2 x (List.mem_of_mem_take hx)⟩

end Go.Proofs.Ytkojonjcikgikaa
