/- MinimalBlockSystem: the tops. -/
import Derived.Test.YtkojonjcikgikaaMinJ
import Derived.Test.YtkojonjcikgikaaBlkJ
namespace Go.Proofs.Ytkojonjcikgikaa
open Go.RowKit

theorem blkP_cells (K : Int → Int → Prop) (k : Nat) (l : List Int) : ((l.map (blkP K k)).map List.length).sum ≤ l.length * k := by
  induction l with
  | nil => simp
  | cons a t ih =>
    have := blkP_le K k a
    rw [List.map_cons, List.map_cons, List.sum_cons, List.length_cons, Nat.add_mul]
    omega
theorem blks_cells (K : Int → Int → Prop) (d : Nat) : cells (blks K d d) ≤ d * d := by
  unfold cells blks
  exact Nat.le_trans (blkP_cells K d _) (Nat.mul_le_mul_right d (fstP_le K d))
def MinOk (z : Int) (xss : List (List Int)) (x y : Int) : Prop := GenSet z xss ∧ (0 ≤ x ∧ x < z) ∧ 0 ≤ y ∧ y < z
open Classical in
noncomputable def pMinS (z : Int) (xss : List (List Int)) (x y : Int) : List (List Int) := if MinOk z xss x y then pMin z.toNat xss x y else []
theorem pMinS_cells (z : Int) (xss : List (List Int)) (x y : Int) : cells (pMinS z xss x y) ≤ 400 := by
  unfold pMinS
  split
  · rename_i h
    refine Nat.le_trans (blks_cells _ _) ?_
    have : z.toNat ≤ 20 := by have := h.1.2.1; omega
    exact Nat.mul_le_mul this this
  · simp [cells]

end Go.Proofs.Ytkojonjcikgikaa
