/- IsBlockSystem, BlockAction. -/
import Derived.Test.YtkojonjcikgikaaBlkI
import Derived.Test.YtkojonjcikgikaaBlkT
namespace Go.Proofs.Ytkojonjcikgikaa
open Go.RowKit

def MakesRB (R : Ending → World → Prop) (w : World) (yss : List (List Int)) (b : Bool) : Prop :=
  ∀ a n cap hs w', Below w.heap.size w w' → OwnH w' w.heap.size a n cap hs yss → R (.returned (.tuple #[.slice a n cap, .bool b])) w'
open Classical in
noncomputable def sysB (z : Int) (xss bs : List (List Int)) : Bool := decide (BlockSys z xss bs)
open Classical in
theorem sysB_true {z : Int} {xss bs : List (List Int)} (h : BlockSys z xss bs) : sysB z xss bs = true := by unfold sysB; exact decide_eq_true h
open Classical in
theorem sysB_false {z : Int} {xss bs : List (List Int)} (h : ¬ BlockSys z xss bs) : sysB z xss bs = false := by unfold sysB; exact decide_eq_false h
open Classical in
noncomputable def pBlkAct (z : Int) (xss bs : List (List Int)) : List (List Int) := if BlockSys z xss bs then xss.map (act bs) else []
theorem pBlkAct_cells (z : Int) (xss bs : List (List Int)) : cells (pBlkAct z xss bs) ≤ 160 := by
  unfold pBlkAct
  split
  · rename_i h
    have h8 := h.1.2.2.1
    have h20 : bs.length ≤ 20 := by have := h.2.1.le; have := h.1.2.1; omega
    unfold cells
    have key : ∀ l : List (List Int), ((l.map (act bs)).map List.length).sum = l.length * bs.length := by
      intro l
      induction l with
      | nil => simp
      | cons a t ih => rw [List.map_cons, List.map_cons, List.sum_cons, ih, act_length, List.length_cons, Nat.add_mul]; omega
    rw [key]
    exact Nat.le_trans (Nat.mul_le_mul h8 h20) (by omega)
  · simp [cells]
theorem gsB {d : Nat} {xss : List (List Int)} (h : GenSet (d : Int) xss) : ∀ g ∈ xss, Pm d g := fun g hg => by
  have := h.2.2.2 g hg
  exact ⟨this.2, by have := this.1; omega⟩
theorem genD {z : Int} {xss : List (List Int)} (h : GenSet z xss) : ∃ d : Nat, z = d := ⟨z.toNat, by have := h.1; omega⟩
def SysTo (bs xss : List (List Int)) (i : Nat) : Prop := ∀ (j : Nat) (g : List Int), j < i → xss[j]? = some g → Resp bs g ∧ Resp bs (inv g)
theorem SysTo.step {bs xss : List (List Int)} {i : Nat} {g : List Int} (h : SysTo bs xss i) (hg : xss[i]? = some g) (hr : Resp bs g) (hi : Resp bs (inv g)) : SysTo bs xss (i + 1) := fun j x hj e => by
  by_cases hji : j = i
  · subst hji; rw [hg] at e; cases e; exact ⟨hr, hi⟩
  · exact h j x (by omega) e
theorem SysTo.all {bs xss : List (List Int)} (h : SysTo bs xss xss.length) : ∀ g ∈ xss, Resp bs g ∧ Resp bs (inv g) := fun g hg => by
  obtain ⟨j, hj, e⟩ := List.mem_iff_getElem.1 hg
  exact h j g hj (by rw [List.getElem?_eq_getElem hj, e])

theorem act_take_succ {bs : List (List Int)} {g b : List Int} {i : Nat} (hb : bs[i]? = some b) : (act bs g).take (i + 1) = (act bs g).take i ++ [((ixB bs (at0 g (at0 b 0)) : Nat) : Int)] := take_succ_some (act_get hb)

end Go.Proofs.Ytkojonjcikgikaa
