/- MinimalBlockSystem: the tops. -/
import Derived.Test.YtiekjklhojmnoaaMinJ
import Derived.Test.YtiekjklhojmnoaaBlkJ
namespace Go.Proofs.Ytiekjklhojmnoaa
open Go.RowKit

theorem blkP_cells (K : Int → Int → Prop) (k : Nat) (l : List Int) : ((l.map (blkP K k)).map List.length).sum ≤ l.length * k := by
  induction l with
  | nil => simp
  | cons a t ih =>
    have := blkP_le K k a
    rw [List.map_cons, List.map_cons, List.sum_cons, List.length_cons, Nat.add_mul]
    omega
theorem blks_cells (K : Int → Int → Prop) (d : Nat) : cells (blks K d d) ≤ d * d := by
  unfold cells blks
  exact Nat.le_trans (blkP_cells K d _) (Nat.mul_le_mul_right d (fstP_le K d))
def MinOk (z : Int) (xss : List (List Int)) (x y : Int) : Prop := GenSet z xss ∧ (0 ≤ x ∧ x < z) ∧ 0 ≤ y ∧ y < z
open Classical in
noncomputable def pMinS (z : Int) (xss : List (List Int)) (x y : Int) : List (List Int) := if MinOk z xss x y then pMin z.toNat xss x y else []
theorem pMinS_cells (z : Int) (xss : List (List Int)) (x y : Int) : cells (pMinS z xss x y) ≤ 400 := by
  unfold pMinS
  split
  · rename_i h
    refine Nat.le_trans (blks_cells _ _) ?_
    have : z.toNat ≤ 20 := by have := h.1.2.1; omega
    exact Nat.mul_le_mul this this
  · simp [cells]

theorem topSpecMinimalBlockSystem {R : Ending → World → Prop} {B : Nat} (z : Int) (a : Option Addr) (n cap : Nat) (hs : List Hdr) (xss : List (List Int)) (x y : Int) (w : World) (_ : -9223372036854775808 ≤ z ∧ z ≤ 9223372036854775807) (hm0 : OwnH w B a n cap hs xss) (_ : -9223372036854775808 ≤ x ∧ x ≤ 9223372036854775807) (_ : -9223372036854775808 ≤ y ∧ y ≤ 9223372036854775807)
    (H : MakesR R w (pMinS z xss x y)) : Calls Try.prog 38 #[.int .i64 z, .slice a n cap, .int .i64 x, .int .i64 y] w R := by
  have H' := Hd.i H; clear H
  have hm := hm0.rows
  clear hm0
  have hno : Hd (¬ MinOk z xss x y → MakesR R w []) := fun h => by
    have e : pMinS z xss x y = [] := by simp [pMinS, h]
    rw [← e]
    exact H'.o
  by_cases hg : GenSet z xss
  · have hdec := Hd.i (decide_eq_true hg)
    obtain ⟨d, rfl⟩ := genD hg
    have h1 : 1 ≤ d := by have := hg.1; omega
    have h2 : d ≤ 20 := by have := hg.2.1; omega
    by_cases hx : 0 ≤ x ∧ x < (d : Int)
    · have hdx := Hd.i (decide_eq_true hx)
      by_cases hy : 0 ≤ y ∧ y < (d : Int)
      · have hdy := Hd.i (decide_eq_true hy)
        have hH : Hd (MakesR R w (pMin d xss x y)) := by
          have e : pMinS (d : Int) xss x y = pMin d xss x y := by unfold pMinS; rw [if_pos ⟨hg, hx, hy⟩, Int.toNat_natCast]
          show MakesR R w (pMin d xss x y)
          rw [← e]; exact H'.o
        have hgs := Hd.i (show Gs d xss from gsB hg)
        replace hg := Hd.i hg
        have hx' := Hd.i hx
        have hy' := Hd.i hy
        clear hx hy
        go_enter Try.func38, Try.ntmps38
        go_wp2_with (first
          | (go_at_call 52; refine specGenSet_c (d : Int) _ _ _ xss _ hm ?_; intro w1 hd1; rw [hdec.o]; have hb1 := hd1.below w.heap.size; have hm1 := hm.up hb1)
          | (go_at_call_of 59 (Value.int .i64 x); refine specPoint_c d x _ h1 h2 ?_; rw [hdx.o])
          | (go_at_call 59; refine specPoint_c d y _ h1 h2 ?_; rw [hdy.o])
          | (go_at_call 71; refine specMin_c d _ _ _ xss x y _ h2 hm1 hgs hx'.o hy'.o ?_; intro a3 n3 c3 hs3 w3 hb3 ho3))
        exact hH.o _ _ _ _ _ (below_ups hb1 hb3 hb1.size) (ho3.mono hb1.size)
      · have hdy := Hd.i (decide_eq_false hy)
        have hf := Hd.i (hno.o fun h => hy h.2.2)
        replace hx := Hd.i hx
        replace hy := Hd.i hy
        replace hg := Hd.i hg
        go_enter Try.func38, Try.ntmps38
        go_wp2_with (first
          | (go_at_call 52; refine specGenSet_c (d : Int) _ _ _ xss _ hm ?_; intro w1 hd1; rw [hdec.o]; have hb1 := hd1.below w.heap.size)
          | (go_at_call_of 59 (Value.int .i64 x); refine specPoint_c d x _ h1 h2 ?_; rw [hdx.o])
          | (go_at_call 59; refine specPoint_c d y _ h1 h2 ?_; rw [hdy.o]))
        exact hf.o _ _ _ [] _ (hb1.alloc hb1.size _) (OwnH.emptyLit _ hb1.size)
    · have hdx := Hd.i (decide_eq_false hx)
      have hf := Hd.i (hno.o fun h => hx h.2.1)
      replace hx := Hd.i hx
      replace hg := Hd.i hg
      go_enter Try.func38, Try.ntmps38
      go_wp2_with (first
        | (go_at_call 52; refine specGenSet_c (d : Int) _ _ _ xss _ hm ?_; intro w1 hd1; rw [hdec.o]; have hb1 := hd1.below w.heap.size)
        | (go_at_call 59; refine specPoint_c d x _ h1 h2 ?_; rw [hdx.o]))
      exact hf.o _ _ _ [] _ (hb1.alloc hb1.size _) (OwnH.emptyLit _ hb1.size)
  · have hdec := Hd.i (decide_eq_false hg)
    have hf := Hd.i (hno.o fun h => hg h.1)
    replace hg := Hd.i hg
    go_enter Try.func38, Try.ntmps38
    go_wp2_with (go_at_call 52; refine specGenSet_c z _ _ _ xss _ hm ?_; intro w1 hd1; rw [hdec.o]; have hb1 := hd1.below w.heap.size)
    exact hf.o _ _ _ [] _ (hb1.alloc hb1.size _) (OwnH.emptyLit _ hb1.size)

theorem topImplMinimalBlockSystem {R : Ending → World → Prop} {B : Nat} (z : Int) (a : Option Addr) (n cap : Nat) (hs : List Hdr) (xss : List (List Int)) (x y : Int) (w : World) (_ : -9223372036854775808 ≤ z ∧ z ≤ 9223372036854775807) (hm0 : OwnH w B a n cap hs xss) (_ : -9223372036854775808 ≤ x ∧ x ≤ 9223372036854775807) (_ : -9223372036854775808 ≤ y ∧ y ≤ 9223372036854775807)
    (H : MakesR R w (pMinS z xss x y)) : Calls Try.prog 39 #[.int .i64 z, .slice a n cap, .int .i64 x, .int .i64 y] w R := by
  have H' := Hd.i H; clear H
  have hm := hm0.rows
  clear hm0
  have hno : Hd (¬ MinOk z xss x y → MakesR R w []) := fun h => by
    have e : pMinS z xss x y = [] := by simp [pMinS, h]
    rw [← e]
    exact H'.o
  by_cases hg : GenSet z xss
  · have hdec := Hd.i (decide_eq_true hg)
    obtain ⟨d, rfl⟩ := genD hg
    have h1 : 1 ≤ d := by have := hg.1; omega
    have h2 : d ≤ 20 := by have := hg.2.1; omega
    by_cases hx : 0 ≤ x ∧ x < (d : Int)
    · have hdx := Hd.i (decide_eq_true hx)
      by_cases hy : 0 ≤ y ∧ y < (d : Int)
      · have hdy := Hd.i (decide_eq_true hy)
        have hH : Hd (MakesR R w (pMin d xss x y)) := by
          have e : pMinS (d : Int) xss x y = pMin d xss x y := by unfold pMinS; rw [if_pos ⟨hg, hx, hy⟩, Int.toNat_natCast]
          show MakesR R w (pMin d xss x y)
          rw [← e]; exact H'.o
        have hgs := Hd.i (show Gs d xss from gsB hg)
        replace hg := Hd.i hg
        have hx' := Hd.i hx
        have hy' := Hd.i hy
        clear hx hy
        go_enter Try.func39, Try.ntmps39
        go_wp2_with (first
          | (go_at_call 55; refine implGenSet_c (d : Int) _ _ _ xss _ hm ?_; intro w1 hb1; rw [hdec.o]; have hm1 := hm.up hb1)
          | (go_at_call_of 64 (Value.int .i64 x); refine implPointD_c d x _ h1 h2 ?_; rw [hdx.o])
          | (go_at_call 64; refine implPointD_c d y _ h1 h2 ?_; rw [hdy.o])
          | (go_at_call 72; refine implMin_c d _ _ _ xss x y _ h1 h2 hm1 hgs hx'.o hy'.o ?_; intro a3 n3 c3 hs3 w3 hb3 ho3))
        exact hH.o _ _ _ _ _ (below_ups hb1 hb3 hb1.size) (ho3.mono hb1.size)
      · have hdy := Hd.i (decide_eq_false hy)
        have hf := Hd.i (hno.o fun h => hy h.2.2)
        replace hx := Hd.i hx
        replace hy := Hd.i hy
        replace hg := Hd.i hg
        go_enter Try.func39, Try.ntmps39
        go_wp2_with (first
          | (go_at_call 55; refine implGenSet_c (d : Int) _ _ _ xss _ hm ?_; intro w1 hb1; rw [hdec.o])
          | (go_at_call_of 64 (Value.int .i64 x); refine implPointD_c d x _ h1 h2 ?_; rw [hdx.o])
          | (go_at_call 64; refine implPointD_c d y _ h1 h2 ?_; rw [hdy.o]))
        exact hf.o _ _ _ [] _ hb1 (OwnH.nil _ _)
    · have hdx := Hd.i (decide_eq_false hx)
      have hf := Hd.i (hno.o fun h => hx h.2.1)
      replace hx := Hd.i hx
      replace hg := Hd.i hg
      go_enter Try.func39, Try.ntmps39
      go_wp2_with (first
        | (go_at_call 55; refine implGenSet_c (d : Int) _ _ _ xss _ hm ?_; intro w1 hb1; rw [hdec.o])
        | (go_at_call 64; refine implPointD_c d x _ h1 h2 ?_; rw [hdx.o]))
      exact hf.o _ _ _ [] _ hb1 (OwnH.nil _ _)
  · have hdec := Hd.i (decide_eq_false hg)
    have hf := Hd.i (hno.o fun h => hg h.1)
    replace hg := Hd.i hg
    go_enter Try.func39, Try.ntmps39
    go_wp2_with (go_at_call 55; refine implGenSet_c z _ _ _ xss _ hm ?_; intro w1 hb1; rw [hdec.o])
    exact hf.o _ _ _ [] _ hb1 (OwnH.nil _ _)
end Go.Proofs.Ytiekjklhojmnoaa
