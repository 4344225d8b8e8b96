/- allCycles, Cycles. -/
import Derived.Test.YtkojonjcikgikaaCycle2
namespace Go.Proofs.Ytkojonjcikgikaa
open Go.RowKit

/-- The cycles whose least member is below k. -/
noncomputable def allCTo (p : List Int) (k : Nat) : List (List Int) := ((idl k).filter fun x => decide (Lead p x)).map (cyc p)
theorem allCTo_succ (p : List Int) (k : Nat) : allCTo p (k + 1) = allCTo p k ++ (if Lead p k then [cyc p k] else []) := by
  unfold allCTo
  rw [idl_succ, List.filter_append, List.map_append]
  congr 1
  by_cases h1 : Lead p k <;> simp [h1]
theorem allCTo_le (p : List Int) (k : Nat) : (allCTo p k).length ≤ k := by
  unfold allCTo
  rw [List.length_map]
  refine Nat.le_trans (List.length_filter_le _ _) ?_
  rw [idl_length]; exact Nat.le_refl _

set_option maxHeartbeats 1000000 in
theorem allCycles_c {R : Ending → World → Prop} (a : Option Addr) (n cap : Nat) (p : List Int) (w : World) (h : Ints w a n p) (hp : Hd (IsPerm p)) (H : MakesR R w (allC p)) :
    Calls Try.prog 44 #[.slice a n cap] w R := by
  have H' := Hd.i H; clear H
  have hln := Hd.i h.length
  have hn : n ≤ 20 := by have := hp.o.2.1; have := hln.o; omega
  go_enter Try.func44, Try.ntmps44
  go_wp2
  go_loopw [3, 4] (fun v i wr => ∃ (k : Nat) (c : Option Addr) (m capc : Nat) (hs : List Hdr), k ≤ n ∧ i = .int .i64 k ∧ v = .slice c m capc ∧ OwnH wr w.heap.size c m capc hs (allCTo p k) ∧ Below w.heap.size w wr) (fun _ i _ => n - (intOf i).toNat)
  case atStart => exact ⟨0, _, 0, 0, [], Nat.zero_le _, rfl, rfl, OwnH.emptyLit w (Nat.le_refl _), (Below.refl _ _).alloc (Nat.le_refl _) _⟩
  case round =>
    obtain ⟨k, c, m, capc, hs, hk, rfl, rfl, ho, hb⟩ := hrel
    by_cases hlt : k < n
    · have hkr := Hd.i (show 0 ≤ (k : Int) ∧ (k : Int) < p.length by have := hln.o; omega)
      have hmk : m ≤ k := by have := ho.length; have := allCTo_le p k; omega
      have c1' : (m + 1) * 24 ≤ 140737488355328 := by omega
      have c2' : m + 1 ≤ 281474976710656 := by omega
      have hs0 := hb.size
      go_wp2_with fail
      refine cycleOf_c _ _ _ p _ _ (h.up hb) hp (by omega) (by omega) ?_
      intro b1 m1 d1 w1 hb1 ho1
      have hm1 : 1 ≤ m1 := by rw [← ho1.length, cyc_length]; exact (per_spec hp.o hkr.o).1
      by_cases hL : Lead p k
      · have hdec := Hd.i (decide_eq_true ((first_cyc hp.o hkr.o).2 hL))
        have el := Hd.i (show allCTo p (k + 1) = allCTo p k ++ [cyc p k] by rw [allCTo_succ, if_pos hL])
        go_wp2_with fail
        refine isSmallest_c _ _ _ (cyc p k) _ ho1.ints hm1 ?_
        intro w2 hd2
        rw [hdec.o]
        have hb12 := hd2.up hb1
        have ho12 := hd2.ownI ho1
        have hs1 : w.heap.size ≤ w2.heap.size := Nat.le_trans hs0 hb12.size
        have hown := ho.1.up hb12
        have hbw := below_ups hb hb12 hs0
        clear hb1 ho1
        go_wp2_with (at_builtin; refine appendL_c rfl _ _ _ rfl w.heap.size 22 (.slice none 0 0) 24 Try.underlying36 infoSl rfl _ _ _ _ rfl hown [.slice b1 m1 d1] 1 rfl rfl oneSlice c1' c2' hs1 ?_; intro a2 n2 cap2 w3 hn2 ho2 hg2 ha2)
        refine ⟨⟨k + 1, a2, n2, cap2, hs ++ [(b1, m1, d1)], by omega, by go_num, rfl, ?_, ho.grewBelow hg2 hbw hs1⟩, by simp [intOf]; omega⟩
        rw [el.o]
        exact ho.snoc hb12 ho12 hs0 hg2 ho2 ha2.o
      · have hdec := Hd.i (decide_eq_false (fun e => hL ((first_cyc hp.o hkr.o).1 e)))
        have el := Hd.i (show allCTo p (k + 1) = allCTo p k by rw [allCTo_succ, if_neg hL, List.append_nil])
        go_wp2_with fail
        refine isSmallest_c _ _ _ (cyc p k) _ ho1.ints hm1 ?_
        intro w2 hd2
        rw [hdec.o]
        have hb12 := hd2.up hb1
        have hbw := below_ups hb hb12 hs0
        go_wp2_with fail
        exact ⟨⟨k + 1, c, m, capc, hs, by omega, by go_num, rfl, by rw [el.o]; exact ho.up hb12, hbw⟩, by simp [intOf]; omega⟩
    · obtain rfl : k = n := by omega
      go_wp2
      have e : allCTo p k = allC p := by rw [← hln.o]; rfl
      rw [e] at ho
      exact H'.o _ _ _ _ _ hb ho

theorem pCycles_cells (p : List Int) : cells (pCycles p) ≤ 400 := by
  unfold pCycles
  split
  · rename_i hp
    have h1 : ∀ c ∈ longC p, c.length ≤ 20 := by
      intro c hc
      have hc := (List.mem_filter.1 hc).1
      simp only [allC, List.mem_map, List.mem_filter] at hc
      obtain ⟨x, ⟨hx, _⟩, rfl⟩ := hc
      rw [cyc_length]
      have := (per_spec hp (mem_idl.1 hx)).2.1
      have := hp.2.1
      omega
    have h2 : (longC p).length ≤ 20 := by
      rw [← longTo_full]
      have := longTo_le p p.length
      have := hp.2.1
      omega
    have h3 : ∀ l : List (List Int), (∀ c ∈ l, c.length ≤ 20) → cells l ≤ 20 * l.length := by
      intro l
      induction l with
      | nil => simp [cells]
      | cons x t ih =>
        intro hl
        have h1 := hl x List.mem_cons_self
        have h2 := ih fun y hy => hl y (List.mem_cons_of_mem _ hy)
        unfold cells at *
        simp only [List.map_cons, List.sum_cons, List.length_cons]
        omega
    have := h3 _ h1
    omega
  · simp [cells]

theorem topImplCycles {R : Ending → World → Prop} {B : Nat} (a : Option Addr) (n cap : Nat) (p : List Int) (w : World) (h : OwnI w B a n cap p) (H : MakesR R w (pCycles p)) :
    Calls Try.prog 26 #[.slice a n cap] w R := by
  have H' := Hd.i H; clear H
  by_cases hp : IsPerm p
  · have e := Hd.i (show pCycles p = longC p by simp [pCycles, hp])
    have hdec := Hd.i (decide_eq_true hp)
    replace hp := Hd.i hp
    go_enter Try.func26, Try.ntmps26
    go_wp2_with (first | (go_at_call 45; refine implIsPerm_c _ _ _ p _ h.ints ?_; rw [hdec.o]) | (go_at_call 51; refine implCycles_c _ _ _ p _ h.ints hp ?_; intro a2 n2 c2 g2 w2 hb2 ho2))
    exact H'.o _ _ _ _ _ hb2 (by rw [e.o]; exact ho2)
  · have e := Hd.i (show pCycles p = [] by simp [pCycles, hp])
    have hdec := Hd.i (decide_eq_false hp)
    go_enter Try.func26, Try.ntmps26
    go_wp2_with (first | (go_at_call 45; refine implIsPerm_c _ _ _ p _ h.ints ?_; rw [hdec.o]))
    exact H'.o _ _ _ [] _ (Below.refl _ _) (by rw [e.o]; exact OwnH.nil _ _)

end Go.Proofs.Ytkojonjcikgikaa
