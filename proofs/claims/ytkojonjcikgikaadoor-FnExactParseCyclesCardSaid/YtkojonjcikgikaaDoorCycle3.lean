/- allCycles, Cycles. -/
import Derived.Test.YtkojonjcikgikaaDoorCycle2
namespace Go.Proofs.YtkojonjcikgikaaDoor
open Go.RowKit

/-- The cycles whose least member is below k. -/
noncomputable def allCTo (p : List Int) (k : Nat) : List (List Int) := ((idl k).filter fun x => decide (Lead p x)).map (cyc p)
theorem allCTo_succ (p : List Int) (k : Nat) : allCTo p (k + 1) = allCTo p k ++ (if Lead p k then [cyc p k] else []) := by
  unfold allCTo
  rw [idl_succ, List.filter_append, List.map_append]
  congr 1
  by_cases h1 : Lead p k <;> simp [h1]
theorem allCTo_le (p : List Int) (k : Nat) : (allCTo p k).length ≤ k := by
  unfold allCTo
  rw [List.length_map]
  refine Nat.le_trans (List.length_filter_le _ _) ?_
  rw [idl_length]; exact Nat.le_refl _

set_option maxHeartbeats 1000000 in
theorem allCycles_c {R : Ending → World → Prop} (a : Option Addr) (n cap : Nat) (p : List Int) (w : World) (h : Ints w a n p) (hp : Hd (IsPerm p)) (H : MakesR R w (allC p)) :
    Calls Tryd.prog 50 #[.slice a n cap] w R := by
  have H' := Hd.i H; clear H
  have hln := Hd.i h.length
  have hn : n ≤ 20 := by have := hp.o.2.1; have := hln.o; omega
  go_enter Tryd.func50, Tryd.ntmps50
  go_wp2
  go_loopw [3, 4] (fun v i wr => ∃ (k : Nat) (c : Option Addr) (m capc : Nat) (hs : List Hdr), k ≤ n ∧ i = .int .i64 k ∧ v = .slice c m capc ∧ OwnH wr w.heap.size c m capc hs (allCTo p k) ∧ Below w.heap.size w wr) (fun _ i _ => n - (intOf i).toNat)
  case atStart => exact ⟨0, _, 0, 0, [], Nat.zero_le _, rfl, rfl, OwnH.emptyLit w (Nat.le_refl _), (Below.refl _ _).alloc (Nat.le_refl _) _⟩
  case round =>
    obtain ⟨k, c, m, capc, hs, hk, rfl, rfl, ho, hb⟩ := hrel
    by_cases hlt : k < n
    · have hkr := Hd.i (show 0 ≤ (k : Int) ∧ (k : Int) < p.length by have := hln.o; omega)
      have hmk : m ≤ k := by have := ho.length; have := allCTo_le p k; omega
      have c1' : (m + 1) * 24 ≤ 140737488355328 := by omega
      have c2' : m + 1 ≤ 281474976710656 := by omega
      have hs0 := hb.size
      go_wp2_with fail
      refine cycleOf_c _ _ _ p _ _ (h.up hb) hp (by omega) (by omega) ?_
      intro b1 m1 d1 w1 hb1 ho1
      have hm1 : 1 ≤ m1 := by rw [← ho1.length, cyc_length]; exact (per_spec hp.o hkr.o).1
      by_cases hL : Lead p k
      · have hdec := Hd.i (decide_eq_true ((first_cyc hp.o hkr.o).2 hL))
        have el := Hd.i (show allCTo p (k + 1) = allCTo p k ++ [cyc p k] by rw [allCTo_succ, if_pos hL])
        go_wp2_with fail
        refine isSmallest_c _ _ _ (cyc p k) _ ho1.ints hm1 ?_
        intro w2 hd2
        rw [hdec.o]
        have hb12 := hd2.up hb1
        have ho12 := hd2.ownI ho1
        have hs1 : w.heap.size ≤ w2.heap.size := Nat.le_trans hs0 hb12.size
        have hown := ho.1.up hb12
        have hbw := below_ups hb hb12 hs0
        clear hb1 ho1
        go_wp2_with (at_builtin; refine appendL_c rfl _ _ _ rfl w.heap.size 22 (.slice none 0 0) 24 Tryd.underlying46 infoSl rfl _ _ _ _ rfl hown [.slice b1 m1 d1] 1 rfl rfl oneSlice c1' c2' hs1 ?_; intro a2 n2 cap2 w3 hn2 ho2 hg2 ha2)
        refine ⟨⟨k + 1, a2, n2, cap2, hs ++ [(b1, m1, d1)], by omega, by go_num, rfl, ?_, ho.grewBelow hg2 hbw hs1⟩, by simp [intOf]; omega⟩
        rw [el.o]
        exact ho.snoc hb12 ho12 hs0 hg2 ho2 ha2.o
      · have hdec := Hd.i (decide_eq_false (fun e => hL ((first_cyc hp.o hkr.o).1 e)))
        have el := Hd.i (show allCTo p (k + 1) = allCTo p k by rw [allCTo_succ, if_neg hL, List.append_nil])
        go_wp2_with fail
        refine isSmallest_c _ _ _ (cyc p k) _ ho1.ints hm1 ?_
        intro w2 hd2
        rw [hdec.o]
        have hb12 := hd2.up hb1
        have hbw := below_ups hb hb12 hs0
        go_wp2_with fail
        exact ⟨⟨k + 1, c, m, capc, hs, by omega, by go_num, rfl, by rw [el.o]; exact ho.up hb12, hbw⟩, by simp [intOf]; omega⟩
    · obtain rfl : k = n := by omega
      go_wp2
      have e : allCTo p k = allC p := by rw [← hln.o]; rfl
      rw [e] at ho
      exact H'.o _ _ _ _ _ hb ho

theorem pCycles_cells (p : List Int) : cells (pCycles p) ≤ 400 := by
  unfold pCycles
  split
  · rename_i hp
    have h1 : ∀ c ∈ longC p, c.length ≤ 20 := by
      intro c hc
      have hc := (List.mem_filter.1 hc).1
      simp only [allC, List.mem_map, List.mem_filter] at hc
      obtain ⟨x, ⟨hx, _⟩, rfl⟩ := hc
      rw [cyc_length]
      have := (per_spec hp (mem_idl.1 hx)).2.1
      have := hp.2.1
      omega
    have h2 : (longC p).length ≤ 20 := by
      rw [← longTo_full]
      have := longTo_le p p.length
      have := hp.2.1
      omega
    have h3 : ∀ l : List (List Int), (∀ c ∈ l, c.length ≤ 20) → cells l ≤ 20 * l.length := by
      intro l
      induction l with
      | nil => simp [cells]
      | cons x t ih =>
        intro hl
        have h1 := hl x List.mem_cons_self
        have h2 := ih fun y hy => hl y (List.mem_cons_of_mem _ hy)
        unfold cells at *
        simp only [List.map_cons, List.sum_cons, List.length_cons]
        omega
    have := h3 _ h1
    omega
  · simp [cells]

set_option maxHeartbeats 1000000 in
theorem topSpecCycles {R : Ending → World → Prop} {B : Nat} (a : Option Addr) (n cap : Nat) (p : List Int) (w : World) (h : OwnI w B a n cap p) (H : MakesR R w (pCycles p)) :
    Calls Tryd.prog 37 #[.slice a n cap] w R := by
  have H' := Hd.i H; clear H
  by_cases hp : IsPerm p
  · have e := Hd.i (show pCycles p = longC p by simp [pCycles, hp])
    have hdec := Hd.i (decide_eq_true hp)
    have hal := Hd.i (show (allC p).length ≤ 20 from Nat.le_trans (show (allC p).length ≤ p.length from allCTo_le p p.length) hp.2.1)
    replace hp := Hd.i hp
    have hb0 := (Below.refl w.heap.size w).alloc (Nat.le_refl _) (.cells #[] 22)
    have ho0 := OwnH.emptyLit w (B := w.heap.size) (Nat.le_refl _)
    go_enter Tryd.func37, Tryd.ntmps37
    go_wp2_with fail
    refine specIsPerm_c _ _ _ p _ (h.ints.up hb0) h.cap ?_
    intro w1 hd1
    rw [hdec.o]
    have hb1 := hd1.up hb0
    have ho1 := hd1.ownR ho0
    go_wp2_with fail
    refine allCycles_c _ _ _ p _ (h.ints.up hb1) hp ?_
    intro a2 n2 c2 hs w2 hb2 ho2
    have ho3 := ho1.up hb2
    have hap : Apart (some (⟨w.heap.size, 0, none⟩ : Addr)) a2 := by
      intro b off s off' s' e1 e2
      have := (ho2.1.lt e2).1
      have := (ho1.1.lt e1).2
      omega
    have hap2 : ∀ x ∈ hs, Apart x.1 (some (⟨w.heap.size, 0, none⟩ : Addr)) := by
      intro x hx b off s off' s' e1 e2
      have := ho2.fp_ge b ⟨x, hx, off, s, e1⟩
      have := (ho1.1.lt e2).2
      omega
    replace ho2 := ho2.mono hb1.size
    replace hb1 := below_ups hb1 hb2 hb1.size
    have hn2 := Hd.i ho2.length
    have hle2 := ho2.le
    have hn3 : n2 ≤ 20 := by have := hal.o; have := hn2.o; omega
    clear hb2 ho1 ho0 hb0
    replace hap := Hd.i hap
    replace hap2 := Hd.i hap2
    go_wp2
    go_loopw [3, 5] (fun v i wr => ∃ (k : Nat) (c : Option Addr) (m capc : Nat) (hsk : List Hdr), k ≤ n2 ∧ i = .int .i64 k ∧ v = .slice c m capc ∧ OwnH wr w.heap.size c m capc hsk (((allC p).take k).filter fun c => decide (1 < c.length)) ∧
        OwnH wr w.heap.size a2 n2 c2 hs (allC p) ∧ Hd (∀ x ∈ hsk, ∃ j, j < k ∧ hs[j]? = some x) ∧ Hd (Apart c a2) ∧ Hd (∀ x ∈ hs, Apart x.1 c) ∧ Below w.heap.size w wr) (fun _ i _ => n2 - (intOf i).toNat)
    case atStart => exact ⟨0, _, 0, 0, [], Nat.zero_le _, rfl, rfl, ho3, ho2, by simp [Hd], hap, hap2, hb1⟩
    case round =>
      obtain ⟨k, c, m, capc, hsk, hk, rfl, rfl, hok, hoa, hsub, hac, hxc, hb⟩ := hrel
      by_cases hlt : k < n2
      · obtain ⟨b, a', n', c', ys, rfl, hbB, hbl, hcell, hhk, hyk, hrow⟩ := hoa.head hlt
        have hyl := Hd.i hrow.length
        have hrl := hrow.le
        by_cases hlong : 1 < n'
        · have el := Hd.i (show ((allC p).take (k + 1)).filter (fun c => decide (1 < c.length)) = ((allC p).take k).filter (fun c => decide (1 < c.length)) ++ [ys] by
            rw [take_succ_some hyk.o, List.filter_append]; simp [hyl.o, hlong])
          have hmk : m ≤ k := by have h1 := hok.length; have h2 := List.length_filter_le (fun c => decide (1 < c.length)) ((allC p).take k); rw [List.length_take] at h2; omega
          have c1' : (m + 1) * 24 ≤ 140737488355328 := by omega
          have c2' : m + 1 ≤ 281474976710656 := by omega
          have hs1 := hb.size
          go_wp2_with (at_builtin; refine appendL_c rfl _ _ _ rfl w.heap.size 22 (.slice none 0 0) 24 Tryd.underlying46 infoSl rfl _ _ _ _ rfl hok.1 [.slice a' n' c'] 1 rfl rfl oneSlice c1' c2' hs1 ?_; intro a3 n3 cap3 w3 hn3 ho4 hg3 ha3)
          have hx' := hxc.o (a', n', c') (List.mem_of_getElem? hhk.o)
          have hpush := hok.push (x := (a', n', c')) hrow hx' (fun y hy => by
            obtain ⟨j, hj, ej⟩ := hsub.o y hy
            exact pair_lt hoa.2.two hj ej hhk.o) hg3 ho4 ha3.o
          have hoa' := hoa.grew hg3 hac.o.symm hxc.o
          refine ⟨⟨k + 1, a3, n3, cap3, hsk ++ [(a', n', c')], by omega, by go_num, rfl, by rw [el.o]; exact hpush, hoa', ?_, ?_, ?_, hok.grewBelow hg3 hb hs1⟩, by simp [intOf]; omega⟩
          · intro x hx
            rcases List.mem_append.1 hx with hx | hx
            · obtain ⟨j, hj, ej⟩ := hsub.o x hx
              exact ⟨j, by omega, ej⟩
            · obtain rfl := List.mem_singleton.1 hx
              exact ⟨k, by omega, hhk.o⟩
          · exact (Apart.grown hac.o.symm hoa.1.abelow ha3.o).symm
          · intro x hx
            obtain ⟨xs, hr⟩ := hoa.2.at hx
            exact Apart.grown (hxc.o x hx) hr.abelow ha3.o
        · have el := Hd.i (show ((allC p).take (k + 1)).filter (fun c => decide (1 < c.length)) = ((allC p).take k).filter (fun c => decide (1 < c.length)) by
            rw [take_succ_some hyk.o, List.filter_append]; simp [hyl.o, hlong])
          go_wp2
          exact ⟨⟨k + 1, c, m, capc, hsk, by omega, by go_num, rfl, by rw [el.o]; exact hok, hoa, fun x hx => by obtain ⟨j, hj, ej⟩ := hsub.o x hx; exact ⟨j, by omega, ej⟩, hac, hxc, hb⟩, by simp [intOf]; omega⟩
      · obtain rfl : k = n2 := by omega
        go_wp2
        rw [List.take_of_length_le (by have := hn2.o; omega)] at hok
        exact H'.o _ _ _ _ _ hb (by rw [e.o]; exact hok)
  · have e := Hd.i (show pCycles p = [] by simp [pCycles, hp])
    have hdec := Hd.i (decide_eq_false hp)
    have hb0 := (Below.refl w.heap.size w).alloc (Nat.le_refl _) (.cells #[] 22)
    have ho0 := OwnH.emptyLit w (B := w.heap.size) (Nat.le_refl _)
    go_enter Tryd.func37, Tryd.ntmps37
    go_wp2_with fail
    refine specIsPerm_c _ _ _ p _ (h.ints.up hb0) h.cap ?_
    intro w1 hd1
    rw [hdec.o]
    go_wp2_with fail
    exact H'.o _ _ _ [] _ (hd1.up hb0) (by rw [e.o]; exact hd1.ownR ho0)
end Go.Proofs.YtkojonjcikgikaaDoor
