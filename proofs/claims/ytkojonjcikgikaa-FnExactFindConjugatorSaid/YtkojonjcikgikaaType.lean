/- Cycle types. -/
import Derived.Test.YtkojonjcikgikaaSup
import Derived.Test.YtkojonjcikgikaaConj
import Derived.Test.YtkojonjcikgikaaPut
import Derived.Test.YtkojonjcikgikaaAbel
namespace Go.Proofs.Ytkojonjcikgikaa
open Go.RowKit

theorem longTake_sum {p : List Int} (k : Nat) : (((longC p).take k).map List.length).sum ≤ longSum p := by
  have h : ((longC p).map List.length).sum = (((longC p).take k).map List.length).sum + (((longC p).drop k).map List.length).sum := by
    rw [← List.sum_append, ← List.map_append, List.take_append_drop]
  unfold longSum
  omega
theorem lens_length (l : List (List Int)) : (lens l).length = l.length := by simp [lens]
theorem longC_le {p : List Int} (hp : IsPerm p) : (longC p).length ≤ 20 := by
  rw [← longTo_full]
  have := longTo_le p p.length
  have := hp.2.1
  omega

set_option maxHeartbeats 1000000 in
set_option maxRecDepth 100000 in
theorem implCycleType_c {R : Ending → World → Prop} (a : Option Addr) (n cap : Nat) (p : List Int) (w : World) (h : Ints w a n p) (hp : Hd (IsPerm p)) (H : MakesI R w (ctype p)) :
    Calls Try.prog 46 #[.slice a n cap] w R := by
  have H' := Hd.i H; clear H
  have hln := Hd.i h.length
  have hn : n ≤ 20 := by have := hp.o.2.1; have := hln.o; omega
  have hsum := (longSum_le hp.o).1
  have hsumn : longSum p ≤ n := by have := hln.o; omega
  replace hsum := Hd.i hsum
  go_enter Try.func46, Try.ntmps46
  go_wp2_with (first | (go_at_call 39; refine length_c _ _ _ _ ?_) | (go_at_call 51; refine implCycles_c _ _ _ p _ h hp ?_; intro b1 m1 d1 hs w1 hb1 ho1))
  have hml := Hd.i ho1.length
  have hm20 : m1 ≤ 20 := by have := longC_le hp.o; have := hml.o; omega
  have hs0 := hb1.size
  go_loopw [3, 4, 12] (fun v f i wr => ∃ (k : Nat) (c : Option Addr) (m capc s : Nat), k ≤ m1 ∧ i = .int .i64 k ∧ f = .int .i64 s ∧ v = .slice c m capc ∧ Hd (s = n - (((longC p).take k).map List.length).sum) ∧ OwnI wr w1.heap.size c m capc (lens ((longC p).take k)) ∧ Below w1.heap.size w1 wr) (fun _ _ i _ => m1 - (intOf i).toNat)
  case atStart => exact ⟨0, _, 0, 0, n, Nat.zero_le _, rfl, rfl, rfl, by simp [Hd], OwnI.nil _ _, Below.refl _ _⟩
  case round =>
    obtain ⟨k, c, m, capc, s, hk, rfl, rfl, rfl, hse, ho, hb⟩ := hrel
    by_cases hlt : k < m1
    · have ho1' := ho1.up hb
      obtain ⟨b, off, a', n', c', ys, rfl, hbl, hcell, hyk, hin, _⟩ := ho1'.rows.at hlt
      have hyl := Hd.i hin.length
      have hmk : m ≤ k := by have := ho.length; rw [lens_length, List.length_take] at this; omega
      have c1 : (m + 1) * 8 ≤ 140737488355328 := by omega
      have c2 : m + 1 ≤ 281474976710656 := by omega
      have hs1 := hb.size
      have hys := Hd.i (longC_len hp.o (List.mem_of_getElem? hyk.o))
      have hn' : n' ≤ 20 := by have := hys.o.2; have := hyl.o; omega
      have hsn := Hd.i (show n' + (((longC p).take k).map List.length).sum = (((longC p).take (k + 1)).map List.length).sum by
        rw [take_succ_some hyk.o, List.map_append, List.sum_append]; have := hyl.o; simp; omega)
      have hle : n' ≤ s := by have h1 := longTake_sum (p := p) (k + 1); rw [← hsn.o] at h1; have := hse.o; omega
      have hsb : s ≤ 20 := by have := hse.o; omega
      have hq := Hd.i (IntWalk.wrap64_in ((s : Int) - (n' : Int)) (by omega))
      go_wp2_with (first | (go_at_call 39; refine length_c _ _ _ _ ?_) | (at_builtin; refine appendL_c rfl _ _ _ rfl w1.heap.size 2 (.int .i64 0) 8 Try.underlying22 infoInt rfl _ _ _ _ rfl ho.1 [.int .i64 (n' : Int)] 1 rfl rfl oneInt c1 c2 hs1 ?_; intro a2 n2 cap2 w2 hn2 ho2 hg2 ha2))
      refine ⟨⟨k + 1, a2, n2, cap2, s - n', by omega, by go_num, by go_num, rfl, ?_, ?_, ho.grewBelow hg2 hb hs1⟩, by simp [intOf]; omega⟩
      · show _ = _
        rw [← hsn.o, hse.o]; omega
      · rw [take_succ_some hyk.o, lens_snoc, hyl.o]
        exact OwnI.snoc ho2 ho.2 (by omega) (by omega)
    · obtain rfl : k = m1 := by omega
      have e1 : (longC p).take k = longC p := List.take_of_length_le (by have := hml.o; omega)
      rw [e1] at ho
      have hse' := Hd.i (show s = n - longSum p by rw [hse.o, e1]; rfl)
      have hmb : m ≤ 20 := by have := ho.length; rw [lens_length] at this; have := hml.o; omega
      have hmb' := Hd.i hmb
      clear hse e1
      go_wp2
      go_loopw [3, 4] (fun v f wr' => ∃ (j : Nat) (c : Option Addr) (m capc : Nat), j ≤ s ∧ f = .int .i64 ((s : Int) - j) ∧ v = .slice c m capc ∧ OwnI wr' w1.heap.size c m capc (lens (longC p) ++ List.replicate j 1) ∧ Below w1.heap.size w1 wr') (fun _ f _ => (intOf f).toNat)
      case atStart => exact ⟨0, c, m, capc, Nat.zero_le _, by simp, rfl, by simpa using ho, hb⟩
      case round =>
        obtain ⟨j, c, m, capc, hj, rfl, rfl, ho, hb⟩ := hrel
        have hsb : s ≤ 20 := by have := hse'.o; omega
        have hmj := Hd.i (show m = (longC p).length + j by have := ho.length; rw [List.length_append, lens_length, List.length_replicate] at this; omega)
        have hll := Hd.i (longC_le hp.o)
        by_cases hlt : j < s
        · have c1 : (m + 1) * 8 ≤ 140737488355328 := by have := hmj.o; have := hll.o; omega
          have c2 : m + 1 ≤ 281474976710656 := by omega
          have hs1 := hb.size
          have ht : decide ((s : Int) - (j : Int) > 0) = true := decide_eq_true (by omega)
          go_wp2_with (at_builtin; refine appendL_c rfl _ _ _ rfl w1.heap.size 2 (.int .i64 0) 8 Try.underlying22 infoInt rfl _ _ _ _ rfl ho.1 [.int .i64 1] 1 rfl rfl oneInt c1 c2 hs1 ?_; intro a2 n2 cap2 w2 hn2 ho2 hg2 ha2)
          refine ⟨⟨j + 1, a2, n2, cap2, by omega, by go_num, rfl, ?_, ho.grewBelow hg2 hb hs1⟩, by simp [intOf]; omega⟩
          rw [← replicate_snoc, ← List.append_assoc]
          exact OwnI.snoc ho2 ho.2 (by omega) (by omega)
        · obtain rfl : j = s := by omega
          have hs1 := hb.size
          have hmm : m ≤ 1000000 := by have := hmj.o; have := hll.o; omega
          go_wp2_with (first | (go_at_call 49; refine sort_c _ _ _ _ _ ho hmm ?_; intro w2 hg2 ho2; have hb2 := ho.grewBelow hg2 hb hs1; have hs2 := hb2.size) | (go_at_call 65; refine reverse_c _ _ _ _ _ ho2 hmm ?_; intro w3 hg3 ho3))
          have hb3 := ho2.grewBelow hg3 hb2 hs2
          have e2 : (asc (lens (longC p) ++ List.replicate j 1)).reverse = ctype p := by rw [hse'.o, ← hln.o]; exact ctype_prog hp.o
          rw [e2] at ho3
          exact H'.o _ _ _ _ (below_ups hb1 hb3 hs0) (ho3.mono hs0)

set_option maxHeartbeats 1000000 in
theorem topImplCycleType {R : Ending → World → Prop} {B : Nat} (a : Option Addr) (n cap : Nat) (p : List Int) (w : World) (h : OwnI w B a n cap p) (H : MakesI R w (pCycleType p)) :
    Calls Try.prog 16 #[.slice a n cap] w R := by
  have H' := Hd.i H; clear H
  by_cases hp : IsPerm p
  · have e := Hd.i (show pCycleType p = ctype p by simp [pCycleType, hp])
    have hdec := Hd.i (decide_eq_true hp)
    replace hp := Hd.i hp
    go_enter Try.func16, Try.ntmps16
    go_wp2_with (first | (go_at_call 45; refine implIsPerm_c _ _ _ p _ h.ints ?_; rw [hdec.o]) | (go_at_call 46; refine implCycleType_c _ _ _ p _ h.ints hp ?_; intro a2 n2 c2 w2 hb2 ho2))
    exact H'.o _ _ _ _ hb2 (by rw [e.o]; exact ho2)
  · have e := Hd.i (show pCycleType p = [] by simp [pCycleType, hp])
    have hdec := Hd.i (decide_eq_false hp)
    go_enter Try.func16, Try.ntmps16
    go_wp2_with (first | (go_at_call 45; refine implIsPerm_c _ _ _ p _ h.ints ?_; rw [hdec.o]))
    exact H'.o _ _ _ _ (Below.refl _ _) (by rw [e.o]; exact OwnI.nil _ _)

set_option maxHeartbeats 2000000 in
set_option maxRecDepth 100000 in
theorem specCycleType_c {R : Ending → World → Prop} (a : Option Addr) (n cap : Nat) (p : List Int) (w : World) (h : Ints w a n p) (hcap : n ≤ cap) (H : MakesI R w (pCycleType p)) :
    Calls Try.prog 15 #[.slice a n cap] w R := by
  have H' := Hd.i H; clear H
  have hln := Hd.i h.length
  by_cases hp : IsPerm p
  · have e := Hd.i (show pCycleType p = ctype p by simp [pCycleType, hp])
    have hdec := Hd.i (decide_eq_true hp)
    have hal := Hd.i (show (allC p).length ≤ 20 from Nat.le_trans (show (allC p).length ≤ p.length from allCTo_le p p.length) hp.2.1)
    have hn : n ≤ 20 := by have := hp.2.1; have := hln.o; omega
    replace hp := Hd.i hp
    have hb0 := (Below.refl w.heap.size w).alloc (Nat.le_refl _) (.cells #[] 2)
    have ho0 := OwnI.emptyLit w (B := w.heap.size) (Nat.le_refl _)
    go_enter Try.func15, Try.ntmps15
    go_wp2_with fail
    refine specIsPerm_c _ _ _ p _ (h.up hb0) hcap ?_
    intro w1 hd1
    rw [hdec.o]
    have hb1 := hd1.up hb0
    have ho1 := hd1.ownI ho0
    go_wp2_with fail
    refine allCycles_c _ _ _ p _ (h.up hb1) hp ?_
    intro a2 n2 c2 hs w2 hb2 ho2
    have ho3 := ho1.up hb2
    have hap : Apart (some (⟨w.heap.size, 0, none⟩ : Addr)) a2 := by
      intro b off s off' s' e1 e2
      have := (ho2.1.lt e2).1
      have := (ho1.1.lt e1).2
      omega
    have hap2 : ∀ x ∈ hs, Apart x.1 (some (⟨w.heap.size, 0, none⟩ : Addr)) := by
      intro x hx b off s off' s' e1 e2
      have := ho2.fp_ge b ⟨x, hx, off, s, e1⟩
      have := (ho1.1.lt e2).2
      omega
    replace ho2 := ho2.mono hb1.size
    replace hb1 := below_ups hb1 hb2 hb1.size
    have hn2 := Hd.i ho2.length
    have hn3 : n2 ≤ 20 := by have := hal.o; have := hn2.o; omega
    clear hb2 ho1 ho0 hb0
    replace hap := Hd.i hap
    replace hap2 := Hd.i hap2
    go_wp2
    go_loopw [3, 5] (fun v t wo => ∃ (j : Nat) (c : Option Addr) (m capc : Nat), j ≤ n ∧ t = .int .i64 ((n : Int) - j) ∧ v = .slice c m capc ∧ OwnI wo w.heap.size c m capc (dsc (allC p) n j) ∧
        OwnH wo w.heap.size a2 n2 c2 hs (allC p) ∧ Hd (Apart c a2) ∧ Hd (∀ x ∈ hs, Apart x.1 c) ∧ Below w.heap.size w wo) (fun _ t _ => (intOf t).toNat)
    case atStart => exact ⟨0, _, 0, 0, Nat.zero_le _, by simp, rfl, ho3, ho2, hap, hap2, hb1⟩
    case round =>
      obtain ⟨j, c, m, capc, hj, rfl, rfl, ho, hoa, hac, hxc, hb⟩ := hrel
      by_cases hlt : j < n
      · have ht : decide ((n : Int) - (j : Int) > 0) = true := decide_eq_true (by omega)
        obtain ⟨wo, rfl⟩ : ∃ wo, wo = wr := ⟨wr, rfl⟩
        go_wp2
        go_loopw [3, 6] (fun v i wi => ∃ (k : Nat) (c : Option Addr) (m capc : Nat), k ≤ n2 ∧ i = .int .i64 k ∧ v = .slice c m capc ∧ OwnI wi w.heap.size c m capc (dsc (allC p) n j ++ lens (((allC p).take k).filter fun c => decide (c.length = n - j))) ∧
            OwnH wi w.heap.size a2 n2 c2 hs (allC p) ∧ Hd (Apart c a2) ∧ Hd (∀ x ∈ hs, Apart x.1 c) ∧ Below w.heap.size w wi) (fun _ i _ => n2 - (intOf i).toNat)
        case atStart => exact ⟨0, c, m, capc, Nat.zero_le _, rfl, rfl, by simpa [lens] using ho, hoa, hac, hxc, hb⟩
        case round =>
          obtain ⟨k, c, m, capc, hk, rfl, rfl, ho, hoa, hac, hxc, hb⟩ := hrel
          by_cases hlt2 : k < n2
          · obtain ⟨b, a', n', c', ys, rfl, hbB, hbl, hcell, hhk, hyk, hrow⟩ := hoa.head hlt2
            have hyl := Hd.i hrow.length
            by_cases hlen : n' = n - j
            · have el := Hd.i (show lens (((allC p).take (k + 1)).filter (fun c => decide (c.length = n - j))) = lens (((allC p).take k).filter (fun c => decide (c.length = n - j))) ++ [((n - j : Nat) : Int)] by
                rw [take_succ_some hyk.o, List.filter_append]; have := hyl.o; simp [lens, this, hlen])
              have hmb : m ≤ 40 := by
                have h1 := ho.length
                rw [List.length_append, lens_length] at h1
                have h2 := dsc_le (allC p) n j hj
                have h3 := List.length_filter_le (fun c => decide (c.length = n - j)) ((allC p).take k)
                rw [List.length_take] at h3
                have := hal.o
                omega
              have c1 : (m + 1) * 8 ≤ 140737488355328 := by omega
              have c2 : m + 1 ≤ 281474976710656 := by omega
              have hs1 := hb.size
              have ht2 : ((n' : Int) == (n : Int) - (j : Int)) = true := by rw [beq_iff_eq]; omega
              go_wp2_with (at_builtin; refine appendL_c rfl _ _ _ rfl w.heap.size 2 (.int .i64 0) 8 Try.underlying22 infoInt rfl _ _ _ _ rfl ho.1 [.int .i64 ((n : Int) - (j : Int))] 1 rfl rfl oneInt c1 c2 hs1 ?_; intro a3 n3 cap3 w3 hn3 ho4 hg3 ha3)
              have hoa' := hoa.grew hg3 hac.o.symm hxc.o
              refine ⟨⟨k + 1, a3, n3, cap3, by omega, by go_num, rfl, ?_, hoa', ?_, ?_, ho.grewBelow hg3 hb hs1⟩, by simp [intOf]; omega⟩
              · rw [el.o, ← List.append_assoc, show ((n - j : Nat) : Int) = (n : Int) - (j : Int) by omega]
                exact OwnI.snoc ho4 ho.2 (by omega) (by omega)
              · exact (Apart.grown hac.o.symm hoa.1.abelow ha3.o).symm
              · intro x hx
                obtain ⟨xs, hr⟩ := hoa.2.at hx
                exact Apart.grown (hxc.o x hx) hr.abelow ha3.o
            · have el := Hd.i (show lens (((allC p).take (k + 1)).filter (fun c => decide (c.length = n - j))) = lens (((allC p).take k).filter (fun c => decide (c.length = n - j))) by
                rw [take_succ_some hyk.o, List.filter_append]; have := hyl.o; simp [lens, this, hlen])
              have ht2 : ((n' : Int) == (n : Int) - (j : Int)) = false := by rw [beq_eq_false_iff_ne]; omega
              go_wp2
              exact ⟨⟨k + 1, c, m, capc, by omega, by go_num, rfl, by rw [el.o]; exact ho, hoa, hac, hxc, hb⟩, by simp [intOf]; omega⟩
          · obtain rfl : k = n2 := by omega
            rw [List.take_of_length_le (by have := hn2.o; omega)] at ho
            go_wp2
            exact ⟨⟨j + 1, c, m, capc, by omega, by go_num, rfl, ho, hoa, hac, hxc, hb⟩, by simp [intOf]; omega⟩
      · obtain rfl : j = n := by omega
        have ht : decide ((j : Int) - (j : Int) > 0) = false := decide_eq_false (by omega)
        go_wp2
        have e2 : dsc (allC p) j j = pCycleType p := by rw [e.o, ← ctype_dsc hp.o, hln.o]
        exact H'.o _ _ _ _ hb (by rw [← e2]; exact ho)
  · have e := Hd.i (show pCycleType p = [] by simp [pCycleType, hp])
    have hdec := Hd.i (decide_eq_false hp)
    have hb0 := (Below.refl w.heap.size w).alloc (Nat.le_refl _) (.cells #[] 2)
    have ho0 := OwnI.emptyLit w (B := w.heap.size) (Nat.le_refl _)
    go_enter Try.func15, Try.ntmps15
    go_wp2_with fail
    refine specIsPerm_c _ _ _ p _ (h.up hb0) hcap ?_
    intro w1 hd1
    rw [hdec.o]
    go_wp2
    exact H'.o _ _ _ _ (hd1.up hb0) (by rw [e.o]; exact hd1.ownI ho0)
theorem topSpecCycleType {R : Ending → World → Prop} {B : Nat} (a : Option Addr) (n cap : Nat) (p : List Int) (w : World) (h : OwnI w B a n cap p) (H : MakesI R w (pCycleType p)) :
    Calls Try.prog 15 #[.slice a n cap] w R := specCycleType_c _ _ _ _ _ h.ints h.cap H

/-- The cycle types are one. -/
noncomputable def pSameType (p q : List Int) : Bool := decide (IsPerm p ∧ IsPerm q ∧ ctype p = ctype q)
theorem perm_sum {l l' : List Int} (h : l.Perm l') : l.sum = l'.sum := by
  induction h with
  | nil => rfl
  | cons _ _ ih => simp only [List.sum_cons, ih]
  | swap _ _ _ => simp only [List.sum_cons]; omega
  | trans _ _ h1 h2 => exact h1.trans h2
theorem ctype_length {p : List Int} : (ctype p).length = (allC p).length := by unfold ctype; rw [List.length_reverse, asc_length, lens_length]
theorem ctype_sum {p : List Int} (hp : IsPerm p) : (ctype p).sum = p.length := by
  unfold ctype
  have h1 : (asc (lens (allC p))).reverse.Perm (lens (allC p)) := (List.reverse_perm _).trans (asc_perm _)
  rw [perm_sum h1]
  have hf := cyc_flatten hp
  rw [List.length_flatten] at hf
  rw [← hf]
  unfold lens
  generalize allC p = L
  induction L with
  | nil => rfl
  | cons c t ih => simp only [List.map_cons, List.sum_cons, ih]; omega
theorem same_len {p q : List Int} (hp : IsPerm p) (hq : IsPerm q) (h : ctype p = ctype q) : p.length = q.length := by
  have h1 := ctype_sum hp
  rw [h, ctype_sum hq] at h1
  omega

set_option maxHeartbeats 1000000 in
set_option maxRecDepth 100000 in
theorem topImplSameCycleType {R : Ending → World → Prop} {B B' : Nat} (a : Option Addr) (n cap : Nat) (p : List Int) (a' : Option Addr) (n' cap' : Nat) (q : List Int) (w : World) (h : OwnI w B a n cap p) (h' : OwnI w B' a' n' cap' q) (H : Gives R w (.bool (pSameType p q))) :
    Calls Try.prog 18 #[.slice a n cap, .slice a' n' cap'] w R := by
  have H' := Hd.i H; clear H
  by_cases hpq : PermPair p q
  · have hdec := Hd.i (decide_eq_true hpq)
    have hp := Hd.i hpq.2.1
    have hq := Hd.i hpq.2.2
    have e := Hd.i (show decide (ctype p = ctype q) = pSameType p q by simp [pSameType, hp.o, hq.o])
    clear hpq
    go_enter Try.func18, Try.ntmps18
    go_wp2_with (first | (go_at_call 48; refine implArePerms_c _ _ _ p _ _ _ q _ h.ints h'.ints ?_; rw [hdec.o]) | (go_at_call_of 46 (Value.slice a n cap); refine implCycleType_c _ _ _ p _ h.ints hp ?_; intro b1 m1 c1 w1 hb1 ho1) | (go_at_call 46; refine implCycleType_c _ _ _ q _ (h'.ints.up hb1) hq ?_; intro b2 m2 c2 w2 hb2 ho2; have ho1 := ho1.up hb2) | (go_at_call 40; refine slicesEqual_c _ _ _ _ _ _ _ _ _ ho1.ints ho2.ints ?_; intro w3 hd3))
    exact retB (H'.o _ (hd3.up (below_ups hb1 hb2 hb1.size))) e.o.symm
  · have hdec := Hd.i (decide_eq_false hpq)
    have e := Hd.i (show pSameType p q = false by
      unfold pSameType
      rw [decide_eq_false_iff_not]
      rintro ⟨hp, hq, hc⟩
      exact hpq ⟨same_len hp hq hc, hp, hq⟩)
    clear hpq
    go_enter Try.func18, Try.ntmps18
    go_wp2_with (first | (go_at_call 48; refine implArePerms_c _ _ _ p _ _ _ q _ h.ints h'.ints ?_; rw [hdec.o]))
    exact retB (H'.o _ (Below.refl _ _)) e.o

set_option maxHeartbeats 1000000 in
set_option maxRecDepth 100000 in
theorem topSpecSameCycleType {R : Ending → World → Prop} {B B' : Nat} (a : Option Addr) (n cap : Nat) (p : List Int) (a' : Option Addr) (n' cap' : Nat) (q : List Int) (w : World) (h : OwnI w B a n cap p) (h' : OwnI w B' a' n' cap' q) (H : Gives R w (.bool (pSameType p q))) :
    Calls Try.prog 17 #[.slice a n cap, .slice a' n' cap'] w R := by
  have H' := Hd.i H; clear H
  by_cases hp : IsPerm p
  · have hdec := Hd.i (decide_eq_true hp)
    by_cases hq : IsPerm q
    · have hdeq := Hd.i (decide_eq_true hq)
      have e1 := Hd.i (show pCycleType p = ctype p by simp [pCycleType, hp])
      have e2 := Hd.i (show pCycleType q = ctype q by simp [pCycleType, hq])
      have e := Hd.i (show decide (ctype p = ctype q) = pSameType p q by simp [pSameType, hp, hq])
      clear hp hq
      go_enter Try.func17, Try.ntmps17
      go_wp2_with (first | (go_at_call_of 43 (Value.slice a n cap); refine specIsPerm_c _ _ _ p _ h.ints h.cap ?_; intro w1 hd1; rw [hdec.o]; have hb1 := hd1.below w.heap.size) | (go_at_call 43; refine specIsPerm_c _ _ _ q _ (h'.ints.up (by assumption)) h'.cap ?_; intro w2 hd2; rw [hdeq.o]; have hb2 := hd2.up hb1) | (go_at_call_of 15 (Value.slice a n cap); refine specCycleType_c _ _ _ p _ (h.ints.up (by assumption)) h.cap ?_; rw [e1.o]; intro b3 m3 c3 w3 hb3 ho3; have hb33 := below_ups hb2 hb3 hb2.size) | (go_at_call 15; refine specCycleType_c _ _ _ q _ (h'.ints.up (by assumption)) h'.cap ?_; rw [e2.o]; intro b4 m4 c4 w4 hb4 ho4; have ho3 := ho3.up hb4; have hb44 := below_ups hb33 hb4 hb33.size) | (go_at_call 47; refine equalInts_c _ _ _ _ _ _ _ _ _ ho3.ints ho4.ints ?_; intro w5 hd5))
      exact retB (H'.o _ (hd5.up hb44)) e.o.symm
    · have hdeq := Hd.i (decide_eq_false hq)
      have e := Hd.i (show pSameType p q = false by simp [pSameType, hq])
      clear hp hq
      go_enter Try.func17, Try.ntmps17
      go_wp2_with (first | (go_at_call_of 43 (Value.slice a n cap); refine specIsPerm_c _ _ _ p _ h.ints h.cap ?_; intro w1 hd1; rw [hdec.o]; have hb1 := hd1.below w.heap.size) | (go_at_call 43; refine specIsPerm_c _ _ _ q _ (h'.ints.up (by assumption)) h'.cap ?_; intro w2 hd2; rw [hdeq.o]; have hb2 := hd2.up hb1))
      exact retB (H'.o _ hb2) e.o
  · have hdec := Hd.i (decide_eq_false hp)
    have e := Hd.i (show pSameType p q = false by simp [pSameType, hp])
    clear hp
    go_enter Try.func17, Try.ntmps17
    go_wp2_with (first | (go_at_call_of 43 (Value.slice a n cap); refine specIsPerm_c _ _ _ p _ h.ints h.cap ?_; intro w1 hd1; rw [hdec.o]; have hb1 := hd1.below w.heap.size))
    exact retB (H'.o _ hb1) e.o
end Go.Proofs.Ytkojonjcikgikaa
