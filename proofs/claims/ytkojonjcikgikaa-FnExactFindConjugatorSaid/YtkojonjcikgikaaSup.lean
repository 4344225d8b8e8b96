/- Support. -/
import Derived.Test.YtkojonjcikgikaaSort
import Derived.Test.YtkojonjcikgikaaCycle3
namespace Go.Proofs.Ytkojonjcikgikaa
open Go.RowKit

set_option maxHeartbeats 1000000 in
set_option maxRecDepth 100000 in
theorem topImplSupport {R : Ending → World → Prop} {B : Nat} (a : Option Addr) (n cap : Nat) (p : List Int) (w : World) (h : OwnI w B a n cap p) (H : MakesI R w (pSupport p)) :
    Calls Try.prog 20 #[.slice a n cap] w R := by
  have H' := Hd.i H; clear H
  have hln := Hd.i h.length
  by_cases hp : IsPerm p
  · have e := Hd.i (show pSupport p = supTo p p.length by simp [pSupport, hp])
    have hdec := Hd.i (decide_eq_true hp)
    have hn : n ≤ 20 := by have := hp.2.1; have := hln.o; omega
    replace hp := Hd.i hp
    go_enter Try.func20, Try.ntmps20
    go_wp2_with (first | (go_at_call 45; refine implIsPerm_c _ _ _ p _ h.ints ?_; rw [hdec.o]))
    go_loopw [3, 11] (fun v i wr => ∃ (k : Nat) (c : Option Addr) (m capc : Nat), k ≤ n ∧ i = .int .i64 k ∧ v = .slice c m capc ∧ OwnI wr w.heap.size c m capc (movTo p k) ∧ Below w.heap.size w wr) (fun _ i _ => n - (intOf i).toNat)
    case atStart => exact ⟨0, _, 0, 0, Nat.zero_le _, rfl, rfl, OwnI.nil _ _, Below.refl _ _⟩
    case round =>
      obtain ⟨k, c, m, capc, hk, rfl, rfl, ho, hb⟩ := hrel
      by_cases hlt : k < n
      · obtain ⟨b, off, x, rfl, hbl, hcell, hx, hx1, hx2⟩ := (h.ints.up hb).at hlt
        have hxe := Hd.i (show at0 p k = x from at0_of (by simpa using hx.o))
        have hmk : m ≤ k := by have := ho.length; have := movTo_le p k; omega
        have c1 : (m + 1) * 8 ≤ 140737488355328 := by omega
        have c2 : m + 1 ≤ 281474976710656 := by omega
        have hs1 := hb.size
        by_cases hm : (k : Int) = x
        · have el := Hd.i (show movTo p (k + 1) = movTo p k by rw [movTo_succ, hxe.o, if_neg (by omega), List.append_nil])
          subst hm
          go_wp2
          exact ⟨⟨k + 1, c, m, capc, by omega, by go_num, rfl, by rw [el.o]; exact ho, hb⟩, by simp [intOf]; omega⟩
        · have el := Hd.i (show movTo p (k + 1) = movTo p k ++ [x] by rw [movTo_succ, hxe.o, if_pos (by omega)])
          have ht : ((k : Int) != x) = true := by simpa using hm
          clear hm
          go_wp2_with (at_builtin; refine appendL_c rfl _ _ _ rfl w.heap.size 2 (.int .i64 0) 8 Try.underlying22 infoInt rfl _ _ _ _ rfl ho.1 [.int .i64 x] 1 rfl rfl oneInt c1 c2 hs1 ?_; intro a2 n2 cap2 w2 hn2 ho2 hg2 ha2)
          refine ⟨⟨k + 1, a2, n2, cap2, by omega, by go_num, rfl, ?_, ho.grewBelow hg2 hb hs1⟩, by simp [intOf]; omega⟩
          rw [el.o]
          exact OwnI.snoc ho2 ho.2 hx1 hx2
      · obtain rfl : k = n := by omega
        have hs1 := hb.size
        have hm : m ≤ 1000000 := by have := ho.length; have := movTo_le p k; omega
        go_wp2_with (first | (go_at_call 49; refine sort_c _ _ _ _ _ ho hm ?_; intro w2 hg2 ho2))
        have e2 : asc (movTo p k) = pSupport p := by rw [e.o, ← sup_asc hp.o, hln.o]
        exact H'.o _ _ _ _ (ho.grewBelow hg2 hb hs1) (by rw [← e2]; exact ho2)
  · have e := Hd.i (show pSupport p = [] by simp [pSupport, hp])
    have hdec := Hd.i (decide_eq_false hp)
    go_enter Try.func20, Try.ntmps20
    go_wp2_with (first | (go_at_call 45; refine implIsPerm_c _ _ _ p _ h.ints ?_; rw [hdec.o]))
    exact H'.o _ _ _ _ (Below.refl _ _) (by rw [e.o]; exact OwnI.nil _ _)

set_option maxHeartbeats 1000000 in
set_option maxRecDepth 100000 in
theorem topSpecSupport {R : Ending → World → Prop} {B : Nat} (a : Option Addr) (n cap : Nat) (p : List Int) (w : World) (h : OwnI w B a n cap p) (H : MakesI R w (pSupport p)) :
    Calls Try.prog 19 #[.slice a n cap] w R := by
  have H' := Hd.i H; clear H
  have hln := Hd.i h.length
  by_cases hp : IsPerm p
  · have e := Hd.i (show pSupport p = supTo p p.length by simp [pSupport, hp])
    have hdec := Hd.i (decide_eq_true hp)
    have hn : n ≤ 20 := by have := hp.2.1; have := hln.o; omega
    replace hp := Hd.i hp
    go_enter Try.func19, Try.ntmps19
    go_wp2
    go_loopw [3, 4] (fun v i wr => ∃ (k : Nat) (c : Option Addr) (m capc : Nat), k ≤ n ∧ i = .int .i64 k ∧ v = .slice c m capc ∧ OwnI wr w.heap.size c m capc (supTo p k) ∧ Below w.heap.size w wr) (fun _ i _ => n - (intOf i).toNat)
    case atStart => exact ⟨0, _, 0, 0, Nat.zero_le _, rfl, rfl, OwnI.emptyLit w (Nat.le_refl _), (Below.refl _ _).alloc (Nat.le_refl _) _⟩
    case round =>
      obtain ⟨k, c, m, capc, hk, rfl, rfl, ho, hb⟩ := hrel
      by_cases hlt : k < n
      · have hmk : m ≤ k := by have := ho.length; have := supTo_le p k; omega
        have c1 : (m + 1) * 8 ≤ 140737488355328 := by omega
        have c2 : m + 1 ≤ 281474976710656 := by omega
        go_wp2_with fail
        refine specIsPerm_c _ _ _ p _ (h.ints.up hb) h.cap ?_
        intro w1 hd1
        rw [hdec.o]
        have hb1 := hd1.up hb
        have ho1 := hd1.ownI ho
        clear hb ho
        have hs1 := hb1.size
        obtain ⟨b, off, x, rfl, hbl, hcell, hx, hx1, hx2⟩ := (h.ints.up hb1).at hlt
        have hxe := Hd.i (show at0 p k = x from at0_of (by simpa using hx.o))
        by_cases hm : x = (k : Int)
        · have el := Hd.i (show supTo p (k + 1) = supTo p k by rw [supTo_succ, hxe.o, if_neg (by omega), List.append_nil])
          subst hm
          go_wp2
          exact ⟨⟨k + 1, c, m, capc, by omega, by go_num, rfl, by rw [el.o]; exact ho1, hb1⟩, by simp [intOf]; omega⟩
        · have el := Hd.i (show supTo p (k + 1) = supTo p k ++ [(k : Int)] by rw [supTo_succ, hxe.o, if_pos (by omega)])
          have ht : (x != (k : Int)) = true := by simpa using hm
          clear hm
          go_wp2_with (at_builtin; refine appendL_c rfl _ _ _ rfl w.heap.size 2 (.int .i64 0) 8 Try.underlying22 infoInt rfl _ _ _ _ rfl ho1.1 [.int .i64 (k : Int)] 1 rfl rfl oneInt c1 c2 hs1 ?_; intro a2 n2 cap2 w2 hn2 ho2 hg2 ha2)
          refine ⟨⟨k + 1, a2, n2, cap2, by omega, by go_num, rfl, ?_, ho1.grewBelow hg2 hb1 hs1⟩, by simp [intOf]; omega⟩
          rw [el.o]
          exact OwnI.snoc ho2 ho1.2 (by omega) (by omega)
      · obtain rfl : k = n := by omega
        go_wp2
        have e2 : supTo p k = pSupport p := by rw [e.o, hln.o]
        exact H'.o _ _ _ _ hb (by rw [← e2]; exact ho)
  · have e := Hd.i (show pSupport p = [] by simp [pSupport, hp])
    have hdec := Hd.i (decide_eq_false hp)
    go_enter Try.func19, Try.ntmps19
    go_wp2
    go_loopw [3, 4] (fun v i wr => i = .int .i64 0 ∧ v = .slice (some ⟨w.heap.size, 0, none⟩) 0 0 ∧ wr = w.alloc (.cells #[] 2)) (fun _ _ _ => 0)
    case atStart => exact ⟨rfl, rfl, rfl⟩
    case round =>
      obtain ⟨rfl, rfl, rfl⟩ := hrel
      have hb := (Below.refl w.heap.size w).alloc (Nat.le_refl _) (.cells #[] 2)
      have ho := OwnI.emptyLit w (B := w.heap.size) (Nat.le_refl _)
      by_cases hlt : 0 < n
      · go_wp2_with fail
        refine specIsPerm_c _ _ _ p _ (h.ints.up hb) h.cap ?_
        intro w1 hd1
        rw [hdec.o]
        go_wp2
        exact H'.o _ _ _ _ (hd1.up hb) (by rw [e.o]; exact hd1.ownI ho)
      · obtain rfl : n = 0 := by omega
        go_wp2
        exact H'.o _ _ _ _ hb (by rw [e.o]; exact ho)
end Go.Proofs.Ytkojonjcikgikaa
