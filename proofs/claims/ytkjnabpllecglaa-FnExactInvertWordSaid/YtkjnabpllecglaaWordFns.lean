/- Free reduction and the order of words. -/
import Derived.Test.YtkjnabpllecglaaWord
namespace Go.Proofs.Ytkjnabpllecglaa
open Go.RowKit

set_option maxHeartbeats 400000 in
theorem implFreeReduce_c {R : Ending → World → Prop} (a : Option Addr) (n cap : Nat) (xs : List Int) (w : World) (hx : Ints w a n xs) (hw : IsWord xs) (H : MakesI R w (freeRed xs)) :
    Calls Try.prog 60 #[.slice a n cap] w R := by
  have H' := Hd.i H; clear H
  have hm := hx.le
  have hl := Hd.i hx.length
  have hwd := Hd.i hw; clear hw
  have hn200 : n ≤ 200 := by have := hwd.o.len; have := hl.o; omega
  go_enter Try.func60, Try.ntmps60
  go_wp2
  go_loopw [3, 9] (fun v i wr => ∃ (k : Nat) (c : Option Addr) (m capc : Nat), k ≤ n ∧ i = .int .i64 k ∧ v = .slice c m capc ∧ OwnI wr w.heap.size c m capc (freeRed (xs.take k)) ∧ Below w.heap.size w wr)
    (fun _ i _ => n - (intOf i).toNat)
  case atStart => exact ⟨0, none, 0, 0, Nat.zero_le _, rfl, rfl, OwnI.nil _ _, Below.refl _ _⟩
  case round =>
    obtain ⟨k, c, m, capc, hk, rfl, rfl, ho, hbel⟩ := hrel
    by_cases hlt : k < n
    · obtain ⟨b, off, l, rfl, hb, hcell, hy, _, _⟩ := (hx.up hbel).at hlt
      obtain ⟨hl0, hl1, hl2⟩ := hwd.o.letter hy.o
      have hs := hbel.size
      have hml : m ≤ k := by have := ho.length; have := freeRed_len (xs.take k); rw [List.length_take] at this; omega
      have hcap := ho.cap
      have c1 : (m + 1) * 8 ≤ 140737488355328 := by omega
      have c2 : m + 1 ≤ 281474976710656 := by omega
      have hbelo := fun o => hbel.alloc hs o
      by_cases hm0 : m = 0
      · subst hm0
        have e := Hd.i (show freeRed (xs.take (k + 1)) = freeRed (xs.take k) ++ [l] by
          have h0 : freeRed (xs.take k) = [] := List.eq_nil_of_length_eq_zero ho.length
          rw [freeRed_take_succ hy.o, h0, frStep_first]; rfl)
        go_wp2_with (at_builtin; refine appendL_c rfl _ _ _ rfl w.heap.size 2 (.int .i64 0) 8 Try.underlying23 infoInt rfl _ _ _ _ rfl ho.1 [.int .i64 l] 1 rfl rfl oneInt c1 c2 hs ?_; intro a2 n2 cap2 w2 hn2 ho2 hg2 ha2)
        refine ⟨⟨k + 1, a2, n2, cap2, by omega, by go_num, rfl, ?_, ho.grewBelow hg2 hbel hs⟩, by simp [intOf]; omega⟩
        rw [e.o]
        exact OwnI.snoc ho2 ho.2 (by omega) (by omega)
      · obtain ⟨m', rfl⟩ : ∃ m', m = m' + 1 := ⟨m - 1, by omega⟩
        obtain ⟨g, y, rfl, hg1, hg2, hcy, hfy, hyy⟩ := ho.look (k := m') (by omega)
        by_cases hyl : y = -l
        · have e := Hd.i (show freeRed (xs.take (k + 1)) = (freeRed (xs.take k)).take m' by rw [freeRed_take_succ hy.o, frStep_pop ho.length hyy.o hyl])
          have ho3 := ho.pop (k := m') (by omega)
          go_wp2
          exact ⟨⟨k + 1, _, m', capc, by omega, by go_num, rfl, by rw [e.o]; exact ho3, hbel⟩, by simp [intOf]; omega⟩
        · have e := Hd.i (show freeRed (xs.take (k + 1)) = freeRed (xs.take k) ++ [l] by rw [freeRed_take_succ hy.o, frStep_push ho.length hyy.o hyl])
          go_wp2_with (at_builtin; refine appendL_c rfl _ _ _ rfl w.heap.size 2 (.int .i64 0) 8 Try.underlying23 infoInt rfl _ _ _ _ rfl ho.1 [.int .i64 l] 1 rfl rfl oneInt c1 c2 hs ?_; intro a2 n2 cap2 w2 hn2 ho2 hg2 ha2)
          refine ⟨⟨k + 1, a2, n2, cap2, by omega, by go_num, rfl, ?_, ho.grewBelow hg2 hbel hs⟩, by simp [intOf]; omega⟩
          rw [e.o]
          exact OwnI.snoc ho2 ho.2 (by omega) (by omega)
    · obtain rfl : k = n := by omega
      go_wp2
      rw [List.take_of_length_le (by have := hl.o; omega)] at ho
      exact H'.o _ _ _ _ hbel ho

set_option maxHeartbeats 400000 in
theorem specFreeReduce_c {R : Ending → World → Prop} (a : Option Addr) (n cap : Nat) (xs : List Int) (w : World) (hx : Ints w a n xs) (hw : IsWord xs) (H : MakesI R w (freeRed xs)) :
    Calls Try.prog 59 #[.slice a n cap] w R := by
  have H' := Hd.i H; clear H
  have hm := hx.le
  have hl := Hd.i hx.length
  have hwd := Hd.i hw; clear hw
  have hn200 : n ≤ 200 := by have := hwd.o.len; have := hl.o; omega
  go_enter Try.func59, Try.ntmps59
  go_wp2
  go_loopw [3, 4] (fun v i wr => ∃ (k : Nat) (c : Option Addr) (m capc : Nat), k ≤ n ∧ i = .int .i64 k ∧ v = .slice c m capc ∧ OwnI wr w.heap.size c m capc (freeRed (xs.take k)) ∧ Below w.heap.size w wr)
    (fun _ i _ => n - (intOf i).toNat)
  case atStart => exact ⟨0, _, 0, 0, Nat.zero_le _, rfl, rfl, ⟨Own.lit w [] _ (by simp) (Nat.le_refl _), by simp [freeRed]⟩, (Below.refl _ _).alloc (Nat.le_refl _) _⟩
  case round =>
    obtain ⟨k, c, m, capc, hk, rfl, rfl, ho, hbel⟩ := hrel
    by_cases hlt : k < n
    · obtain ⟨b, off, l, rfl, hb, hcell, hy, _, _⟩ := (hx.up hbel).at hlt
      obtain ⟨hl0, hl1, hl2⟩ := hwd.o.letter hy.o
      have hs := hbel.size
      have hml : m ≤ k := by have := ho.length; have := freeRed_len (xs.take k); rw [List.length_take] at this; omega
      have hcap := ho.cap
      have c1 : (m + 1) * 8 ≤ 140737488355328 := by omega
      have c2 : m + 1 ≤ 281474976710656 := by omega
      have hw2 := IntWalk.i64_in (-l) (by omega)
      by_cases hm0 : m = 0
      · subst hm0
        have e := Hd.i (show freeRed (xs.take (k + 1)) = freeRed (xs.take k) ++ [l] by
          have h0 : freeRed (xs.take k) = [] := List.eq_nil_of_length_eq_zero ho.length
          rw [freeRed_take_succ hy.o, h0, frStep_first]; rfl)
        go_wp2
        go_quiet (fail)
        go_wp2_with (at_builtin; refine appendL_c rfl _ _ _ rfl w.heap.size 2 (.int .i64 0) 8 Try.underlying23 infoInt rfl _ _ _ _ rfl (ho.1.drewN nq) [.int .i64 l] 1 rfl rfl oneInt c1 c2 hs ?_; intro a2 n2 cap2 w2 hn2 ho2 hg2 ha2)
        refine ⟨⟨k + 1, a2, n2, cap2, by omega, by go_num, rfl, ?_, (ho.drewN nq).grewBelow hg2 (hbel.trans ⟨rfl, rfl, rfl, Nat.le_refl _, fun _ _ => rfl⟩) hs⟩, by simp [intOf]; omega⟩
        rw [e.o]
        exact OwnI.snoc ho2 ho.2 (by omega) (by omega)
      · obtain ⟨m', rfl⟩ : ∃ m', m = m' + 1 := ⟨m - 1, by omega⟩
        obtain ⟨g, y, rfl, hg1, hg2, hcy, hfy, hyy⟩ := ho.look (k := m') (by omega)
        have hw1 := IntWalk.i64_in ((m' : Int) + 1 - 1) (by omega)
        by_cases hyl : y = -l
        · have e := Hd.i (show freeRed (xs.take (k + 1)) = (freeRed (xs.take k)).take m' by rw [freeRed_take_succ hy.o, frStep_pop ho.length hyy.o hyl])
          have ho3 := ho.pop (k := m') (by omega)
          go_wp2
          go_quiet (fail)
          go_wp2
          exact ⟨⟨k + 1, _, m', capc, by omega, by go_num, rfl, by rw [e.o]; exact ho3.drewN nq, hbel.trans ⟨rfl, rfl, rfl, Nat.le_refl _, fun _ _ => rfl⟩⟩, by simp [intOf]; omega⟩
        · have e := Hd.i (show freeRed (xs.take (k + 1)) = freeRed (xs.take k) ++ [l] by rw [freeRed_take_succ hy.o, frStep_push ho.length hyy.o hyl])
          go_wp2
          go_quiet (fail)
          go_wp2_with (at_builtin; refine appendL_c rfl _ _ _ rfl w.heap.size 2 (.int .i64 0) 8 Try.underlying23 infoInt rfl _ _ _ _ rfl (ho.1.drewN nq) [.int .i64 l] 1 rfl rfl oneInt c1 c2 hs ?_; intro a2 n2 cap2 w2 hn2 ho2 hg2 ha2)
          refine ⟨⟨k + 1, a2, n2, cap2, by omega, by go_num, rfl, ?_, (ho.drewN nq).grewBelow hg2 (hbel.trans ⟨rfl, rfl, rfl, Nat.le_refl _, fun _ _ => rfl⟩) hs⟩, by simp [intOf]; omega⟩
          rw [e.o]
          exact OwnI.snoc ho2 ho.2 (by omega) (by omega)
    · obtain rfl : k = n := by omega
      go_wp2
      rw [List.take_of_length_le (by have := hl.o; omega)] at ho
      exact H'.o _ _ _ _ hbel ho
end Go.Proofs.Ytkjnabpllecglaa
