/- gcd, ElementOrder, Sign. -/
import Derived.Test.YtkojonjcikgikaaCycle3
import Derived.Test.YtkojonjcikgikaaPureOrder
namespace Go.Proofs.Ytkojonjcikgikaa
open Go.RowKit
theorem lcm_step (o n : Nat) : (o : Int) / ((Nat.gcd o n : Nat) : Int) * (n : Int) = ((Nat.lcm o n : Nat) : Int) := by
  rw [← lcm_eq]; rfl

set_option maxHeartbeats 1000000 in
theorem implSign_c {R : Ending → World → Prop} (a : Option Addr) (n cap : Nat) (p : List Int) (w : World) (h : Ints w a n p) (hp : Hd (IsPerm p)) (H : Gives R w (.int .i64 (sgn (evens (longC p))))) :
    Calls Try.prog 53 #[.slice a n cap] w R := by
  have H' := Hd.i H; clear H
  go_enter Try.func53, Try.ntmps53
  go_wp2_with fail
  refine implCycles_c _ _ _ p _ h hp ?_
  intro b1 m1 d1 hs w1 hb1 ho1
  have hml := Hd.i ho1.length
  have hmle := ho1.le
  have hm := ho1.rows
  go_wp2
  go_loop [3, 9] (fun v i => ∃ (k : Nat) (o : Int), k ≤ m1 ∧ i = .int .i64 k ∧ v = .int .i64 o ∧ -1 ≤ o ∧ o ≤ 1 ∧ Hd (o = sgn (evens ((longC p).take k)))) (fun _ i => m1 - (intOf i).toNat)
  case atStart => exact ⟨0, 1, Nat.zero_le _, rfl, rfl, by omega, by omega, rfl⟩
  case round =>
    obtain ⟨k, o, hk, rfl, rfl, ho1', ho2', ho⟩ := hrel
    by_cases hlt : k < m1
    · obtain ⟨b, off, a', n', c', ys, rfl, hbl, hcell, hyk, hin, _⟩ := hm.at hlt
      have hyl := hin.length
      have hle' := hin.le
      have es := evens_snoc ((longC p).take k) ys
      rw [← take_succ_some hyk.o, hyl] at es
      by_cases he : n' % 2 = 0
      · rw [if_pos he] at es
        have e3 : -o = sgn (evens ((longC p).take (k + 1))) := by
          rw [es, ho.o]; unfold sgn; split <;> split <;> omega
        replace es := Hd.i es
        replace e3 := Hd.i e3
        replace hyl := Hd.i hyl
        have hz : (((n' : Int) % 2) == 0) = true := by rw [beq_iff_eq]; omega
        go_wp2
        go_round
        case rel => exact ⟨k + 1, -o, by omega, by go_num, by first | rfl | go_num, by omega, by omega, e3.o⟩
        case measure => simp [intOf]; omega
      · rw [if_neg he] at es
        have e3 : o = sgn (evens ((longC p).take (k + 1))) := by rw [es]; exact ho.o
        replace es := Hd.i es
        replace e3 := Hd.i e3
        replace hyl := Hd.i hyl
        have hz : (((n' : Int) % 2) == 0) = false := by rw [beq_eq_false_iff_ne]; omega
        go_wp2
        go_round
        case rel => exact ⟨k + 1, o, by omega, by go_num, rfl, by omega, by omega, e3.o⟩
        case measure => simp [intOf]; omega
    · obtain rfl : k = m1 := by omega
      go_wp2
      have e2 : o = sgn (evens (longC p)) := by rw [ho.o, List.take_of_length_le (by have := hml.o; omega)]
      rw [e2]
      exact H'.o _ hb1

theorem topImplSign {R : Ending → World → Prop} {B : Nat} (a : Option Addr) (n cap : Nat) (p : List Int) (w : World) (h : OwnI w B a n cap p) (H : Gives R w (.int .i64 (pSign p))) :
    Calls Try.prog 29 #[.slice a n cap] w R := by
  have H' := Hd.i H; clear H
  by_cases hp : IsPerm p
  · have e := Hd.i (show pSign p = sgn (evens (longC p)) by simp [pSign, hp])
    have hdec := Hd.i (decide_eq_true hp)
    replace hp := Hd.i hp
    go_enter Try.func29, Try.ntmps29
    go_wp2_with (first | (go_at_call 45; refine implIsPerm_c _ _ _ p _ h.ints ?_; rw [hdec.o]) | (go_at_call 53; refine implSign_c _ _ _ p _ h.ints hp ?_; intro w2 hb2))
    exact retI (H'.o _ hb2) e.o
  · have e := Hd.i (show pSign p = 0 by simp [pSign, hp])
    have hdec := Hd.i (decide_eq_false hp)
    go_enter Try.func29, Try.ntmps29
    go_wp2_with (first | (go_at_call 45; refine implIsPerm_c _ _ _ p _ h.ints ?_; rw [hdec.o]))
    exact retI (H'.o _ (Below.refl _ _)) e.o

theorem topSpecSign {R : Ending → World → Prop} {B : Nat} (a : Option Addr) (n cap : Nat) (p : List Int) (w : World) (h : OwnI w B a n cap p) (H : Gives R w (.int .i64 (pSign p))) :
    Calls Try.prog 30 #[.slice a n cap] w R := by
  have H' := Hd.i H; clear H
  have hln := Hd.i h.length
  by_cases hp : IsPerm p
  · have e := Hd.i (show pSign p = sgn (evens (longC p)) by simp [pSign, hp])
    have hsg := sign_spec hp
    have hn : n ≤ 20 := by have := hp.2.1; have := hln.o; omega
    have hle0 : (allC p).length ≤ n := by have := hsg.1; have := hln.o; omega
    rw [hln.o] at hsg
    have hv := Hd.i hsg.2
    have hdec := Hd.i (decide_eq_true hp)
    replace hp := Hd.i hp
    replace hle0 := Hd.i hle0
    clear hsg
    go_enter Try.func30, Try.ntmps30
    go_wp2_with fail
    refine specIsPerm_c _ _ _ p _ h.ints h.cap ?_
    intro w1 hd1
    rw [hdec.o]
    go_wp2_with fail
    refine allCycles_c _ _ _ p _ (hd1.ownI h).ints hp ?_
    intro b1 m1 d1 hs w2 hb2 ho2
    have hm : m1 = (allC p).length := ho2.length.symm
    have hmn : m1 ≤ n := by have := hle0.o; omega
    have hb3 := Hd.i (below_ups (hd1.below w.heap.size) hb2 (Nat.le_of_eq hd1.size.symm))
    by_cases he : (n - m1) % 2 = 1
    · have hz : ((((n : Int) - (m1 : Int)) % 2) == 1) = true := by rw [beq_iff_eq]; omega
      replace hm := Hd.i hm
      go_wp2
      exact retI (H'.o _ hb3.o) (by rw [e.o, hv.o, ← hm.o, if_pos he])
    · have hz : ((((n : Int) - (m1 : Int)) % 2) == 1) = false := by rw [beq_eq_false_iff_ne]; omega
      replace hm := Hd.i hm
      go_wp2
      exact retI (H'.o _ hb3.o) (by rw [e.o, hv.o, ← hm.o, if_neg he])
  · have e := Hd.i (show pSign p = 0 by simp [pSign, hp])
    have hdec := Hd.i (decide_eq_false hp)
    go_enter Try.func30, Try.ntmps30
    go_wp2_with fail
    refine specIsPerm_c _ _ _ p _ h.ints h.cap ?_
    intro w1 hd1
    rw [hdec.o]
    go_wp2
    exact retI (H'.o _ (hd1.below _)) e.o
end Go.Proofs.Ytkojonjcikgikaa
