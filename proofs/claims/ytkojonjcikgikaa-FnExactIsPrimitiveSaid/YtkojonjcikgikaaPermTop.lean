/- IsPermutation, Identity, Inverse, Compose, PermutationLess as they are called by the laws. -/
import Derived.Test.YtkojonjcikgikaaPermFns
import Derived.Deep.RegionWith
namespace Go.Proofs.Ytkojonjcikgikaa
open Go.RowKit
theorem implArePerms_c {R : Ending → World → Prop} (a : Option Addr) (n cap : Nat) (p : List Int) (a' : Option Addr) (n' cap' : Nat) (q : List Int) (w : World) (hp : Ints w a n p) (hq : Ints w a' n' q)
    (H : R (.returned (.bool (decide (PermPair p q)))) w) : Calls Try.prog 48 #[.slice a n cap, .slice a' n' cap'] w R := by
  have H' := Hd.i H; clear H
  have hl1 := Hd.i hp.length
  have hl2 := Hd.i hq.length
  by_cases hn : n = n'
  · subst hn
    by_cases h1 : IsPerm p
    · by_cases h2 : IsPerm q
      · go_enter Try.func48, Try.ntmps48
        go_wp2_with (first | (go_at_call_of 45 (Value.slice a n cap); refine implIsPerm_c _ _ _ p _ hp ?_) | (go_at_call 45; refine implIsPerm_c _ _ _ q _ hq ?_))
        exact retB H' (decide_eq_true ⟨hl1.o.trans hl2.o.symm, h1, h2⟩)
      · go_enter Try.func48, Try.ntmps48
        go_wp2_with (first | (go_at_call_of 45 (Value.slice a n cap); refine implIsPerm_c _ _ _ p _ hp ?_) | (go_at_call 45; refine implIsPerm_c _ _ _ q _ hq ?_))
        exact retB H' (decide_eq_false fun h => h2 h.2.2)
    · go_enter Try.func48, Try.ntmps48
      go_wp2_with (first | (go_at_call_of 45 (Value.slice a n cap); refine implIsPerm_c _ _ _ p _ hp ?_))
      exact retB H' (decide_eq_false fun h => h1 h.2.1)
  · go_enter Try.func48, Try.ntmps48
    go_wp2
    exact retB H' (decide_eq_false fun h => hn (hl1.o.symm.trans (h.1.trans hl2.o)))

theorem specSameDeg_c {R : Ending → World → Prop} (a : Option Addr) (n cap : Nat) (p : List Int) (a' : Option Addr) (n' cap' : Nat) (q : List Int) (w : World) (hp : Ints w a n p) (hq : Ints w a' n' q) (hc : n ≤ cap) (hc' : n' ≤ cap')
    (H : Reads R w (.bool (decide (PermPair p q)))) : Calls Try.prog 54 #[.slice a n cap, .slice a' n' cap'] w R := by
  have H' := Hd.i H; clear H
  have hl1 := Hd.i hp.length
  have hl2 := Hd.i hq.length
  by_cases h1 : IsPerm p
  · by_cases h2 : IsPerm q
    · by_cases hn : n = n'
      · subst hn
        go_enter Try.func54, Try.ntmps54
        go_wp2_with (first | (go_at_call_of 43 (Value.slice a n cap); refine specIsPerm_c _ _ _ p _ hp hc ?_; intro w1 hd1) | (go_at_call 43; refine specIsPerm_c _ _ _ q _ (hd1.ints hq) hc' ?_; intro w2 hd2))
        exact retB (H'.o _ (hd1.trans hd2)) (decide_eq_true ⟨hl1.o.trans hl2.o.symm, h1, h2⟩)
      · have hnb : ((n : Int) == (n' : Int)) = false := by rw [beq_eq_false_iff_ne]; omega
        go_enter Try.func54, Try.ntmps54
        go_wp2_with (first | (go_at_call_of 43 (Value.slice a n cap); refine specIsPerm_c _ _ _ p _ hp hc ?_; intro w1 hd1) | (go_at_call 43; refine specIsPerm_c _ _ _ q _ (hd1.ints hq) hc' ?_; intro w2 hd2))
        exact retB (H'.o _ (hd1.trans hd2)) (decide_eq_false fun h => hn (hl1.o.symm.trans (h.1.trans hl2.o)))
    · go_enter Try.func54, Try.ntmps54
      go_wp2_with (first | (go_at_call_of 43 (Value.slice a n cap); refine specIsPerm_c _ _ _ p _ hp hc ?_; intro w1 hd1) | (go_at_call 43; refine specIsPerm_c _ _ _ q _ (hd1.ints hq) hc' ?_; intro w2 hd2))
      exact retB (H'.o _ (hd1.trans hd2)) (decide_eq_false fun h => h2 h.2.2)
  · go_enter Try.func54, Try.ntmps54
    go_wp2_with (first | (go_at_call_of 43 (Value.slice a n cap); refine specIsPerm_c _ _ _ p _ hp hc ?_; intro w1 hd1))
    exact retB (H'.o _ hd1) (decide_eq_false fun h => h1 h.2.1)

theorem topImplCompose {R : Ending → World → Prop} {B B' : Nat} (a : Option Addr) (n cap : Nat) (p : List Int) (a' : Option Addr) (n' cap' : Nat) (q : List Int) (w : World) (h : OwnI w B a n cap p) (h' : OwnI w B' a' n' cap' q)
    (H : MakesIB R w (pCompose p q) (decide (PermPair p q))) : Calls Try.prog 25 #[.slice a n cap, .slice a' n' cap'] w R := by
  have H' := Hd.i H; clear H
  by_cases hpp : PermPair p q
  · have e := Hd.i (show pCompose p q = comp p q by simp [pCompose, hpp])
    have hr := Hd.i (show ∀ x ∈ p, 0 ≤ x ∧ x < n' from h'.length ▸ hpp.range)
    have hn : n ≤ 1000000 := by have := hpp.2.1.2.1; have := h.length; omega
    go_enter Try.func25, Try.ntmps25
    go_wp2_with (first | (go_at_call 48; refine implArePerms_c _ _ _ p _ _ _ q _ h.ints h'.ints ?_) | (go_at_call 50; refine implCompose_c _ _ _ p _ _ _ q _ h.ints h'.ints hn hr ?_; intro a2 n2 c2 w2 hb2 ho2))
    have := H'.o a2 n2 c2 w2 hb2 (e.o ▸ ho2)
    rw [decide_eq_true hpp] at this
    exact this
  · have e := Hd.i (show pCompose p q = [] by simp [pCompose, hpp])
    go_enter Try.func25, Try.ntmps25
    go_wp2_with (first | (go_at_call 48; refine implArePerms_c _ _ _ p _ _ _ q _ h.ints h'.ints ?_))
    have := H'.o _ _ _ _ (Below.refl _ _) (e.o ▸ OwnI.nil _ _)
    rw [decide_eq_false hpp] at this
    exact this

theorem isNaN_c {R : Ending → World → Prop} (x : Int) (w : World) (H : R (.returned (.bool false)) w) : Calls Try.prog 97 #[.int .i64 x] w R := by
  have H' := Hd.i H; clear H
  go_enter Try.func97, Try.ntmps97
  go_wp2
  exact H'.o
theorem cmpCompare_c {R : Ending → World → Prop} (x y : Int) (w : World) (H : R (.returned (.int .i64 (if x < y then -1 else if x > y then 1 else 0))) w) : Calls Try.prog 72 #[.int .i64 x, .int .i64 y] w R := by
  have H' := Hd.i H; clear H
  by_cases h1 : x < y
  · go_enter Try.func72, Try.ntmps72
    go_wp2_with (go_at_call 97; refine isNaN_c _ _ ?_)
    exact retI H' (by rw [if_pos h1])
  · by_cases h2 : y < x
    · go_enter Try.func72, Try.ntmps72
      go_wp2_with (go_at_call 97; refine isNaN_c _ _ ?_)
      exact retI H' (by rw [if_neg (by omega), if_pos h2])
    · go_enter Try.func72, Try.ntmps72
      go_wp2_with (go_at_call 97; refine isNaN_c _ _ ?_)
      exact retI H' (by rw [if_neg (by omega), if_neg (by omega)])

set_option maxHeartbeats 400000 in
theorem slicesCompare_c {R : Ending → World → Prop} (a : Option Addr) (n cap : Nat) (p : List Int) (a' : Option Addr) (n' cap' : Nat) (q : List Int) (w : World) (hp : Ints w a n p) (hq : Ints w a' n' q)
    (H : R (.returned (.int .i64 (cmpL p q))) w) : Calls Try.prog 52 #[.slice a n cap, .slice a' n' cap'] w R := by
  have H' := Hd.i H; clear H
  have hm := hp.le
  have hl1 := Hd.i hp.length
  have hl2 := Hd.i hq.length
  go_enter Try.func52, Try.ntmps52
  go_wp2
  go_loop [11] (fun i => ∃ k : Nat, k ≤ n ∧ i = .int .i64 k ∧ k ≤ n' ∧ Hd (cmpL p q = cmpL (p.drop k) (q.drop k))) (fun i => n - (intOf i).toNat)
  case atStart => exact ⟨0, Nat.zero_le _, rfl, Nat.zero_le _, rfl⟩
  case round =>
    obtain ⟨k, hk, rfl, hk', hc⟩ := hrel
    by_cases hlt : k < n
    · obtain ⟨b, off, x, rfl, hb, hcell, hx, hx1, hx2⟩ := hp.at hlt
      by_cases hlt' : k < n'
      · obtain ⟨b', off', y, rfl, hb', hcell', hy, hy1, hy2⟩ := hq.at hlt'
        have hst := Hd.i (show cmpL p q = if x < y then -1 else if x > y then 1 else cmpL (p.drop (k + 1)) (q.drop (k + 1)) by rw [hc.o, drop_some hx.o, drop_some hy.o]; rfl)
        by_cases h1 : x < y
        · have hst' := Hd.i (hst.o.trans (if_pos h1))
          go_wp2_with (go_at_call 72; refine cmpCompare_c _ _ _ ?_)
          exact retI H' hst'.o
        · by_cases h2 : y < x
          · have hst' := Hd.i ((hst.o.trans (if_neg h1)).trans (if_pos h2))
            go_wp2_with (go_at_call 72; refine cmpCompare_c _ _ _ ?_)
            exact retI H' hst'.o
          · have hst' := Hd.i ((hst.o.trans (if_neg h1)).trans (if_neg h2))
            go_wp2_with (go_at_call 72; refine cmpCompare_c _ _ _ ?_)
            exact ⟨⟨k + 1, by omega, by go_num, by omega, hst'.o⟩, by simp [intOf]; omega⟩
      · have hst := Hd.i (show cmpL p q = 1 by rw [hc.o, drop_some hx.o, List.drop_of_length_le (l := q) (by have := hl2.o; omega)]; rfl)
        go_wp2
        exact retI H' hst.o
    · obtain rfl : k = n := by omega
      by_cases hlt' : k < n'
      · have hst := Hd.i (show cmpL p q = -1 by
          obtain ⟨b', off', y, _, _, _, hy, _, _⟩ := hq.at hlt'
          rw [hc.o, drop_some hy.o, List.drop_of_length_le (l := p) (by have := hl1.o; omega)]; rfl)
        go_wp2
        exact retI H' hst.o
      · have hst := Hd.i (show cmpL p q = 0 by rw [hc.o, List.drop_of_length_le (l := q) (by have := hl2.o; omega), List.drop_of_length_le (l := p) (by have := hl1.o; omega)]; rfl)
        go_wp2
        exact retI H' hst.o

set_option maxHeartbeats 400000 in
theorem specPrecedes_c {R : Ending → World → Prop} (a : Option Addr) (n cap : Nat) (p : List Int) (a' : Option Addr) (cap' : Nat) (q : List Int) (w : World) (hp : Ints w a n p) (hq : Ints w a' n q)
    (H : Reads R w (.bool (lexLess p q))) : Calls Try.prog 55 #[.slice a n cap, .slice a' n cap'] w R := by
  have H' := Hd.i H; clear H
  have hm := hp.le
  have hl1 := Hd.i hp.length
  have hl2 := Hd.i hq.length
  go_enter Try.func55, Try.ntmps55
  go_wp2
  go_loopw [5] (fun i wr => ∃ k : Nat, k ≤ n ∧ i = .int .i64 k ∧ Drew w wr ∧ Hd (lexLess p q = lexLess (p.drop k) (q.drop k))) (fun i _ => n - (intOf i).toNat)
  case atStart => exact ⟨0, Nat.zero_le _, rfl, Drew.refl _, rfl⟩
  case round =>
    obtain ⟨k, hk, rfl, hd, hc⟩ := hrel
    by_cases hlt : k < n
    · obtain ⟨b, off, x, rfl, hb, hcell, hx, hx1, hx2⟩ := (hd.ints hp).at hlt
      obtain ⟨b', off', y, rfl, hb', hcell', hy, hy1, hy2⟩ := (hd.ints hq).at hlt
      have hst := Hd.i (show lexLess p q = if x = y then lexLess (p.drop (k + 1)) (q.drop (k + 1)) else decide (x < y) by rw [hc.o, drop_some hx.o, drop_some hy.o]; rfl)
      by_cases h1 : x = y
      · subst h1
        have hst' := Hd.i (hst.o.trans (if_pos rfl))
        go_wp2
        go_quiet (fail)
        go_wp2
        exact ⟨⟨k + 1, by omega, by go_num, hd.step nq, hst'.o⟩, by simp [intOf]; omega⟩
      · have hst' := Hd.i (hst.o.trans (if_neg h1))
        go_wp2
        go_quiet (fail)
        have hd2 := hd.step nq
        go_wp2
        go_quiet (fail)
        go_wp2
        exact retB (H'.o _ ((hd.step _).step _)) hst'.o
    · obtain rfl : k = n := by omega
      have hst := Hd.i (show lexLess p q = false by rw [hc.o, List.drop_of_length_le (l := q) (by have := hl2.o; omega), List.drop_of_length_le (l := p) (by have := hl1.o; omega)]; rfl)
      go_wp2
      exact retB (H'.o _ hd) hst.o

theorem topSpecPermutationLess {R : Ending → World → Prop} {B B' : Nat} (a : Option Addr) (n cap : Nat) (p : List Int) (a' : Option Addr) (n' cap' : Nat) (q : List Int) (w : World) (h : OwnI w B a n cap p) (h' : OwnI w B' a' n' cap' q)
    (H : Gives R w (.bool (pLess p q))) : Calls Try.prog 31 #[.slice a n cap, .slice a' n' cap'] w R := by
  have H' := Hd.i H; clear H
  by_cases hpp : PermPair p q
  · obtain rfl : n = n' := by have := h.length; have := h'.length; have := hpp.1; omega
    have e := Hd.i (show pLess p q = lexLess p q by simp [pLess, hpp])
    go_enter Try.func31, Try.ntmps31
    go_wp2_with (first | (go_at_call 54; refine specSameDeg_c _ _ _ p _ _ _ q _ h.ints h'.ints h.cap h'.cap ?_; intro w1 hd1) | (go_at_call 55; refine specPrecedes_c _ _ _ p _ _ q _ (hd1.ints h.ints) (hd1.ints h'.ints) ?_; intro w2 hd2))
    exact retB (H'.o _ ((hd1.trans hd2).below _)) e.o
  · have e := Hd.i (show pLess p q = false by simp [pLess, hpp])
    go_enter Try.func31, Try.ntmps31
    go_wp2_with (first | (go_at_call 54; refine specSameDeg_c _ _ _ p _ _ _ q _ h.ints h'.ints h.cap h'.cap ?_; intro w1 hd1))
    exact retB (H'.o _ (hd1.below _)) e.o

theorem topImplPermutationLess {R : Ending → World → Prop} {B B' : Nat} (a : Option Addr) (n cap : Nat) (p : List Int) (a' : Option Addr) (n' cap' : Nat) (q : List Int) (w : World) (h : OwnI w B a n cap p) (h' : OwnI w B' a' n' cap' q)
    (H : Gives R w (.bool (pLess p q))) : Calls Try.prog 27 #[.slice a n cap, .slice a' n' cap'] w R := by
  have H' := Hd.i H; clear H
  by_cases hpp : PermPair p q
  · have e := Hd.i (show pLess p q = decide (cmpL p q < 0) by rw [cmpL_lex p q hpp.1]; simp [pLess, hpp])
    go_enter Try.func27, Try.ntmps27
    go_wp2_with (first | (go_at_call 48; refine implArePerms_c _ _ _ p _ _ _ q _ h.ints h'.ints ?_) | (go_at_call 52; refine slicesCompare_c _ _ _ p _ _ _ q _ h.ints h'.ints ?_))
    exact retB (H'.o _ (Below.refl _ _)) e.o
  · have e := Hd.i (show pLess p q = false by simp [pLess, hpp])
    go_enter Try.func27, Try.ntmps27
    go_wp2_with (first | (go_at_call 48; refine implArePerms_c _ _ _ p _ _ _ q _ h.ints h'.ints ?_))
    exact retB (H'.o _ (Below.refl _ _)) e.o
theorem topSpecIsPermutation {R : Ending → World → Prop} {B : Nat} (a : Option Addr) (n cap : Nat) (p : List Int) (w : World) (h : OwnI w B a n cap p) (H : Gives R w (.bool (decide (IsPerm p)))) :
    Calls Try.prog 43 #[.slice a n cap] w R := specIsPerm_c a n cap p w h.ints h.cap fun _ hd => H _ (hd.below _)
theorem topImplIsPermutation {R : Ending → World → Prop} {B : Nat} (a : Option Addr) (n cap : Nat) (p : List Int) (w : World) (h : OwnI w B a n cap p) (H : Gives R w (.bool (decide (IsPerm p)))) :
    Calls Try.prog 45 #[.slice a n cap] w R := implIsPerm_c a n cap p w h.ints (H _ (Below.refl _ _))
end Go.Proofs.Ytkojonjcikgikaa
