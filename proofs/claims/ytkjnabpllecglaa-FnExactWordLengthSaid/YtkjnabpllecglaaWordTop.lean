/- FreeReduce and WordLess as the laws call them. -/
import Derived.Test.YtkjnabpllecglaaWordFns
namespace Go.Proofs.Ytkjnabpllecglaa
open Go.RowKit

theorem topSpecFreeReduce {R : Ending → World → Prop} {B : Nat} (a : Option Addr) (n cap : Nat) (p : List Int) (w : World) (h : OwnI w B a n cap p) (H : MakesI R w (pFreeReduce p)) :
    Calls Try.prog 29 #[.slice a n cap] w R := by
  have H' := Hd.i H; clear H
  by_cases hp : IsWord p
  · have e := Hd.i (show pFreeReduce p = freeRed p by simp [pFreeReduce, hp])
    go_enter Try.func29, Try.ntmps29
    go_wp2_with (first | (go_at_call 53; refine specIsWord_c _ _ _ p _ h.ints ?_) | (go_at_call 59; refine specFreeReduce_c _ _ _ p _ h.ints hp ?_; intro a2 n2 c2 w2 hb2 ho2))
    exact H'.o _ _ _ _ hb2 (e.o ▸ ho2)
  · have e := Hd.i (show pFreeReduce p = [] by simp [pFreeReduce, hp])
    go_enter Try.func29, Try.ntmps29
    go_wp2_with (first | (go_at_call 53; refine specIsWord_c _ _ _ p _ h.ints ?_))
    exact H'.o _ _ _ _ ((Below.refl _ _).alloc (Nat.le_refl _) _) (e.o ▸ OwnI.emptyLit _ (Nat.le_refl _))

theorem topImplFreeReduce {R : Ending → World → Prop} {B : Nat} (a : Option Addr) (n cap : Nat) (p : List Int) (w : World) (h : OwnI w B a n cap p) (H : MakesI R w (pFreeReduce p)) :
    Calls Try.prog 30 #[.slice a n cap] w R := by
  have H' := Hd.i H; clear H
  by_cases hp : IsWord p
  · have e := Hd.i (show pFreeReduce p = freeRed p by simp [pFreeReduce, hp])
    go_enter Try.func30, Try.ntmps30
    go_wp2_with (first | (go_at_call 55; refine implIsWord_c _ _ _ p _ h.ints ?_; intro w1 hb1) | (go_at_call 60; refine implFreeReduce_c _ _ _ p _ (h.ints.up hb1) hp ?_; intro a2 n2 c2 w2 hb2 ho2))
    exact H'.o _ _ _ _ (below_ups hb1 hb2 hb1.size) (e.o ▸ ho2.mono hb1.size)
  · have e := Hd.i (show pFreeReduce p = [] by simp [pFreeReduce, hp])
    go_enter Try.func30, Try.ntmps30
    go_wp2_with (first | (go_at_call 55; refine implIsWord_c _ _ _ p _ h.ints ?_; intro w1 hb1))
    exact H'.o _ _ _ _ hb1 (e.o ▸ OwnI.nil _ _)
theorem specRank_c {R : Ending → World → Prop} (l : Int) (w : World) (h : -8 ≤ l ∧ l ≤ 8) (H : R (.returned (.int .i64 (rank l))) w) : Calls Try.prog 71 #[.int .i64 l] w R := by
  have H' := Hd.i H; clear H
  by_cases hl : l < 0
  · go_enter Try.func71, Try.ntmps71
    go_wp2
    exact retI H' (by unfold rank; split <;> omega)
  · go_enter Try.func71, Try.ntmps71
    go_wp2
    exact retI H' (by unfold rank; split <;> omega)
theorem implRank_c {R : Ending → World → Prop} (l : Int) (w : World) (h : -8 ≤ l ∧ l ≤ 8) (H : R (.returned (.int .i64 (rank l))) w) : Calls Try.prog 74 #[.int .i64 l] w R := by
  have H' := Hd.i H; clear H
  by_cases hl : l < 0
  · go_enter Try.func74, Try.ntmps74
    go_wp2
    exact retI H' (by unfold rank; split <;> omega)
  · go_enter Try.func74, Try.ntmps74
    go_wp2
    exact retI H' (by unfold rank; split <;> omega)
theorem rank_range {l : Int} (h : -8 ≤ l ∧ l ≤ 8) : -2 ≤ rank l ∧ rank l ≤ 15 := by unfold rank; split <;> omega
theorem cmpLetters_c {R : Ending → World → Prop} (x y : Int) (w : World) (hx : -8 ≤ x ∧ x ≤ 8) (hy : -8 ≤ y ∧ y ≤ 8) (H : R (.returned (.int .i64 (rank x - rank y))) w) : Calls Try.prog 73 #[.int .i64 x, .int .i64 y] w R := by
  have H' := Hd.i H; clear H
  have h1 := rank_range hx
  have h2 := rank_range hy
  go_enter Try.func73, Try.ntmps73
  go_wp2_with fail
  refine implRank_c _ _ hx ?_
  go_wp2_with fail
  refine implRank_c _ _ hy ?_
  go_wp2_with fail
  exact H'.o

set_option maxHeartbeats 400000 in
theorem compareFunc_c {R : Ending → World → Prop} (a : Option Addr) (n cap : Nat) (p : List Int) (a' : Option Addr) (cap' : Nat) (q : List Int) (w : World) (hp : Ints w a n p) (hq : Ints w a' n q) (hwp : IsWord p) (hwq : IsWord q)
    (H : R (.returned (.int .i64 (cmpRank p q))) w) : Calls Try.prog 72 #[.slice a n cap, .slice a' n cap', .func (.func 73) #[] #[]] w R := by
  have H' := Hd.i H; clear H
  have hm := hp.le
  have hl1 := Hd.i hp.length
  have hl2 := Hd.i hq.length
  have hwp' := Hd.i hwp; clear hwp
  have hwq' := Hd.i hwq; clear hwq
  go_enter Try.func72, Try.ntmps72
  go_wp2
  go_loop [13] (fun i => ∃ k : Nat, k ≤ n ∧ i = .int .i64 k ∧ Hd (cmpRank p q = cmpRank (p.drop k) (q.drop k))) (fun i => n - (intOf i).toNat)
  case atStart => exact ⟨0, Nat.zero_le _, rfl, rfl⟩
  case round =>
    obtain ⟨k, hk, rfl, hc⟩ := hrel
    by_cases hlt : k < n
    · obtain ⟨b, off, x, rfl, hb, hcell, hx, _, _⟩ := hp.at hlt
      obtain ⟨b', off', y, rfl, hb', hcell', hy, _, _⟩ := hq.at hlt
      obtain ⟨_, hx1, hx2⟩ := hwp'.o.letter hx.o
      obtain ⟨_, hy1, hy2⟩ := hwq'.o.letter hy.o
      have h1 := rank_range (l := x) ⟨hx1, hx2⟩
      have h2 := rank_range (l := y) ⟨hy1, hy2⟩
      have hst := Hd.i (show cmpRank p q = if rank x - rank y = 0 then cmpRank (p.drop (k + 1)) (q.drop (k + 1)) else rank x - rank y by rw [hc.o, drop_some hx.o, drop_some hy.o]; rfl)
      by_cases h0 : rank x - rank y = 0
      · have hst' := Hd.i (hst.o.trans (if_pos h0))
        have h0' := Hd.i h0; clear h0
        go_wp2_with (go_at_call 73; refine cmpLetters_c _ _ _ ⟨hx1, hx2⟩ ⟨hy1, hy2⟩ ?_; rw [h0'.o])
        exact ⟨⟨k + 1, by omega, by go_num, hst'.o⟩, by simp [intOf]; omega⟩
      · have hst' := Hd.i (hst.o.trans (if_neg h0))
        have h0' : (rank x - rank y == 0) = false := by simpa using h0
        have h0'' : (rank x - rank y != 0) = true := by simpa using h0
        clear h0
        go_wp2_with (go_at_call 73; refine cmpLetters_c _ _ _ ⟨hx1, hx2⟩ ⟨hy1, hy2⟩ ?_)
        exact retI H' hst'.o
    · obtain rfl : k = n := by omega
      have hst := Hd.i (show cmpRank p q = 0 by rw [hc.o, List.drop_of_length_le (l := q) (by have := hl2.o; omega), List.drop_of_length_le (l := p) (by have := hl1.o; omega)]; rfl)
      go_wp2
      exact retI H' hst.o

set_option maxHeartbeats 400000 in
theorem specWordLess_c {R : Ending → World → Prop} (a : Option Addr) (n cap : Nat) (p : List Int) (a' : Option Addr) (n' cap' : Nat) (q : List Int) (w : World) (hp : Ints w a n p) (hq : Ints w a' n' q) (hwp : IsWord p) (hwq : IsWord q)
    (H : Reads R w (.bool (if p.length = q.length then lexRank p q else decide (p.length < q.length)))) : Calls Try.prog 54 #[.slice a n cap, .slice a' n' cap'] w R := by
  have H' := Hd.i H; clear H
  have hm := hp.le
  have hl1 := Hd.i hp.length
  have hl2 := Hd.i hq.length
  have hwp' := Hd.i hwp; clear hwp
  have hwq' := Hd.i hwq; clear hwq
  by_cases hn : n = n'
  · subst hn
    have e := Hd.i (show (if p.length = q.length then lexRank p q else decide (p.length < q.length)) = lexRank p q by rw [if_pos (hl1.o.trans hl2.o.symm)])
    go_enter Try.func54, Try.ntmps54
    go_wp2
    go_loopw [5] (fun i wr => ∃ k : Nat, k ≤ n ∧ i = .int .i64 k ∧ Drew w wr ∧ Hd (lexRank p q = lexRank (p.drop k) (q.drop k))) (fun i _ => n - (intOf i).toNat)
    case atStart => exact ⟨0, Nat.zero_le _, rfl, Drew.refl _, rfl⟩
    case round =>
      obtain ⟨k, hk, rfl, hd, hc⟩ := hrel
      by_cases hlt : k < n
      · obtain ⟨b, off, x, rfl, hb, hcell, hx, _, _⟩ := (hd.ints hp).at hlt
        obtain ⟨b', off', y, rfl, hb', hcell', hy, _, _⟩ := (hd.ints hq).at hlt
        obtain ⟨_, hx1, hx2⟩ := hwp'.o.letter hx.o
        obtain ⟨_, hy1, hy2⟩ := hwq'.o.letter hy.o
        have hst := Hd.i (show lexRank p q = if x = y then lexRank (p.drop (k + 1)) (q.drop (k + 1)) else decide (rank x < rank y) by rw [hc.o, drop_some hx.o, drop_some hy.o]; rfl)
        by_cases h1 : x = y
        · subst h1
          have hst' := Hd.i (hst.o.trans (if_pos rfl))
          go_wp2
          go_quiet (fail)
          go_wp2
          exact ⟨⟨k + 1, by omega, by go_num, hd.step nq, hst'.o⟩, by simp [intOf]; omega⟩
        · have hst' := Hd.i (hst.o.trans (if_neg h1))
          go_wp2
          go_quiet (fail)
          obtain ⟨w3, hw3, hd3⟩ : ∃ w3, w3 = wr.drewN nq ∧ Drew w w3 := ⟨_, rfl, hd.step nq⟩
          have hcell3 : w3.cell? ⟨b, off + k, none⟩ = some (.int .i64 x) := by rw [hw3]; exact hcell
          have hcell3' : w3.cell? ⟨b', off' + k, none⟩ = some (.int .i64 y) := by rw [hw3]; exact hcell'
          rw [← hw3]
          clear hw3 hcell hcell'
          go_wp2
          go_quiet (first | (go_at_call_of 71 (Value.int .i64 x); exact Calls.quiet_of_same (specRank_c _ _ ⟨hx1, hx2⟩ ⟨rfl, rfl⟩)) | (go_at_call 71; exact Calls.quiet_of_same (specRank_c _ _ ⟨hy1, hy2⟩ ⟨rfl, rfl⟩)))
          go_wp2
          exact retB (H'.o _ (hd3.step _)) (e.o.trans hst'.o)
      · obtain rfl : k = n := by omega
        have hst := Hd.i (show lexRank p q = false by rw [hc.o, List.drop_of_length_le (l := q) (by have := hl2.o; omega), List.drop_of_length_le (l := p) (by have := hl1.o; omega)]; rfl)
        go_wp2
        exact retB (H'.o _ hd) (e.o.trans hst.o)
  · have e := Hd.i (show (if p.length = q.length then lexRank p q else decide (p.length < q.length)) = decide (n < n') by rw [if_neg (by rw [hl1.o, hl2.o]; exact hn), hl1.o, hl2.o])
    by_cases hlt : n < n'
    · have e' := Hd.i (e.o.trans (decide_eq_true hlt))
      go_enter Try.func54, Try.ntmps54
      go_wp2
      exact retB (H'.o _ (Drew.refl _)) e'.o
    · have e' := Hd.i (e.o.trans (decide_eq_false hlt))
      go_enter Try.func54, Try.ntmps54
      go_wp2
      exact retB (H'.o _ (Drew.refl _)) e'.o

theorem implCompareWords_c {R : Ending → World → Prop} (a : Option Addr) (n cap : Nat) (p : List Int) (a' : Option Addr) (n' cap' : Nat) (q : List Int) (w : World) (hp : Ints w a n p) (hq : Ints w a' n' q) (hwp : IsWord p) (hwq : IsWord q)
    (H : R (.returned (.int .i64 (if p.length = q.length then cmpRank p q else (p.length : Int) - q.length))) w) : Calls Try.prog 56 #[.slice a n cap, .slice a' n' cap'] w R := by
  have H' := Hd.i H; clear H
  have hm := hp.le
  have hm' := hq.le
  have hl1 := Hd.i hp.length
  have hl2 := Hd.i hq.length
  by_cases hn : n = n'
  · subst hn
    have e := Hd.i (show (if p.length = q.length then cmpRank p q else (p.length : Int) - q.length) = cmpRank p q by rw [if_pos (hl1.o.trans hl2.o.symm)])
    go_enter Try.func56, Try.ntmps56
    go_wp2_with (go_at_call 72; refine compareFunc_c _ _ _ p _ _ q _ hp hq hwp hwq ?_)
    exact retI H' e.o
  · have e := Hd.i (show (if p.length = q.length then cmpRank p q else (p.length : Int) - q.length) = (n : Int) - n' by rw [if_neg (by rw [hl1.o, hl2.o]; exact hn), hl1.o, hl2.o])
    go_enter Try.func56, Try.ntmps56
    go_wp2
    exact retI H' e.o

theorem topSpecWordLess {R : Ending → World → Prop} {B B' : Nat} (a : Option Addr) (n cap : Nat) (p : List Int) (a' : Option Addr) (n' cap' : Nat) (q : List Int) (w : World) (h : OwnI w B a n cap p) (h' : OwnI w B' a' n' cap' q)
    (H : Gives R w (.bool (pWordLess p q))) : Calls Try.prog 25 #[.slice a n cap, .slice a' n' cap'] w R := by
  have H' := Hd.i H; clear H
  by_cases h1 : IsWord p
  · by_cases h2 : IsWord q
    · have e := Hd.i (show pWordLess p q = if p.length = q.length then lexRank p q else decide (p.length < q.length) by simp [pWordLess, h1, h2])
      go_enter Try.func25, Try.ntmps25
      go_wp2_with (first | (go_at_call_of 53 (Value.slice a n cap); refine specIsWord_c _ _ _ p _ h.ints ?_) | (go_at_call 53; refine specIsWord_c _ _ _ q _ h'.ints ?_) | (go_at_call 54; refine specWordLess_c _ _ _ p _ _ _ q _ h.ints h'.ints h1 h2 ?_; intro w2 hd2; rw [← e.o]))
      exact H'.o _ (hd2.below _)
    · have e := Hd.i (show pWordLess p q = false by simp [pWordLess, h2])
      go_enter Try.func25, Try.ntmps25
      go_wp2_with (first | (go_at_call_of 53 (Value.slice a n cap); refine specIsWord_c _ _ _ p _ h.ints ?_) | (go_at_call 53; refine specIsWord_c _ _ _ q _ h'.ints ?_))
      exact retB (H'.o _ (Below.refl _ _)) e.o
  · have e := Hd.i (show pWordLess p q = false by simp [pWordLess, h1])
    go_enter Try.func25, Try.ntmps25
    go_wp2_with (first | (go_at_call_of 53 (Value.slice a n cap); refine specIsWord_c _ _ _ p _ h.ints ?_))
    exact retB (H'.o _ (Below.refl _ _)) e.o

theorem topImplWordLess {R : Ending → World → Prop} {B B' : Nat} (a : Option Addr) (n cap : Nat) (p : List Int) (a' : Option Addr) (n' cap' : Nat) (q : List Int) (w : World) (h : OwnI w B a n cap p) (h' : OwnI w B' a' n' cap' q)
    (H : Gives R w (.bool (pWordLess p q))) : Calls Try.prog 26 #[.slice a n cap, .slice a' n' cap'] w R := by
  have H' := Hd.i H; clear H
  by_cases h1 : IsWord p
  · by_cases h2 : IsWord q
    · have e := Hd.i (show pWordLess p q = decide ((if p.length = q.length then cmpRank p q else (p.length : Int) - q.length) < 0) by
        simp only [pWordLess, h1, h2, decide_true, Bool.true_and]
        split
        · rw [cmpRank_lex]
        · congr 1; apply propext; omega)
      obtain ⟨z, hz⟩ : ∃ z : Int, Hd (z = if p.length = q.length then cmpRank p q else (p.length : Int) - q.length) := ⟨_, rfl⟩
      go_enter Try.func26, Try.ntmps26
      go_wp2_with (first | (go_at_call_of 55 (Value.slice a n cap); refine implIsWord_c _ _ _ p _ h.ints ?_; intro w1 hb1) | (go_at_call 55; refine implIsWord_c _ _ _ q _ (h'.ints.up hb1) ?_; intro w2 hb2) | (go_at_call 56; refine implCompareWords_c _ _ _ p _ _ _ q _ ((h.ints.up hb1).up hb2) ((h'.ints.up hb1).up hb2) h1 h2 ?_; rw [← hz.o]))
      exact retB (H'.o _ (below_ups hb1 hb2 hb1.size)) (e.o.trans (by rw [← hz.o]))
    · have e := Hd.i (show pWordLess p q = false by simp [pWordLess, h2])
      go_enter Try.func26, Try.ntmps26
      go_wp2_with (first | (go_at_call_of 55 (Value.slice a n cap); refine implIsWord_c _ _ _ p _ h.ints ?_; intro w1 hb1) | (go_at_call 55; refine implIsWord_c _ _ _ q _ (h'.ints.up hb1) ?_; intro w2 hb2))
      exact retB (H'.o _ (below_ups hb1 hb2 hb1.size)) e.o
  · have e := Hd.i (show pWordLess p q = false by simp [pWordLess, h1])
    go_enter Try.func26, Try.ntmps26
    go_wp2_with (first | (go_at_call_of 55 (Value.slice a n cap); refine implIsWord_c _ _ _ p _ h.ints ?_; intro w1 hb1))
    exact retB (H'.o _ hb1) e.o
end Go.Proofs.Ytkjnabpllecglaa
