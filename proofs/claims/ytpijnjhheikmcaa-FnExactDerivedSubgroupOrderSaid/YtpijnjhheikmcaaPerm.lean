/- IsPermutation, both. -/
import Derived.Test.YtpijnjhheikmcaaBase
import Derived.Test.YtpijnjhheikmcaaPure
namespace Go.Proofs.Ytpijnjhheikmcaa
open Go.RowKit


set_option maxHeartbeats 400000 in
theorem implIsPerm_c {R : Ending → World → Prop} (a : Option Addr) (n cap : Nat) (xs : List Int) (w : World) (hx : Ints w a n xs)
    (H : R (.returned (.bool (decide (IsPerm xs)))) w) : Calls Try.prog 54 #[.slice a n cap] w R := by
  have H' := Hd.i H; clear H
  have hm := hx.le
  have hl := Hd.i hx.length
  by_cases hr : 1 ≤ (n : Int) ∧ (n : Int) ≤ 20
  · go_enter Try.func54, Try.ntmps54
    go_wp2_with (first | (go_at_call 53; refine length_c _ _ _ _ ?_) | (go_at_call 85; refine within_c _ _ _ _ (fun _ => ?_) (fun _ => ?_) <;> go_prune))
    go_loop [3, 12] (fun s i => ∃ k : Nat, k ≤ n ∧ i = .int .i64 k ∧ s = .int .i64 (mask (xs.take k) : Nat) ∧ Hd (∀ x ∈ xs.take k, 0 ≤ x ∧ x < (n : Int))) (fun _ i => n - (intOf i).toNat)
    case atStart => exact ⟨0, Nat.zero_le _, rfl, by simp [mask], by simp [Hd]⟩
    case round =>
      obtain ⟨k, hk, rfl, rfl, hall⟩ := hrel
      by_cases hlt : k < n
      · obtain ⟨b, off, y, rfl, hb, hcell, hy, hy1, hy2⟩ := hx.at hlt
        have hst : Hd (0 ≤ y → y < (n : Int) → bits .or .i64 (mask (xs.take k) : Nat) (wrap64 (2 ^ y.toNat)) = ((mask (xs.take (k + 1)) : Nat) : Int)) := by
          intro h0 h1
          rw [take_succ_some hy.o, mask_snoc]
          exact bits_step _ y (Nat.lt_of_lt_of_le (mask_lt (n := 20) (fun x hx => by have := hall.o x hx; omega)) (by omega)) h0 (by omega)
        go_wp2_with (first | (go_at_call 53; refine length_c _ _ _ _ ?_) | (go_at_call 85; refine within_c _ _ _ _ (fun _ => ?_) (fun _ => ?_) <;> go_prune))
        · have hin : 0 ≤ y ∧ y ≤ (n : Int) - 1 := by assumption
          go_round
          case rel =>
            refine ⟨k + 1, by omega, by go_num, by rw [hst.o hin.1 (by omega)], ?_⟩
            intro x hx
            rw [take_succ_some hy.o, List.mem_append, List.mem_singleton] at hx
            rcases hx with hx | rfl
            · exact hall.o x hx
            · omega
          case measure => simp [intOf]; omega
        · have hout : ¬ (0 ≤ y ∧ y ≤ (n : Int) - 1) := by assumption
          exact retB H' (decide_eq_false fun h => hout (by have h := h.2.2.1 y (List.mem_of_getElem? hy.o); have := hl.o; omega))
      · obtain rfl : k = n := by omega
        have e := Hd.i (isPerm_bits hx.length (by omega) (by omega) (fun x h => hall.o x (by rw [List.take_of_length_le (by have := hl.o; omega)]; exact h)))
        clear hall
        go_wp2
        rw [List.take_of_length_le (by have := hl.o; omega)]
        exact retB H' e.o
  · go_enter Try.func54, Try.ntmps54
    go_wp2_with (first | (go_at_call 53; refine length_c _ _ _ _ ?_) | (go_at_call 85; refine within_c _ _ _ _ (fun _ => ?_) (fun _ => ?_) <;> go_prune))
    exact retB H' (decide_eq_false fun h => hr (by have := h.1; have := h.2.1; have := hl.o; omega))

set_option maxHeartbeats 400000 in
theorem specIsPerm_c {R : Ending → World → Prop} (a : Option Addr) (n cap : Nat) (xs : List Int) (w : World) (hx : Ints w a n xs) (hcap : n ≤ cap)
    (H : Reads R w (.bool (decide (IsPerm xs)))) : Calls Try.prog 49 #[.slice a n cap] w R := by
  have H' := Hd.i H; clear H
  have hm := hx.le
  have hl := Hd.i hx.length
  by_cases hr : 1 ≤ (n : Int) ∧ (n : Int) ≤ 20
  · go_enter Try.func49, Try.ntmps49
    go_wp2_with (go_at_call 81; refine inRange_c _ _ _ _ (fun _ => ?_) (fun _ => ?_) <;> go_prune)
    go_loopw [4] (fun i wr => ∃ k : Nat, k ≤ n ∧ i = .int .i64 k ∧ Drew w wr ∧ Hd (GoodTo xs n k)) (fun i _ => n - (intOf i).toNat)
    case atStart => exact ⟨0, Nat.zero_le _, rfl, Drew.refl _, goodTo_zero _ _⟩
    case round =>
      obtain ⟨k, hk, rfl, hd, hg⟩ := hrel
      by_cases hlt : k < n
      · have hxr := hd.ints hx
        obtain ⟨b, off, y, rfl, hb, hcell, hy, hy1, hy2⟩ := hxr.at hlt
        have hwr := IntWalk.i64_in ((n : Int) - 1) (by omega)
        have hxt := (hxr.take hk).drewN
        by_cases hin : 0 ≤ y ∧ y ≤ (n : Int) - 1
        · by_cases hcon : (xs.take k).contains y = true
          · have hcon' := Hd.i hcon; clear hcon
            go_wp2
            go_quiet (first | (go_at_call 81; exact Calls.quiet_of_same (inRange_c _ _ _ _ (fun _ => ⟨rfl, rfl⟩) (fun h => (h hin).elim))) | (go_at_call 82; exact Calls.quiet_of_same (containsInt_c _ _ _ (xs.take k) _ _ (hxt _) ⟨by rw [hcon'.o], rfl⟩)))
            go_wp2
            exact retB (H'.o _ (hd.step nq)) (decide_eq_false (not_isPerm_dup hy.o hcon'.o))
          · have hcon' := Hd.i (Bool.eq_false_iff.2 hcon); clear hcon
            go_wp2
            go_quiet (first | (go_at_call 81; exact Calls.quiet_of_same (inRange_c _ _ _ _ (fun _ => ⟨rfl, rfl⟩) (fun h => (h hin).elim))) | (go_at_call 82; exact Calls.quiet_of_same (containsInt_c _ _ _ (xs.take k) _ _ (hxt _) ⟨by rw [hcon'.o], rfl⟩)))
            go_wp2
            go_roundw
            case rel => exact ⟨k + 1, by omega, by go_num, hd.step nq, goodTo_succ hg.o hy.o hin.1 (by omega) hcon'.o⟩
            case measure => simp [intOf]; omega
        · go_wp2
          go_quiet (first | (go_at_call 81; exact Calls.quiet_of_same (inRange_c _ _ _ _ (fun h => (hin h).elim) (fun _ => ⟨rfl, rfl⟩))))
          go_wp2
          exact retB (H'.o _ (hd.step nq)) (decide_eq_false (not_isPerm_range hl.o hy.o hin))
      · obtain rfl : k = n := by omega
        go_wp2
        exact retB (H'.o _ hd) (decide_eq_true (isPerm_good hl.o (by omega) (by omega) hg.o))
  · go_enter Try.func49, Try.ntmps49
    go_wp2_with (go_at_call 81; refine inRange_c _ _ _ _ (fun _ => ?_) (fun _ => ?_) <;> go_prune)
    exact retB (H'.o _ (Drew.refl _)) (decide_eq_false fun h => hr (by have := h.1; have := h.2.1; have := hl.o; omega))
end Go.Proofs.Ytpijnjhheikmcaa
