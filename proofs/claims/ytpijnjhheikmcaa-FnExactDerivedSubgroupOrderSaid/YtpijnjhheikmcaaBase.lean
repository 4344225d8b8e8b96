/- The small functions that all laws of this seat lean on. -/
import Derived.Test.YtpijnjhheikmcaaRows
import Derived.Test.YtpijnjhheikmcaaVoc
namespace Go.Proofs.Ytpijnjhheikmcaa
open Go.RowKit

theorem infoInt : (Try.prog.info? 2).map (fun i => (i.zero, i.size, i.bytes)) = some (some (.int .i64 0), 1, 8) := by kernel_rfl

theorem infoSl : (Try.prog.info? 23).map (fun i => (i.zero, i.size, i.bytes)) = some (some (.slice none 0 0), 1, 24) := by kernel_rfl
theorem within_c {R : Ending → World → Prop} (x lo hi : Int) (w : World) (H : lo ≤ x ∧ x ≤ hi → R (.returned (.bool true)) w) (H0 : ¬ (lo ≤ x ∧ x ≤ hi) → R (.returned (.bool false)) w) :
    Calls Try.prog 85 #[.int .i64 x, .int .i64 lo, .int .i64 hi] w R := by
  have H' := Hd.i H; clear H
  have H0' := Hd.i H0; clear H0
  by_cases h1 : lo ≤ x
  · by_cases h2 : x ≤ hi
    · go_enter Try.func85, Try.ntmps85
      go_wp2
      exact H'.o (by omega)
    · go_enter Try.func85, Try.ntmps85
      go_wp2
      exact H0'.o (by omega)
  · go_enter Try.func85, Try.ntmps85
    go_wp2
    exact H0'.o (by omega)

theorem inRange_c {R : Ending → World → Prop} (x lo hi : Int) (w : World) (H : lo ≤ x ∧ x ≤ hi → R (.returned (.bool true)) w) (H0 : ¬ (lo ≤ x ∧ x ≤ hi) → R (.returned (.bool false)) w) :
    Calls Try.prog 81 #[.int .i64 x, .int .i64 lo, .int .i64 hi] w R := by
  have H' := Hd.i H; clear H
  have H0' := Hd.i H0; clear H0
  by_cases h1 : lo ≤ x
  · by_cases h2 : x ≤ hi
    · go_enter Try.func81, Try.ntmps81
      go_wp2
      exact H'.o (by omega)
    · go_enter Try.func81, Try.ntmps81
      go_wp2
      exact H0'.o (by omega)
  · go_enter Try.func81, Try.ntmps81
    go_wp2
    exact H0'.o (by omega)

theorem length_c {R : Ending → World → Prop} (a : Option Addr) (len cap : Nat) (w : World) (H : R (.returned (.int .i64 len)) w) :
    Calls Try.prog 53 #[.slice a len cap] w R := by
  have H' := Hd.i H; clear H
  go_enter Try.func53, Try.ntmps53
  go_wp2
  exact H'.o

set_option maxHeartbeats 400000 in
theorem containsInt_c {R : Ending → World → Prop} (a : Option Addr) (n cap : Nat) (xs : List Int) (x : Int) (w : World) (hx : Ints w a n xs)
    (H : R (.returned (.bool (xs.contains x))) w) : Calls Try.prog 82 #[.slice a n cap, .int .i64 x] w R := by
  have H' := Hd.i H; clear H
  have hm := hx.le
  go_enter Try.func82, Try.ntmps82
  go_wp2
  go_loop [5] (fun i => ∃ k : Nat, k ≤ n ∧ i = .int .i64 k ∧ Hd ((xs.take k).contains x = false)) (fun i => n - (intOf i).toNat)
  case atStart => exact ⟨0, Nat.zero_le _, rfl, rfl⟩
  case round =>
    obtain ⟨k, hk, rfl, hc⟩ := hrel
    by_cases hlt : k < n
    · obtain ⟨b, off, y, rfl, hb, hcell, hy, hy1, hy2⟩ := hx.at hlt
      by_cases hxy : y = x
      · subst hxy
        go_wp2
        exact retB H' (by simpa using List.mem_of_getElem? hy.o)
      · go_wp2
        go_round
        case rel =>
          refine ⟨k + 1, by omega, by go_num, ?_⟩
          have := hc.o
          show (xs.take (k + 1)).contains x = false
          rw [take_succ_some hy.o]
          simp at this ⊢
          exact ⟨this, fun h => hxy h.symm⟩
        case measure => simp [intOf]; omega
    · go_wp2
      have h := hc.o
      rw [List.take_of_length_le (by have := hx.length; omega)] at h
      exact retB H' h

theorem set_mid {α : Type} (xs : List α) (k n : Nat) (x z : α) (h : xs[k]? = some x) (hn : xs.length = n) :
    (xs.take k ++ List.replicate (n - k) z).set k x = xs.take (k + 1) ++ List.replicate (n - (k + 1)) z := by
  have hk := (List.getElem?_eq_some_iff.1 h).1
  have hl : (xs.take k).length = k := by rw [List.length_take]; omega
  rw [List.set_append, if_neg (by omega), hl, Nat.sub_self, take_succ_some h, List.append_assoc]
  congr 1
  rw [show n - k = (n - (k + 1)) + 1 by omega, List.replicate_succ]
  rfl

set_option maxHeartbeats 400000 in
theorem toInt64S_c {R : Ending → World → Prop} (a : Option Addr) (n cap : Nat) (xs : List Int) (w : World) (hx : Ints w a n xs) (hn : n ≤ 1048576)
    (H : MakesI R w xs) :
    Calls Try.prog 18 #[.slice a n cap] w R := by
  have H' := Hd.i H; clear H
  obtain ⟨w1, hmk, hs1, hb1, how1⟩ := make_own w 23 2 (.int .i64 0) 8 Try.underlying23 infoInt rfl n (by omega) (by omega)
  go_enter Try.func18, Try.ntmps18
  go_wp2
  go_loopw [4] (fun i wr => ∃ k : Nat, k ≤ n ∧ i = .int .i64 k ∧ Own wr w.heap.size 2 (some ⟨w.heap.size, 0, none⟩) n n ((xs.take k ++ List.replicate (n - k) 0).map (Value.int .i64)) ∧ Below w.heap.size w wr ∧ Hd (wr.heap.size = w.heap.size + 1))
    (fun i _ => n - (intOf i).toNat)
  case atStart => exact ⟨0, Nat.zero_le _, rfl, by simpa using how1, hb1, hs1⟩
  case round =>
    obtain ⟨k, hk, rfl, how, hbel, hsz⟩ := hrel
    by_cases hlt : k < n
    · obtain ⟨b, off, y, rfl, hb, hcell, hy, hy1, hy2⟩ := (hx.up hbel).at hlt
      obtain ⟨v, hc2, hf2, _⟩ := how.at' hlt
      have hst := how.store (k := k) (.int .i64 y)
      have hbel' := hbel.setCell (p := ⟨w.heap.size, k, none⟩) (Nat.le_refl _) (.int .i64 y)
      go_wp2
      go_roundw
      case rel =>
        rw [← List.map_set, set_mid xs k n y 0 hy.o hx.length] at hst
        exact ⟨k + 1, by omega, by go_num, hst, hbel', (size_store _ _ _).trans hsz.o⟩
      case measure => simp [intOf]; omega
    · obtain rfl : k = n := by omega
      go_wp2
      refine H'.o _ _ _ _ hbel ⟨?_, hx.2⟩
      have := how
      rw [Nat.sub_self, List.take_of_length_le (by have := hx.length; omega)] at this
      simpa using this

theorem take_eq_succ {α : Type} {xs ys : List α} {k : Nat} {x : α} (h : xs.take k = ys.take k) (hx : xs[k]? = some x) (hy : ys[k]? = some x) : xs.take (k + 1) = ys.take (k + 1) := by
  rw [take_succ_some hx, take_succ_some hy, h]

set_option maxHeartbeats 400000 in
theorem eqInt64S_c {R : Ending → World → Prop} (a : Option Addr) (n cap : Nat) (xs : List Int) (a' : Option Addr) (n' cap' : Nat) (ys : List Int) (w : World) (hx : Ints w a n xs) (hy : Ints w a' n' ys)
    (H : Reads R w (.bool (decide (xs = ys)))) :
    Calls Try.prog 21 #[.slice a n cap, .slice a' n' cap'] w R := by
  have H' := Hd.i H; clear H
  by_cases hnn : n = n'
  · subst hnn
    have hm := hx.le
    go_enter Try.func21, Try.ntmps21
    go_wp2
    go_loopw [5] (fun i wr => ∃ k : Nat, k ≤ n ∧ i = .int .i64 k ∧ Drew w wr ∧ Hd (xs.take k = ys.take k)) (fun i _ => n - (intOf i).toNat)
    case atStart => exact ⟨0, Nat.zero_le _, rfl, Drew.refl _, rfl⟩
    case round =>
      obtain ⟨k, hk, rfl, hd, hc⟩ := hrel
      by_cases hlt : k < n
      · obtain ⟨b, off, x, rfl, hb, hcell, hxk, hx1, hx2⟩ := (hd.ints hx).at hlt
        obtain ⟨b', off', y, rfl, hb', hcell', hyk, hy1, hy2⟩ := (hd.ints hy).at hlt
        by_cases hxy : x = y
        · subst hxy
          go_wp2
          go_quiet (fail)
          go_wp2
          go_roundw
          case rel => exact ⟨k + 1, by omega, by go_num, hd.step nq, take_eq_succ hc.o hxk.o hyk.o⟩
          case measure => simp [intOf]; omega
        · go_wp2
          go_quiet (fail)
          go_wp2
          exact retB (H'.o _ (hd.step nq)) (decide_eq_false (fun e => hxy (by have h1 := hxk.o; have h2 := hyk.o; rw [e] at h1; rw [h1] at h2; exact Option.some.inj h2)))
      · go_wp2
        have h := hc.o
        rw [List.take_of_length_le (by have := hx.length; omega), List.take_of_length_le (by have := hy.length; omega)] at h
        exact retB (H'.o _ hd) (by simpa using h)
  · go_enter Try.func21, Try.ntmps21
    go_wp2
    exact retB (H'.o _ (Drew.refl _)) (by simpa using fun e => hnn (by rw [← hx.length, ← hy.length, e]))

set_option maxHeartbeats 400000 in
theorem markInt64S_c {R : Ending → World → Prop} (B : Nat) (a : Option Addr) (n cap : Nat) (xs : List Int) (k : Int) (w : World) (hx : OwnI w B a n cap xs) (hk0 : 0 ≤ k) (hk1 : k + n ≤ 4611686018427387904)
    (H : ∀ w', Wrote a w w' → OwnI w' B a n cap (marks k n) → R (.returned (.int .i64 (k + n))) w') :
    Calls Try.prog 33 #[.slice a n cap, .int .i64 k] w R := by
  have H' := Hd.i H; clear H
  have hl := Hd.i hx.length
  go_enter Try.func33, Try.ntmps33
  go_wp2
  go_loopw [1, 5] (fun q i wr => ∃ j : Nat, j ≤ n ∧ i = .int .i64 j ∧ q = .int .i64 (k + j) ∧ Wrote a w wr ∧ Own wr B 2 a n cap ((marks k j ++ xs.drop j).map (Value.int .i64))) (fun _ i _ => n - (intOf i).toNat)
  case atStart => exact ⟨0, Nat.zero_le _, rfl, by simp, Wrote.refl _ _, by simpa [marks] using hx.1⟩
  case round =>
    obtain ⟨j, hj, rfl, rfl, hw, ho⟩ := hrel
    by_cases hlt : j < n
    · obtain ⟨g, v, rfl, hg1, hg2, hc, hf, _⟩ := ho.at hlt
      have ho2 := ho.store (k := j) (.int .i64 (k + j))
      have hw2 := hw.store rfl j (.int .i64 (k + j))
      go_wp2
      go_roundw
      case rel =>
        refine ⟨j + 1, by omega, by go_num, by go_num, hw2, ?_⟩
        rw [← List.map_set, set_front _ _ _ _ (marks_length _ _) (by have := hl.o; omega), ← marks_succ] at ho2
        exact ho2
      case measure => simp [intOf]; omega
    · obtain rfl : j = n := by omega
      go_wp2
      refine H'.o _ hw ⟨?_, ?_⟩
      · have := ho
        rw [List.drop_of_length_le (by have := hl.o; omega), List.append_nil] at this
        exact this
      · intro x hx
        simp only [marks, List.mem_map, List.mem_range] at hx
        obtain ⟨i, hi, rfl⟩ := hx
        omega

set_option maxHeartbeats 400000 in
theorem heldInt64S_c {R : Ending → World → Prop} (a : Option Addr) (n cap : Nat) (k : Int) (w : World) (hx : Ints w a n (marks k n)) (hk0 : 0 ≤ k) (hk1 : k + n ≤ 4611686018427387904)
    (H : R (.returned (.int .i64 (k + n))) w) :
    Calls Try.prog 34 #[.slice a n cap, .int .i64 k] w R := by
  have H' := Hd.i H; clear H
  go_enter Try.func34, Try.ntmps34
  go_wp2
  go_loop [1, 5] (fun q i => ∃ j : Nat, j ≤ n ∧ i = .int .i64 j ∧ q = .int .i64 (k + j)) (fun _ i => n - (intOf i).toNat)
  case atStart => exact ⟨0, Nat.zero_le _, rfl, by simp⟩
  case round =>
    obtain ⟨j, hj, rfl, rfl⟩ := hrel
    by_cases hlt : j < n
    · obtain ⟨b, off, y, rfl, hb, hcell, hy, hy1, hy2⟩ := hx.at hlt
      have h := hy.o
      rw [marks_get k n j hlt] at h
      obtain rfl := Option.some.inj h
      clear hy h
      go_wp2
      go_round
      case rel => exact ⟨j + 1, by omega, by go_num, by go_num⟩
      case measure => simp [intOf]; omega
    · obtain rfl : j = n := by omega
      go_wp2
      exact H'.o
end Go.Proofs.Ytpijnjhheikmcaa
