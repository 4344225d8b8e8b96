/- MinimalBlockSystems: partitions compared. -/
import Derived.Test.YtiekjklhojmnoaaMat3
import Derived.Test.YtiekjklhojmnoaaAbel
import Derived.Test.YtiekjklhojmnoaaMinK
namespace Go.Proofs.Ytiekjklhojmnoaa
open Go.RowKit

theorem same1_c {R : Ending → World → Prop} (a : Option Addr) (n cap : Nat) (xs : List Int) (a' : Option Addr) (n' cap' : Nat) (ys : List Int) (w : World) (hx : Ints w a n xs) (hy : Ints w a' n' ys)
    (H : Reads R w (.bool (decide (xs = ys)))) :
    Calls Try.prog 113 #[.slice a n cap, .slice a' n' cap'] w R := by
  have H' := Hd.i H; clear H
  go_enter Try.func113, Try.ntmps113
  go_wp2_with (go_at_call 114; refine slicesEqual_c _ _ _ xs _ _ _ ys _ hx hy ?_; intro w2 hd2)
  exact H'.o _ hd2
set_option maxHeartbeats 1000000 in
theorem equalFunc_c {R : Ending → World → Prop} (a : Option Addr) (n cap : Nat) (xss : List (List Int)) (a' : Option Addr) (n' cap' : Nat) (yss : List (List Int)) (w : World) (hx : Mat w a n xss) (hy : Mat w a' n' yss)
    (H : Reads R w (.bool (decide (xss = yss)))) :
    Calls Try.prog 112 #[.slice a n cap, .slice a' n' cap', .func (.func 113) #[] #[]] w R := by
  have H' := Hd.i H; clear H
  by_cases hnn : n = n'
  · subst hnn
    have hm := hx.le
    go_enter Try.func112, Try.ntmps112
    go_wp2
    go_loopw [17] (fun i wr => ∃ k : Nat, k ≤ n ∧ i = .int .i64 k ∧ Drew w wr ∧ Hd (xss.take k = yss.take k)) (fun i _ => n - (intOf i).toNat)
    case atStart => exact ⟨0, Nat.zero_le _, rfl, Drew.refl _, rfl⟩
    case round =>
      obtain ⟨k, hk, rfl, hd, hc⟩ := hrel
      by_cases hlt : k < n
      · obtain ⟨b, off, p1, m1, c1, xs, rfl, hb, hcell, hxk, hix, _⟩ := (hd.rows hx).at hlt
        obtain ⟨b', off', p2, m2, c2, ys, rfl, hb', hcell', hyk, hiy, _⟩ := (hd.rows hy).at hlt
        by_cases hxy : xs = ys
        · have hdec := Hd.i (decide_eq_true hxy)
          go_wp2_with (go_at_call 113; refine same1_c _ _ _ xs _ _ _ ys _ hix hiy ?_; intro w2 hd2; rw [hdec.o])
          exact ⟨⟨k + 1, by omega, by go_num, hd.trans hd2, take_eq_succ hc.o hxk.o (hxy ▸ hyk.o)⟩, by simp [intOf]; omega⟩
        · have hdec := Hd.i (decide_eq_false hxy)
          go_wp2_with (go_at_call 113; refine same1_c _ _ _ xs _ _ _ ys _ hix hiy ?_; intro w2 hd2; rw [hdec.o])
          exact retB (H'.o _ (hd.trans hd2)) (decide_eq_false (fun e => hxy (by have h1 := hxk.o; have h2 := hyk.o; rw [e] at h1; rw [h1] at h2; exact Option.some.inj h2)))
      · go_wp2
        have h := hc.o
        rw [List.take_of_length_le (by have := hx.length; omega), List.take_of_length_le (by have := hy.length; omega)] at h
        exact retB (H'.o _ hd) (by simpa using h)
  · go_enter Try.func112, Try.ntmps112
    go_wp2
    exact retB (H'.o _ (Drew.refl _)) (by simpa using fun e => hnn (by rw [← hx.length, ← hy.length, e]))
theorem samePart_c {R : Ending → World → Prop} (a : Option Addr) (n cap : Nat) (xss : List (List Int)) (a' : Option Addr) (n' cap' : Nat) (yss : List (List Int)) (w : World) (hx : Mat w a n xss) (hy : Mat w a' n' yss)
    (H : Reads R w (.bool (decide (xss = yss)))) :
    Calls Try.prog 92 #[.slice a n cap, .slice a' n' cap'] w R := by
  have H' := Hd.i H; clear H
  go_enter Try.func92, Try.ntmps92
  go_wp2_with (go_at_call 112; refine equalFunc_c _ _ _ xss _ _ _ yss _ hx hy ?_; intro w2 hd2)
  exact H'.o _ hd2
theorem sameCell_c {R : Ending → World → Prop} (a : Option Addr) (n cap : Nat) (xss : List (List Int)) (a' : Option Addr) (n' cap' : Nat) (yss : List (List Int)) (bm : Nat) (w : World) (hx : Mat w a n xss) (hy : Mat w a' n' yss) (hc : w.cell? ⟨bm, 0, none⟩ = some (.slice a' n' cap'))
    (H : Reads R w (.bool (decide (xss = yss)))) :
    Calls Try.prog 91 #[.slice a n cap, .pointer (some ⟨bm, 0, none⟩)] w R := by
  have H' := Hd.i H; clear H
  go_enter Try.func91, Try.ntmps91
  go_wp2_with (go_at_call 92; refine samePart_c _ _ _ xss _ _ _ yss _ hx hy ?_; intro w2 hd2)
  exact H'.o _ hd2
theorem Drew.cell {w w' : World} (h : Drew w w') {p : Addr} {v : Value} (hc : w.cell? p = some v) : w'.cell? p = some v := by obtain ⟨m, rfl⟩ := h; exact hc
set_option maxHeartbeats 1000000 in
theorem sysIndex_c {R : Ending → World → Prop} (a : Option Addr) (n cap : Nat) (X : List (List (List Int))) (a' : Option Addr) (n' cap' : Nat) (yss : List (List Int)) (bm : Nat) (w : World) (hx : Mat3 w a n X) (hy : Mat w a' n' yss) (hc : w.cell? ⟨bm, 0, none⟩ = some (.slice a' n' cap'))
    (H : ∀ w', Drew w w' → Hd (yss ∉ X) → R (.returned (.int .i64 (-1))) w') (H2 : ∀ w', Drew w w' → ∀ k : Nat, Hd (yss ∈ X) → R (.returned (.int .i64 k)) w') :
    Calls Try.prog 111 #[.slice a n cap, .func (.func 91) #[] #[.pointer (some ⟨bm, 0, none⟩)]] w R := by
  have H' := Hd.i H; clear H
  have H2' := Hd.i H2; clear H2
  have hm := hx.le
  have hl := Hd.i hx.length
  go_enter Try.func111, Try.ntmps111
  go_wp2
  go_loopw [8] (fun i wr => ∃ k : Nat, k ≤ n ∧ i = .int .i64 k ∧ Drew w wr ∧ Hd (yss ∉ X.take k)) (fun i _ => n - (intOf i).toNat)
  case atStart => exact ⟨0, Nat.zero_le _, rfl, Drew.refl _, by simp [Hd]⟩
  case round =>
    obtain ⟨k, hk, rfl, hd, hall⟩ := hrel
    by_cases hlt : k < n
    · obtain ⟨b, off, p1, m1, c1, xss, rfl, hb, hcell, hxk, hix⟩ := (hd.rows3 hx).at hlt
      have hc' := hd.cell hc
      have hy' := hd.rows hy
      by_cases hok : xss = yss
      · have hdec := Hd.i (decide_eq_true hok)
        have hmem : Hd (yss ∈ X) := by rw [← hok]; exact List.mem_of_getElem? hxk.o
        replace hok := Hd.i hok
        go_wp2_with (go_at_call 91; refine sameCell_c _ _ _ xss _ _ _ yss bm _ hix hy' hc' ?_; intro w2 hd2; rw [hdec.o])
        exact H2'.o _ (hd.trans hd2) k hmem
      · have hdec := Hd.i (decide_eq_false hok)
        have hno : Hd (yss ∉ X.take (k + 1)) := by
          show ¬ _
          rw [take_succ_some hxk.o, List.mem_append, List.mem_singleton]
          rintro (h | h)
          · exact hall.o h
          · exact hok h.symm
        replace hok := Hd.i hok
        go_wp2_with (go_at_call 91; refine sameCell_c _ _ _ xss _ _ _ yss bm _ hix hy' hc' ?_; intro w2 hd2; rw [hdec.o])
        exact ⟨⟨k + 1, by omega, by go_num, hd.trans hd2, hno⟩, by simp [intOf]; omega⟩
    · obtain rfl : k = n := by omega
      go_wp2
      rw [List.take_of_length_le (by have := hl.o; omega)] at hall
      exact H'.o _ hd hall
theorem sysContains_c {R : Ending → World → Prop} (a : Option Addr) (n cap : Nat) (X : List (List (List Int))) (a' : Option Addr) (n' cap' : Nat) (yss : List (List Int)) (bm : Nat) (w : World) (hx : Mat3 w a n X) (hy : Mat w a' n' yss) (hc : w.cell? ⟨bm, 0, none⟩ = some (.slice a' n' cap'))
    (H : Reads R w (.bool (decide (yss ∈ X)))) :
    Calls Try.prog 90 #[.slice a n cap, .func (.func 91) #[] #[.pointer (some ⟨bm, 0, none⟩)]] w R := by
  have H' := Hd.i H; clear H
  go_enter Try.func90, Try.ntmps90
  go_wp2_with (go_at_call 111; refine sysIndex_c _ _ _ X _ _ _ yss bm _ hx hy hc (fun w2 hd2 hh => ?_) (fun w2 hd2 k hh => ?_))
  · exact retB (H'.o _ hd2) (decide_eq_false hh.o)
  · exact retB (H'.o _ hd2) (decide_eq_true hh.o)

set_option maxHeartbeats 1000000 in
theorem equalParts_c {R : Ending → World → Prop} (a : Option Addr) (n cap : Nat) (xss : List (List Int)) (a' : Option Addr) (n' cap' : Nat) (yss : List (List Int)) (w : World) (hx : Mat w a n xss) (hy : Mat w a' n' yss)
    (H : Reads R w (.bool (decide (xss = yss)))) :
    Calls Try.prog 89 #[.slice a n cap, .slice a' n' cap'] w R := by
  have H' := Hd.i H; clear H
  by_cases hnn : n = n'
  · subst hnn
    have hm := hx.le
    go_enter Try.func89, Try.ntmps89
    go_wp2
    go_loopw [5] (fun i wr => ∃ k : Nat, k ≤ n ∧ i = .int .i64 k ∧ Drew w wr ∧ Hd (xss.take k = yss.take k)) (fun i _ => n - (intOf i).toNat)
    case atStart => exact ⟨0, Nat.zero_le _, rfl, Drew.refl _, rfl⟩
    case round =>
      obtain ⟨k, hk, rfl, hd, hc⟩ := hrel
      by_cases hlt : k < n
      · obtain ⟨b, off, p1, m1, c1, xs, rfl, hb, hcell, hxk, hix, _⟩ := (hd.rows hx).at hlt
        obtain ⟨b', off', p2, m2, c2, ys, rfl, hb', hcell', hyk, hiy, _⟩ := (hd.rows hy).at hlt
        by_cases hxy : xs = ys
        · have hdec := Hd.i (decide_eq_true hxy)
          go_wp2
          go_quiet ((go_at_call 110; exact Calls.quiet_of (equalInts_c _ _ _ xs _ _ _ ys _ (hix.drewN _) (hiy.drewN _) (by intro w' hd'; exact ⟨by rw [hdec.o], hd'⟩))))
          go_wp2
          go_roundw
          case rel => exact ⟨k + 1, by omega, by go_num, hd.step nq, take_eq_succ hc.o hxk.o (hxy ▸ hyk.o)⟩
          case measure => simp [intOf]; omega
        · have hdec := Hd.i (decide_eq_false hxy)
          go_wp2
          go_quiet ((go_at_call 110; exact Calls.quiet_of (equalInts_c _ _ _ xs _ _ _ ys _ (hix.drewN _) (hiy.drewN _) (by intro w' hd'; exact ⟨by rw [hdec.o], hd'⟩))))
          go_wp2
          exact retB (H'.o _ (hd.step nq)) (decide_eq_false (fun e => hxy (by have h1 := hxk.o; have h2 := hyk.o; rw [e] at h1; rw [h1] at h2; exact Option.some.inj h2)))
      · go_wp2
        have h := hc.o
        rw [List.take_of_length_le (by have := hx.length; omega), List.take_of_length_le (by have := hy.length; omega)] at h
        exact retB (H'.o _ hd) (by simpa using h)
  · go_enter Try.func89, Try.ntmps89
    go_wp2
    exact retB (H'.o _ (Drew.refl _)) (by simpa using fun e => hnn (by rw [← hx.length, ← hy.length, e]))
end Go.Proofs.Ytiekjklhojmnoaa
