/- MinimalBlockSystems: partitions compared. -/
import Derived.Test.YtkojonjcikgikaaMat3
import Derived.Test.YtkojonjcikgikaaAbel
import Derived.Test.YtkojonjcikgikaaMinK
namespace Go.Proofs.Ytkojonjcikgikaa
open Go.RowKit

theorem same1_c {R : Ending → World → Prop} (a : Option Addr) (n cap : Nat) (xs : List Int) (a' : Option Addr) (n' cap' : Nat) (ys : List Int) (w : World) (hx : Ints w a n xs) (hy : Ints w a' n' ys)
    (H : Reads R w (.bool (decide (xs = ys)))) :
    Calls Try.prog 107 #[.slice a n cap, .slice a' n' cap'] w R := by
  have H' := Hd.i H; clear H
  go_enter Try.func107, Try.ntmps107
  go_wp2_with (go_at_call 40; refine slicesEqual_c _ _ _ xs _ _ _ ys _ hx hy ?_; intro w2 hd2)
  exact H'.o _ hd2
set_option maxHeartbeats 1000000 in
theorem equalFunc_c {R : Ending → World → Prop} (a : Option Addr) (n cap : Nat) (xss : List (List Int)) (a' : Option Addr) (n' cap' : Nat) (yss : List (List Int)) (w : World) (hx : Mat w a n xss) (hy : Mat w a' n' yss)
    (H : Reads R w (.bool (decide (xss = yss)))) :
    Calls Try.prog 106 #[.slice a n cap, .slice a' n' cap', .func (.func 107) #[] #[]] w R := by
  have H' := Hd.i H; clear H
  by_cases hnn : n = n'
  · subst hnn
    have hm := hx.le
    go_enter Try.func106, Try.ntmps106
    go_wp2
    go_loopw [17] (fun i wr => ∃ k : Nat, k ≤ n ∧ i = .int .i64 k ∧ Drew w wr ∧ Hd (xss.take k = yss.take k)) (fun i _ => n - (intOf i).toNat)
    case atStart => exact ⟨0, Nat.zero_le _, rfl, Drew.refl _, rfl⟩
    case round =>
      obtain ⟨k, hk, rfl, hd, hc⟩ := hrel
      by_cases hlt : k < n
      · obtain ⟨b, off, p1, m1, c1, xs, rfl, hb, hcell, hxk, hix, _⟩ := (hd.rows hx).at hlt
        obtain ⟨b', off', p2, m2, c2, ys, rfl, hb', hcell', hyk, hiy, _⟩ := (hd.rows hy).at hlt
        by_cases hxy : xs = ys
        · have hdec := Hd.i (decide_eq_true hxy)
          go_wp2_with (go_at_call 107; refine same1_c _ _ _ xs _ _ _ ys _ hix hiy ?_; intro w2 hd2; rw [hdec.o])
          exact ⟨⟨k + 1, by omega, by go_num, hd.trans hd2, take_eq_succ hc.o hxk.o (hxy ▸ hyk.o)⟩, by simp [intOf]; omega⟩
        · have hdec := Hd.i (decide_eq_false hxy)
          go_wp2_with (go_at_call 107; refine same1_c _ _ _ xs _ _ _ ys _ hix hiy ?_; intro w2 hd2; rw [hdec.o])
          exact retB (H'.o _ (hd.trans hd2)) (decide_eq_false (fun e => hxy (by have h1 := hxk.o; have h2 := hyk.o; rw [e] at h1; rw [h1] at h2; exact Option.some.inj h2)))
      · go_wp2
        have h := hc.o
        rw [List.take_of_length_le (by have := hx.length; omega), List.take_of_length_le (by have := hy.length; omega)] at h
        exact retB (H'.o _ hd) (by simpa using h)
  · go_enter Try.func106, Try.ntmps106
    go_wp2
    exact retB (H'.o _ (Drew.refl _)) (by simpa using fun e => hnn (by rw [← hx.length, ← hy.length, e]))
theorem samePart_c {R : Ending → World → Prop} (a : Option Addr) (n cap : Nat) (xss : List (List Int)) (a' : Option Addr) (n' cap' : Nat) (yss : List (List Int)) (w : World) (hx : Mat w a n xss) (hy : Mat w a' n' yss)
    (H : Reads R w (.bool (decide (xss = yss)))) :
    Calls Try.prog 83 #[.slice a n cap, .slice a' n' cap'] w R := by
  have H' := Hd.i H; clear H
  go_enter Try.func83, Try.ntmps83
  go_wp2_with (go_at_call 106; refine equalFunc_c _ _ _ xss _ _ _ yss _ hx hy ?_; intro w2 hd2)
  exact H'.o _ hd2
theorem sameCell_c {R : Ending → World → Prop} (a : Option Addr) (n cap : Nat) (xss : List (List Int)) (a' : Option Addr) (n' cap' : Nat) (yss : List (List Int)) (bm : Nat) (w : World) (hx : Mat w a n xss) (hy : Mat w a' n' yss) (hc : w.cell? ⟨bm, 0, none⟩ = some (.slice a' n' cap'))
    (H : Reads R w (.bool (decide (xss = yss)))) :
    Calls Try.prog 82 #[.slice a n cap, .pointer (some ⟨bm, 0, none⟩)] w R := by
  have H' := Hd.i H; clear H
  go_enter Try.func82, Try.ntmps82
  go_wp2_with (go_at_call 83; refine samePart_c _ _ _ xss _ _ _ yss _ hx hy ?_; intro w2 hd2)
  exact H'.o _ hd2
theorem Drew.cell {w w' : World} (h : Drew w w') {p : Addr} {v : Value} (hc : w.cell? p = some v) : w'.cell? p = some v := by obtain ⟨m, rfl⟩ := h; exact hc
set_option maxHeartbeats 1000000 in
theorem sysIndex_c {R : Ending → World → Prop} (a : Option Addr) (n cap : Nat) (X : List (List (List Int))) (a' : Option Addr) (n' cap' : Nat) (yss : List (List Int)) (bm : Nat) (w : World) (hx : Mat3 w a n X) (hy : Mat w a' n' yss) (hc : w.cell? ⟨bm, 0, none⟩ = some (.slice a' n' cap'))
    (H : ∀ w', Drew w w' → Hd (yss ∉ X) → R (.returned (.int .i64 (-1))) w') (H2 : ∀ w', Drew w w' → ∀ k : Nat, Hd (yss ∈ X) → R (.returned (.int .i64 k)) w') :
    Calls Try.prog 105 #[.slice a n cap, .func (.func 82) #[] #[.pointer (some ⟨bm, 0, none⟩)]] w R := by
  have H' := Hd.i H; clear H
  have H2' := Hd.i H2; clear H2
  have hm := hx.le
  have hl := Hd.i hx.length
  go_enter Try.func105, Try.ntmps105
  go_wp2
  go_loopw [8] (fun i wr => ∃ k : Nat, k ≤ n ∧ i = .int .i64 k ∧ Drew w wr ∧ Hd (yss ∉ X.take k)) (fun i _ => n - (intOf i).toNat)
  case atStart => exact ⟨0, Nat.zero_le _, rfl, Drew.refl _, by simp [Hd]⟩
  case round =>
    obtain ⟨k, hk, rfl, hd, hall⟩ := hrel
    by_cases hlt : k < n
    · obtain ⟨b, off, p1, m1, c1, xss, rfl, hb, hcell, hxk, hix⟩ := (hd.rows3 hx).at hlt
      have hc' := hd.cell hc
      have hy' := hd.rows hy
      by_cases hok : xss = yss
      · have hdec := Hd.i (decide_eq_true hok)
        have hmem : Hd (yss ∈ X) := by rw [← hok]; exact List.mem_of_getElem? hxk.o
        replace hok := Hd.i hok
        go_wp2_with (go_at_call 82; refine sameCell_c _ _ _ xss _ _ _ yss bm _ hix hy' hc' ?_; intro w2 hd2; rw [hdec.o])
        exact H2'.o _ (hd.trans hd2) k hmem
      · have hdec := Hd.i (decide_eq_false hok)
        have hno : Hd (yss ∉ X.take (k + 1)) := by
          show ¬ _
          rw [take_succ_some hxk.o, List.mem_append, List.mem_singleton]
          rintro (h | h)
          · exact hall.o h
          · exact hok h.symm
        replace hok := Hd.i hok
        go_wp2_with (go_at_call 82; refine sameCell_c _ _ _ xss _ _ _ yss bm _ hix hy' hc' ?_; intro w2 hd2; rw [hdec.o])
        exact ⟨⟨k + 1, by omega, by go_num, hd.trans hd2, hno⟩, by simp [intOf]; omega⟩
    · obtain rfl : k = n := by omega
      go_wp2
      rw [List.take_of_length_le (by have := hl.o; omega)] at hall
      exact H'.o _ hd hall
theorem sysContains_c {R : Ending → World → Prop} (a : Option Addr) (n cap : Nat) (X : List (List (List Int))) (a' : Option Addr) (n' cap' : Nat) (yss : List (List Int)) (bm : Nat) (w : World) (hx : Mat3 w a n X) (hy : Mat w a' n' yss) (hc : w.cell? ⟨bm, 0, none⟩ = some (.slice a' n' cap'))
    (H : Reads R w (.bool (decide (yss ∈ X)))) :
    Calls Try.prog 81 #[.slice a n cap, .func (.func 82) #[] #[.pointer (some ⟨bm, 0, none⟩)]] w R := by
  have H' := Hd.i H; clear H
  go_enter Try.func81, Try.ntmps81
  go_wp2_with (go_at_call 105; refine sysIndex_c _ _ _ X _ _ _ yss bm _ hx hy hc (fun w2 hd2 hh => ?_) (fun w2 hd2 k hh => ?_))
  · exact retB (H'.o _ hd2) (decide_eq_false hh.o)
  · exact retB (H'.o _ hd2) (decide_eq_true hh.o)

end Go.Proofs.Ytkojonjcikgikaa
