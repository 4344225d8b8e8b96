/- IsAbelian, InverseGenerators. -/
import Derived.Test.YtkojonjcikgikaaGen
import Derived.Test.YtkojonjcikgikaaPureGroup
namespace Go.Proofs.Ytkojonjcikgikaa
open Go.RowKit

set_option maxHeartbeats 400000 in
theorem equalInts_c {R : Ending → World → Prop} (a : Option Addr) (n cap : Nat) (xs : List Int) (a' : Option Addr) (n' cap' : Nat) (ys : List Int) (w : World) (hx : Ints w a n xs) (hy : Ints w a' n' ys)
    (H : Reads R w (.bool (decide (xs = ys)))) :
    Calls Try.prog 47 #[.slice a n cap, .slice a' n' cap'] w R := by
  have H' := Hd.i H; clear H
  by_cases hnn : n = n'
  · subst hnn
    have hm := hx.le
    go_enter Try.func47, Try.ntmps47
    go_wp2
    go_loopw [5] (fun i wr => ∃ k : Nat, k ≤ n ∧ i = .int .i64 k ∧ Drew w wr ∧ Hd (xs.take k = ys.take k)) (fun i _ => n - (intOf i).toNat)
    case atStart => exact ⟨0, Nat.zero_le _, rfl, Drew.refl _, rfl⟩
    case round =>
      obtain ⟨k, hk, rfl, hd, hc⟩ := hrel
      by_cases hlt : k < n
      · obtain ⟨b, off, x, rfl, hb, hcell, hxk, hx1, hx2⟩ := (hd.ints hx).at hlt
        obtain ⟨b', off', y, rfl, hb', hcell', hyk, hy1, hy2⟩ := (hd.ints hy).at hlt
        by_cases hxy : x = y
        · subst hxy
          go_wp2
          go_quiet (fail)
          go_wp2
          go_roundw
          case rel => exact ⟨k + 1, by omega, by go_num, hd.step nq, take_eq_succ hc.o hxk.o hyk.o⟩
          case measure => simp [intOf]; omega
        · go_wp2
          go_quiet (fail)
          go_wp2
          exact retB (H'.o _ (hd.step nq)) (decide_eq_false (fun e => hxy (by have h1 := hxk.o; have h2 := hyk.o; rw [e] at h1; rw [h1] at h2; exact Option.some.inj h2)))
      · go_wp2
        have h := hc.o
        rw [List.take_of_length_le (by have := hx.length; omega), List.take_of_length_le (by have := hy.length; omega)] at h
        exact retB (H'.o _ hd) (by simpa using h)
  · go_enter Try.func47, Try.ntmps47
    go_wp2
    exact retB (H'.o _ (Drew.refl _)) (by simpa using fun e => hnn (by rw [← hx.length, ← hy.length, e]))

set_option maxHeartbeats 400000 in
theorem slicesEqual_c {R : Ending → World → Prop} (a : Option Addr) (n cap : Nat) (xs : List Int) (a' : Option Addr) (n' cap' : Nat) (ys : List Int) (w : World) (hx : Ints w a n xs) (hy : Ints w a' n' ys)
    (H : Reads R w (.bool (decide (xs = ys)))) :
    Calls Try.prog 40 #[.slice a n cap, .slice a' n' cap'] w R := by
  have H' := Hd.i H; clear H
  by_cases hnn : n = n'
  · subst hnn
    have hm := hx.le
    go_enter Try.func40, Try.ntmps40
    go_wp2
    go_loopw [13] (fun i wr => ∃ k : Nat, k ≤ n ∧ i = .int .i64 k ∧ Drew w wr ∧ Hd (xs.take k = ys.take k)) (fun i _ => n - (intOf i).toNat)
    case atStart => exact ⟨0, Nat.zero_le _, rfl, Drew.refl _, rfl⟩
    case round =>
      obtain ⟨k, hk, rfl, hd, hc⟩ := hrel
      by_cases hlt : k < n
      · obtain ⟨b, off, x, rfl, hb, hcell, hxk, hx1, hx2⟩ := (hd.ints hx).at hlt
        obtain ⟨b', off', y, rfl, hb', hcell', hyk, hy1, hy2⟩ := (hd.ints hy).at hlt
        by_cases hxy : x = y
        · subst hxy
          go_wp2
          go_quiet (fail)
          go_wp2
          go_roundw
          case rel => exact ⟨k + 1, by omega, by go_num, hd.step nq, take_eq_succ hc.o hxk.o hyk.o⟩
          case measure => simp [intOf]; omega
        · go_wp2
          go_quiet (fail)
          go_wp2
          exact retB (H'.o _ (hd.step nq)) (decide_eq_false (fun e => hxy (by have h1 := hxk.o; have h2 := hyk.o; rw [e] at h1; rw [h1] at h2; exact Option.some.inj h2)))
      · go_wp2
        have h := hc.o
        rw [List.take_of_length_le (by have := hx.length; omega), List.take_of_length_le (by have := hy.length; omega)] at h
        exact retB (H'.o _ hd) (by simpa using h)
  · go_enter Try.func40, Try.ntmps40
    go_wp2
    exact retB (H'.o _ (Drew.refl _)) (by simpa using fun e => hnn (by rw [← hx.length, ← hy.length, e]))


def Abel (z : Int) (xss : List (List Int)) : Prop := GenSet z xss ∧ ∀ p ∈ xss, ∀ q ∈ xss, comp p q = comp q p
instance (z : Int) (xss : List (List Int)) : Decidable (Abel z xss) := inferInstanceAs (Decidable (_ ∧ _))
theorem GenSet.pair {z : Int} {xss : List (List Int)} (h : GenSet z xss) {p q : List Int} (hp : p ∈ xss) (hq : q ∈ xss) : PermPair p q := by
  have h1 := h.perm hp
  have h2 := h.perm hq
  exact ⟨by omega, h1.1, h2.1⟩
theorem allOk {α : Type} {P : α → Prop} {l : List α} {k : Nat} {x : α} (h : ∀ q ∈ l.take k, P q) (hx : l[k]? = some x) (hp : P x) : ∀ q ∈ l.take (k + 1), P q := by
  rw [take_succ_some hx]
  intro q hq
  rcases List.mem_append.1 hq with hq | hq
  · exact h q hq
  · obtain rfl := List.mem_singleton.1 hq
    exact hp

def pInverses (z : Int) (xss : List (List Int)) : List (List Int) := if GenSet z xss then xss.map inv else []
theorem pInverses_cells (z : Int) (xss : List (List Int)) : cells (pInverses z xss) ≤ bulk xss := by
  unfold pInverses
  split
  · have e : (xss.map inv).map List.length = xss.map List.length := by
      rw [List.map_map]
      exact List.map_congr_left fun x _ => inv_length x
    unfold cells
    rw [e]
    exact cells_le xss
  · simp [cells]
end Go.Proofs.Ytkojonjcikgikaa
