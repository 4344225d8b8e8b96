/- Valid words: the program's and the reference's test. -/
import Derived.Test.YtiekjklhojmnoaaBase
import Derived.Test.YtiekjklhojmnoaaPureWord
import Derived.Test.YtiekjklhojmnoaaApp
import Derived.Deep.RegionWith
namespace Go.Proofs.Ytiekjklhojmnoaa
open Go.RowKit

set_option maxHeartbeats 400000 in
theorem specIsWordOf_c {R : Ending → World → Prop} (g : Int) (a : Option Addr) (n cap : Nat) (xs : List Int) (w : World) (hx : Ints w a n xs) (hg : 0 ≤ g ∧ g ≤ 1000000)
    (H : R (.returned (.bool (decide (WordOf g xs)))) w) : Calls Try.prog 53 #[.int .i64 g, .slice a n cap] w R := by
  have H' := Hd.i H; clear H
  have hm := hx.le
  have hl := Hd.i hx.length
  by_cases hn : n ≤ 200
  · go_enter Try.func53, Try.ntmps53
    go_wp2
    go_loop [5] (fun i => ∃ k : Nat, k ≤ n ∧ i = .int .i64 k ∧ Hd (∀ l ∈ xs.take k, OkL (min g 8) l)) (fun i => n - (intOf i).toNat)
    case atStart => exact ⟨0, Nat.zero_le _, rfl, by simp [Hd]⟩
    case round =>
      obtain ⟨k, hk, rfl, hc⟩ := hrel
      by_cases hlt : k < n
      · obtain ⟨b, off, y, rfl, hb, hcell, hy, hy1, hy2⟩ := hx.at hlt
        have bad : Hd (¬ OkL (min g 8) y → decide (WordOf g xs) = false) := fun hb => decide_eq_false fun h => hb (h.2 y (List.mem_of_getElem? hy.o))
        by_cases h0 : y = 0
        · subst h0
          go_wp2_with (go_at_call 77; refine inRange_c _ _ _ _ (fun _ => ?_) (fun _ => ?_) <;> go_prune)
          exact retB H' (bad.o fun h => h.1 rfl)
        · have h0b : (y == 0) = false := by simpa using h0
          by_cases h1 : -8 ≤ y ∧ y ≤ 8
          · by_cases h2 : g < y
            · go_wp2_with (go_at_call 77; refine inRange_c _ _ _ _ (fun _ => ?_) (fun _ => ?_) <;> go_prune)
              exact retB H' (bad.o fun h => by have := h.2.2; omega)
            · by_cases h3 : g < -y
              · go_wp2_with (go_at_call 77; refine inRange_c _ _ _ _ (fun _ => ?_) (fun _ => ?_) <;> go_prune)
                exact retB H' (bad.o fun h => by have := h.2.1; omega)
              · go_wp2_with (go_at_call 77; refine inRange_c _ _ _ _ (fun _ => ?_) (fun _ => ?_) <;> go_prune)
                exact ⟨⟨k + 1, by omega, by go_num, allTo_succ hc.o hy.o ⟨h0, by omega, by omega⟩⟩, by simp [intOf]; omega⟩
          · go_wp2_with (go_at_call 77; refine inRange_c _ _ _ _ (fun _ => ?_) (fun _ => ?_) <;> go_prune)
            exact retB H' (bad.o fun h => by have := h.2; omega)
      · obtain rfl : k = n := by omega
        go_wp2
        have h := hc.o
        rw [List.take_of_length_le (by have := hl.o; omega)] at h
        exact retB H' (decide_eq_true ⟨by have := hl.o; omega, h⟩)
  · go_enter Try.func53, Try.ntmps53
    go_wp2
    exact retB H' (decide_eq_false fun h => hn (by have := h.1; have := hl.o; omega))

set_option maxHeartbeats 400000 in
theorem validLetter_c {R : Ending → World → Prop} (l most : Int) (bm : Nat) (w : World) (hc : w.cell? ⟨bm, 0, none⟩ = some (.int .i64 most)) (h0 : 0 ≤ most) (h8 : most ≤ 8)
    (H : R (.returned (.bool (!decide (OkL most l)))) w) : Calls Try.prog 100 #[.int .i64 l, .pointer (some ⟨bm, 0, none⟩)] w R := by
  have H' := Hd.i H; clear H
  by_cases hl : l = 0
  · subst hl
    go_enter Try.func100, Try.ntmps100
    go_wp2
    exact retB H' (by simp [OkL])
  · by_cases hr : -most ≤ l ∧ l ≤ most
    · go_enter Try.func100, Try.ntmps100
      go_wp2_with (go_at_call 82; refine within_c _ _ _ _ (fun _ => ?_) (fun _ => ?_) <;> go_prune)
      exact retB H' (by simp [OkL, hl, hr])
    · go_enter Try.func100, Try.ntmps100
      go_wp2_with (go_at_call 82; refine within_c _ _ _ _ (fun _ => ?_) (fun _ => ?_) <;> go_prune)
      exact retB H' (by simp [OkL, hl]; omega)

set_option maxHeartbeats 400000 in
theorem validIndex_c {R : Ending → World → Prop} (a : Option Addr) (n cap : Nat) (xs : List Int) (most : Int) (bm : Nat) (w : World) (hx : Ints w a n xs) (hc : w.cell? ⟨bm, 0, none⟩ = some (.int .i64 most)) (h0 : 0 ≤ most) (h8 : most ≤ 8)
    (H : (∀ l ∈ xs, OkL most l) → R (.returned (.int .i64 (-1))) w) (H2 : ∀ k : Nat, ¬ (∀ l ∈ xs, OkL most l) → R (.returned (.int .i64 k)) w) :
    Calls Try.prog 116 #[.slice a n cap, .func (.func 100) #[] #[.pointer (some ⟨bm, 0, none⟩)]] w R := by
  have H' := Hd.i H; clear H
  have H2' := Hd.i H2; clear H2
  have hm := hx.le
  have hl := Hd.i hx.length
  go_enter Try.func116, Try.ntmps116
  go_wp2
  go_loop [8] (fun i => ∃ k : Nat, k ≤ n ∧ i = .int .i64 k ∧ Hd (∀ l ∈ xs.take k, OkL most l)) (fun i => n - (intOf i).toNat)
  case atStart => exact ⟨0, Nat.zero_le _, rfl, by simp [Hd]⟩
  case round =>
    obtain ⟨k, hk, rfl, hall⟩ := hrel
    by_cases hlt : k < n
    · obtain ⟨b, off, y, rfl, hb, hcell, hy, hy1, hy2⟩ := hx.at hlt
      by_cases hok : OkL most y
      · go_wp2_with (go_at_call 100; refine validLetter_c _ most bm _ hc h0 h8 ?_)
        exact ⟨⟨k + 1, by omega, by go_num, allTo_succ hall.o hy.o hok⟩, by simp [intOf]; omega⟩
      · go_wp2_with (go_at_call 100; refine validLetter_c _ most bm _ hc h0 h8 ?_)
        exact H2'.o k (fun h => hok (h y (List.mem_of_getElem? hy.o)))
    · obtain rfl : k = n := by omega
      go_wp2
      have h := hall.o
      rw [List.take_of_length_le (by have := hl.o; omega)] at h
      exact H'.o h

theorem validContains_c {R : Ending → World → Prop} (a : Option Addr) (n cap : Nat) (xs : List Int) (most : Int) (bm : Nat) (w : World) (hx : Ints w a n xs) (hc : w.cell? ⟨bm, 0, none⟩ = some (.int .i64 most)) (h0 : 0 ≤ most) (h8 : most ≤ 8)
    (H : (∀ l ∈ xs, OkL most l) → R (.returned (.bool false)) w) (H2 : ¬ (∀ l ∈ xs, OkL most l) → R (.returned (.bool true)) w) :
    Calls Try.prog 99 #[.slice a n cap, .func (.func 100) #[] #[.pointer (some ⟨bm, 0, none⟩)]] w R := by
  have H' := Hd.i H; clear H
  have H2' := Hd.i H2; clear H2
  go_enter Try.func99, Try.ntmps99
  go_wp2_with (go_at_call 116; refine validIndex_c _ _ _ xs most bm _ hx hc h0 h8 (fun hh => ?_) (fun k hh => ?_) <;> replace hh := Hd.i hh)
  · exact H'.o hh.o
  · exact H2'.o hh.o

/-- IsValidWord makes a variable for its bound. -/
theorem implIsValidWord_c {R : Ending → World → Prop} (g : Int) (a : Option Addr) (n cap : Nat) (xs : List Int) (w : World) (hx : Ints w a n xs) (hg : 0 ≤ g ∧ g ≤ 1000000)
    (H : Gives R w (.bool (decide (WordOf g xs)))) : Calls Try.prog 56 #[.int .i64 g, .slice a n cap] w R := by
  have H' := Hd.i H; clear H
  have hl := Hd.i hx.length
  have hcell : ∀ v : Value, (w.alloc (.cells #[v] 2)).cell? ⟨w.heap.size, 0, none⟩ = some v := fun v => by rw [World.cell?_alloc_at _ _ _ _ rfl]; rfl
  have hcell := Hd.i hcell
  have hbel := fun o => (Below.refl w.heap.size w).alloc (Nat.le_refl _) o
  by_cases hn : n ≤ 200
  · by_cases hg8 : g ≤ 8
    · have e := Hd.i (show min g 8 = g by omega)
      go_enter Try.func56, Try.ntmps56
      go_wp2_with (go_at_call 99; refine validContains_c _ _ _ xs g _ _ (hx.up (hbel _)) (hcell.o _) hg.1 hg8 (fun hh => ?_) (fun hh => ?_) <;> replace hh := Hd.i hh)
      · exact retB (H'.o _ (hbel _)) (decide_eq_true ⟨by have := hl.o; omega, by rw [e.o]; exact hh.o⟩)
      · exact retB (H'.o _ (hbel _)) (decide_eq_false fun h => hh.o (by have := h.2; rw [e.o] at this; exact this))
    · have e := Hd.i (show min g 8 = 8 by omega)
      go_enter Try.func56, Try.ntmps56
      go_wp2_with (go_at_call 99; refine validContains_c _ _ _ xs 8 _ _ (hx.up (hbel _)) (hcell.o _) (by omega) (by omega) (fun hh => ?_) (fun hh => ?_) <;> replace hh := Hd.i hh)
      · exact retB (H'.o _ (hbel _)) (decide_eq_true ⟨by have := hl.o; omega, by rw [e.o]; exact hh.o⟩)
      · exact retB (H'.o _ (hbel _)) (decide_eq_false fun h => hh.o (by have := h.2; rw [e.o] at this; exact this))
  · have e := Hd.i (show decide (WordOf g xs) = false from decide_eq_false fun h => hn (by have := h.1; have := hl.o; omega))
    go_enter Try.func56, Try.ntmps56
    go_wp2_with fail
    · exact retB (H'.o _ (hbel _)) e.o
    · exact retB (H'.o _ (hbel _)) e.o

end Go.Proofs.Ytiekjklhojmnoaa
