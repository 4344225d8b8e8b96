/- IsGeneratorSet: the program's and the reference's. -/
import Derived.Test.YtpijnjhheikmcaaPermTop
import Derived.Test.YtpijnjhheikmcaaGrid
namespace Go.Proofs.Ytpijnjhheikmcaa
open Go.RowKit

def GenOk (z : Int) (p : List Int) : Prop := (p.length : Int) = z ∧ IsPerm p
instance (z : Int) (p : List Int) : Decidable (GenOk z p) := inferInstanceAs (Decidable (_ ∧ _))
/-- A set of generators of the degree z. -/
def GenSet (z : Int) (xss : List (List Int)) : Prop := 1 ≤ z ∧ z ≤ 20 ∧ xss.length ≤ 8 ∧ ∀ p ∈ xss, GenOk z p
instance (z : Int) (xss : List (List Int)) : Decidable (GenSet z xss) := inferInstanceAs (Decidable (_ ∧ _))
theorem GenSet.perm {z : Int} {xss : List (List Int)} (h : GenSet z xss) {p : List Int} (hp : p ∈ xss) : IsPerm p ∧ (p.length : Int) = z := ⟨(h.2.2.2 p hp).2, (h.2.2.2 p hp).1⟩
theorem genTo_succ {z : Int} {xss : List (List Int)} {k : Nat} {p : List Int} (h : ∀ q ∈ xss.take k, GenOk z q) (hp : xss[k]? = some p) (ho : GenOk z p) : ∀ q ∈ xss.take (k + 1), GenOk z q := by
  rw [take_succ_some hp]
  intro q hq
  rcases List.mem_append.1 hq with hq | hq
  · exact h q hq
  · obtain rfl := List.mem_singleton.1 hq
    exact ho

theorem genOk_c {R : Ending → World → Prop} (a : Option Addr) (n cap : Nat) (p : List Int) (z : Int) (bm : Nat) (w : World) (hx : Ints w a n p) (hc : w.cell? ⟨bm, 0, none⟩ = some (.int .i64 z))
    (H : Reads R w (.bool (!decide (GenOk z p)))) : Calls Try.prog 87 #[.slice a n cap, .pointer (some ⟨bm, 0, none⟩)] w R := by
  have H' := Hd.i H; clear H
  have hl := Hd.i hx.length
  by_cases hn : (n : Int) = z
  · subst hn
    by_cases hp : IsPerm p
    · have hd := Hd.i (decide_eq_true hp)
      go_enter Try.func87, Try.ntmps87
      go_wp2
      go_quiet (first | (go_at_call 53; exact Calls.quiet_of_same (length_c _ _ _ _ ⟨rfl, rfl⟩)) | (go_at_call 54; exact Calls.quiet_of_same (implIsPerm_c _ _ _ p _ (hx.drewN _) ⟨by rw [hd.o], rfl⟩)))
      go_wp2
      exact retB (H'.o _ ((Drew.refl _).step nq)) (by simp [GenOk, hl.o, hp])
    · have hd := Hd.i (decide_eq_false hp)
      go_enter Try.func87, Try.ntmps87
      go_wp2
      go_quiet (first | (go_at_call 53; exact Calls.quiet_of_same (length_c _ _ _ _ ⟨rfl, rfl⟩)) | (go_at_call 54; exact Calls.quiet_of_same (implIsPerm_c _ _ _ p _ (hx.drewN _) ⟨by rw [hd.o], rfl⟩)))
      go_wp2
      exact retB (H'.o _ ((Drew.refl _).step nq)) (by simp [GenOk, hp])
  · have hb : ((n : Int) != z) = true := by simpa using hn
    go_enter Try.func87, Try.ntmps87
    go_wp2
    go_quiet ((go_at_call 53; exact Calls.quiet_of_same (length_c _ _ _ _ ⟨rfl, rfl⟩)))
    go_wp2
    exact retB (H'.o _ ((Drew.refl _).step nq)) (by simp [GenOk, hl.o, hn])

set_option maxHeartbeats 400000 in
theorem genIndex_c {R : Ending → World → Prop} (a : Option Addr) (n cap : Nat) (xss : List (List Int)) (z : Int) (bm : Nat) (w : World) (hx : Mat w a n xss) (hc : w.cell? ⟨bm, 0, none⟩ = some (.int .i64 z))
    (H : ∀ w', Drew w w' → (∀ p ∈ xss, GenOk z p) → R (.returned (.int .i64 (-1))) w') (H2 : ∀ w', Drew w w' → ∀ k : Nat, ¬ (∀ p ∈ xss, GenOk z p) → R (.returned (.int .i64 k)) w') :
    Calls Try.prog 97 #[.slice a n cap, .func (.func 87) #[] #[.pointer (some ⟨bm, 0, none⟩)]] w R := by
  have H' := Hd.i H; clear H
  have H2' := Hd.i H2; clear H2
  have hm := hx.le
  have hl := Hd.i hx.length
  go_enter Try.func97, Try.ntmps97
  go_wp2
  go_loopw [8] (fun i wr => ∃ k : Nat, k ≤ n ∧ i = .int .i64 k ∧ Drew w wr ∧ Hd (∀ p ∈ xss.take k, GenOk z p)) (fun i _ => n - (intOf i).toNat)
  case atStart => exact ⟨0, Nat.zero_le _, rfl, Drew.refl _, by simp [Hd]⟩
  case round =>
    obtain ⟨k, hk, rfl, hd, hall⟩ := hrel
    by_cases hlt : k < n
    · obtain ⟨b, off, a', n', c', p, rfl, hb, hcell, hy, hin, _⟩ := (hd.rows hx).at hlt
      have hc' : wr.cell? ⟨bm, 0, none⟩ = some (.int .i64 z) := by obtain ⟨m, rfl⟩ := hd; exact hc
      by_cases hok : GenOk z p
      · have hdec := Hd.i (decide_eq_true hok)
        go_wp2_with (go_at_call 87; refine genOk_c _ _ _ p z bm _ hin hc' ?_; intro w2 hd2; rw [hdec.o, Bool.not_true])
        exact ⟨⟨k + 1, by omega, by go_num, hd.trans hd2, genTo_succ hall.o hy.o hok⟩, by simp [intOf]; omega⟩
      · have hdec := Hd.i (decide_eq_false hok)
        go_wp2_with (go_at_call 87; refine genOk_c _ _ _ p z bm _ hin hc' ?_; intro w2 hd2; rw [hdec.o, Bool.not_false])
        exact H2'.o _ (hd.trans hd2) k (fun h => hok (h p (List.mem_of_getElem? hy.o)))
    · obtain rfl : k = n := by omega
      go_wp2
      have h := hall.o
      rw [List.take_of_length_le (by have := hl.o; omega)] at h
      exact H'.o _ hd h

theorem genContains_c {R : Ending → World → Prop} (a : Option Addr) (n cap : Nat) (xss : List (List Int)) (z : Int) (bm : Nat) (w : World) (hx : Mat w a n xss) (hc : w.cell? ⟨bm, 0, none⟩ = some (.int .i64 z))
    (H : ∀ w', Drew w w' → (∀ p ∈ xss, GenOk z p) → R (.returned (.bool false)) w') (H2 : ∀ w', Drew w w' → ¬ (∀ p ∈ xss, GenOk z p) → R (.returned (.bool true)) w') :
    Calls Try.prog 86 #[.slice a n cap, .func (.func 87) #[] #[.pointer (some ⟨bm, 0, none⟩)]] w R := by
  have H' := Hd.i H; clear H
  have H2' := Hd.i H2; clear H2
  go_enter Try.func86, Try.ntmps86
  go_wp2_with (go_at_call 97; refine genIndex_c _ _ _ xss z bm _ hx hc (fun w2 hd2 hh => ?_) (fun w2 hd2 k hh => ?_) <;> replace hh := Hd.i hh)
  · exact H'.o _ hd2 hh.o
  · exact H2'.o _ hd2 hh.o

theorem implGenSet_c {R : Ending → World → Prop} (z : Int) (a : Option Addr) (n cap : Nat) (xss : List (List Int)) (w : World) (hx : Mat w a n xss)
    (H : Gives R w (.bool (decide (GenSet z xss)))) : Calls Try.prog 52 #[.int .i64 z, .slice a n cap] w R := by
  have H' := Hd.i H; clear H
  have hl := Hd.i hx.length
  have hle := hx.le
  have hcell : ∀ v : Value, (w.alloc (.cells #[v] 2)).cell? ⟨w.heap.size, 0, none⟩ = some v := fun v => by rw [World.cell?_alloc_at _ _ _ _ rfl]; rfl
  have hcell := Hd.i hcell
  have hbel := fun o => (Below.refl w.heap.size w).alloc (Nat.le_refl _) o
  by_cases hr : 1 ≤ z ∧ z ≤ 20
  · by_cases hn : n ≤ 8
    · go_enter Try.func52, Try.ntmps52
      go_wp2_with (first | (go_at_call 85; refine within_c _ _ _ _ (fun _ => ?_) (fun _ => ?_) <;> go_prune) | (go_at_call 86; refine genContains_c _ _ _ xss z _ _ (hx.up (hbel _)) (hcell.o _) (fun w2 hd2 hh => ?_) (fun w2 hd2 hh => ?_) <;> replace hh := Hd.i hh))
      · exact retB (H'.o _ (hd2.up (hbel _))) (decide_eq_true ⟨hr.1, hr.2, by have := hl.o; omega, hh.o⟩)
      · exact retB (H'.o _ (hd2.up (hbel _))) (decide_eq_false fun h => hh.o h.2.2.2)
    · have e := Hd.i (show decide (GenSet z xss) = false from decide_eq_false fun h => hn (by have := h.2.2.1; have := hl.o; omega))
      go_enter Try.func52, Try.ntmps52
      go_wp2_with (first | (go_at_call 85; refine within_c _ _ _ _ (fun _ => ?_) (fun _ => ?_) <;> go_prune))
      exact retB (H'.o _ (hbel _)) e.o
  · have e := Hd.i (show decide (GenSet z xss) = false from decide_eq_false fun h => hr ⟨h.1, h.2.1⟩)
    go_enter Try.func52, Try.ntmps52
    go_wp2_with (first | (go_at_call 85; refine within_c _ _ _ _ (fun _ => ?_) (fun _ => ?_) <;> go_prune))
    exact retB (H'.o _ (hbel _)) e.o

set_option maxHeartbeats 400000 in
theorem specGenSet_c {R : Ending → World → Prop} (z : Int) (a : Option Addr) (n cap : Nat) (xss : List (List Int)) (w : World) (hx : Mat w a n xss)
    (H : Reads R w (.bool (decide (GenSet z xss)))) : Calls Try.prog 48 #[.int .i64 z, .slice a n cap] w R := by
  have H' := Hd.i H; clear H
  have hl := Hd.i hx.length
  have hle := hx.le
  by_cases hr : 1 ≤ z ∧ z ≤ 20
  · by_cases hn : n ≤ 8
    · go_enter Try.func48, Try.ntmps48
      go_wp2_with (first | (go_at_call 81; refine inRange_c _ _ _ _ (fun _ => ?_) (fun _ => ?_) <;> go_prune))
      go_loopw [5] (fun i wr => ∃ k : Nat, k ≤ n ∧ i = .int .i64 k ∧ Drew w wr ∧ Hd (∀ p ∈ xss.take k, GenOk z p)) (fun i _ => n - (intOf i).toNat)
      case atStart => exact ⟨0, Nat.zero_le _, rfl, Drew.refl _, by simp [Hd]⟩
      case round =>
        obtain ⟨k, hk, rfl, hd, hall⟩ := hrel
        by_cases hlt : k < n
        · obtain ⟨b, off, a', n', c', p, rfl, hb, hcell, hy, hin, hcap⟩ := (hd.rows hx).at hlt
          have hin_le := hin.le
          have hinl := Hd.i hin.length
          by_cases hn' : (n' : Int) = z
          · by_cases hp : IsPerm p
            · have hdec := Hd.i (decide_eq_true hp)
              go_wp2_with (go_at_call 49; refine specIsPerm_c _ _ _ p _ hin hcap ?_; intro w2 hd2; rw [hdec.o])
              exact ⟨⟨k + 1, by omega, by go_num, hd.trans hd2, genTo_succ hall.o hy.o ⟨by rw [hinl.o]; exact hn', hp⟩⟩, by simp [intOf]; omega⟩
            · have hdec := Hd.i (decide_eq_false hp)
              go_wp2_with (go_at_call 49; refine specIsPerm_c _ _ _ p _ hin hcap ?_; intro w2 hd2; rw [hdec.o])
              exact retB (H'.o _ (hd.trans hd2)) (decide_eq_false fun h => hp (h.2.2.2 p (List.mem_of_getElem? hy.o)).2)
          · have hb : ((n' : Int) != z) = true := by simpa using hn'
            go_wp2
            exact retB (H'.o _ hd) (decide_eq_false fun h => hn' (by have := (h.2.2.2 p (List.mem_of_getElem? hy.o)).1; rw [hinl.o] at this; exact this))
        · obtain rfl : k = n := by omega
          go_wp2
          have h := hall.o
          rw [List.take_of_length_le (by have := hl.o; omega)] at h
          exact retB (H'.o _ hd) (decide_eq_true ⟨hr.1, hr.2, by have := hl.o; omega, h⟩)
    · have e := Hd.i (show decide (GenSet z xss) = false from decide_eq_false fun h => hn (by have := h.2.2.1; have := hl.o; omega))
      go_enter Try.func48, Try.ntmps48
      go_wp2_with (first | (go_at_call 81; refine inRange_c _ _ _ _ (fun _ => ?_) (fun _ => ?_) <;> go_prune))
      exact retB (H'.o _ (Drew.refl _)) e.o
  · have e := Hd.i (show decide (GenSet z xss) = false from decide_eq_false fun h => hr ⟨h.1, h.2.1⟩)
    go_enter Try.func48, Try.ntmps48
    go_wp2_with (first | (go_at_call 81; refine inRange_c _ _ _ _ (fun _ => ?_) (fun _ => ?_) <;> go_prune))
    exact retB (H'.o _ (Drew.refl _)) e.o

theorem topSpecIsGeneratorSet {R : Ending → World → Prop} {B : Nat} (z : Int) (a : Option Addr) (n cap : Nat) (hs : List Hdr) (xss : List (List Int)) (w : World) (_ : -9223372036854775808 ≤ z ∧ z ≤ 9223372036854775807) (hx : OwnH w B a n cap hs xss)
    (H : Gives R w (.bool (decide (GenSet z xss)))) : Calls Try.prog 48 #[.int .i64 z, .slice a n cap] w R :=
  specGenSet_c z a n cap xss w hx.rows fun w' hd => H w' (hd.below _)
theorem topImplIsGeneratorSet {R : Ending → World → Prop} {B : Nat} (z : Int) (a : Option Addr) (n cap : Nat) (hs : List Hdr) (xss : List (List Int)) (w : World) (_ : -9223372036854775808 ≤ z ∧ z ≤ 9223372036854775807) (hx : OwnH w B a n cap hs xss)
    (H : Gives R w (.bool (decide (GenSet z xss)))) : Calls Try.prog 52 #[.int .i64 z, .slice a n cap] w R :=
  implGenSet_c z a n cap xss w hx.rows H
end Go.Proofs.Ytpijnjhheikmcaa
