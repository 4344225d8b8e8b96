/- IsAbelian, InverseGenerators. -/
import Derived.Test.YtockombopcjldaaGen
import Derived.Test.YtockombopcjldaaPureGroup
namespace Go.Proofs.Ytockombopcjldaa
open Go.RowKit

set_option maxHeartbeats 400000 in
theorem equalInts_c {R : Ending → World → Prop} (a : Option Addr) (n cap : Nat) (xs : List Int) (a' : Option Addr) (n' cap' : Nat) (ys : List Int) (w : World) (hx : Ints w a n xs) (hy : Ints w a' n' ys)
    (H : Reads R w (.bool (decide (xs = ys)))) :
    Calls Try.prog 101 #[.slice a n cap, .slice a' n' cap'] w R := by
  have H' := Hd.i H; clear H
  by_cases hnn : n = n'
  · subst hnn
    have hm := hx.le
    go_enter Try.func101, Try.ntmps101
    go_wp2
    go_loopw [5] (fun i wr => ∃ k : Nat, k ≤ n ∧ i = .int .i64 k ∧ Drew w wr ∧ Hd (xs.take k = ys.take k)) (fun i _ => n - (intOf i).toNat)
    case atStart => exact ⟨0, Nat.zero_le _, rfl, Drew.refl _, rfl⟩
    case round =>
      obtain ⟨k, hk, rfl, hd, hc⟩ := hrel
      by_cases hlt : k < n
      · obtain ⟨b, off, x, rfl, hb, hcell, hxk, hx1, hx2⟩ := (hd.ints hx).at hlt
        obtain ⟨b', off', y, rfl, hb', hcell', hyk, hy1, hy2⟩ := (hd.ints hy).at hlt
        by_cases hxy : x = y
        · subst hxy
          go_wp2
          go_quiet (fail)
          go_wp2
          go_roundw
          case rel => exact ⟨k + 1, by omega, by go_num, hd.step nq, take_eq_succ hc.o hxk.o hyk.o⟩
          case measure => simp [intOf]; omega
        · go_wp2
          go_quiet (fail)
          go_wp2
          exact retB (H'.o _ (hd.step nq)) (decide_eq_false (fun e => hxy (by have h1 := hxk.o; have h2 := hyk.o; rw [e] at h1; rw [h1] at h2; exact Option.some.inj h2)))
      · go_wp2
        have h := hc.o
        rw [List.take_of_length_le (by have := hx.length; omega), List.take_of_length_le (by have := hy.length; omega)] at h
        exact retB (H'.o _ hd) (by simpa using h)
  · go_enter Try.func101, Try.ntmps101
    go_wp2
    exact retB (H'.o _ (Drew.refl _)) (by simpa using fun e => hnn (by rw [← hx.length, ← hy.length, e]))

set_option maxHeartbeats 400000 in
theorem slicesEqual_c {R : Ending → World → Prop} (a : Option Addr) (n cap : Nat) (xs : List Int) (a' : Option Addr) (n' cap' : Nat) (ys : List Int) (w : World) (hx : Ints w a n xs) (hy : Ints w a' n' ys)
    (H : Reads R w (.bool (decide (xs = ys)))) :
    Calls Try.prog 97 #[.slice a n cap, .slice a' n' cap'] w R := by
  have H' := Hd.i H; clear H
  by_cases hnn : n = n'
  · subst hnn
    have hm := hx.le
    go_enter Try.func97, Try.ntmps97
    go_wp2
    go_loopw [13] (fun i wr => ∃ k : Nat, k ≤ n ∧ i = .int .i64 k ∧ Drew w wr ∧ Hd (xs.take k = ys.take k)) (fun i _ => n - (intOf i).toNat)
    case atStart => exact ⟨0, Nat.zero_le _, rfl, Drew.refl _, rfl⟩
    case round =>
      obtain ⟨k, hk, rfl, hd, hc⟩ := hrel
      by_cases hlt : k < n
      · obtain ⟨b, off, x, rfl, hb, hcell, hxk, hx1, hx2⟩ := (hd.ints hx).at hlt
        obtain ⟨b', off', y, rfl, hb', hcell', hyk, hy1, hy2⟩ := (hd.ints hy).at hlt
        by_cases hxy : x = y
        · subst hxy
          go_wp2
          go_quiet (fail)
          go_wp2
          go_roundw
          case rel => exact ⟨k + 1, by omega, by go_num, hd.step nq, take_eq_succ hc.o hxk.o hyk.o⟩
          case measure => simp [intOf]; omega
        · go_wp2
          go_quiet (fail)
          go_wp2
          exact retB (H'.o _ (hd.step nq)) (decide_eq_false (fun e => hxy (by have h1 := hxk.o; have h2 := hyk.o; rw [e] at h1; rw [h1] at h2; exact Option.some.inj h2)))
      · go_wp2
        have h := hc.o
        rw [List.take_of_length_le (by have := hx.length; omega), List.take_of_length_le (by have := hy.length; omega)] at h
        exact retB (H'.o _ hd) (by simpa using h)
  · go_enter Try.func97, Try.ntmps97
    go_wp2
    exact retB (H'.o _ (Drew.refl _)) (by simpa using fun e => hnn (by rw [← hx.length, ← hy.length, e]))


theorem specCommute_c {R : Ending → World → Prop} (a : Option Addr) (n cap : Nat) (p : List Int) (a' : Option Addr) (n' cap' : Nat) (q : List Int) (w : World) (h : Ints w a n p) (h' : Ints w a' n' q) (hpp : Hd (PermPair p q)) (hqp : Hd (PermPair q p))
    (H : Gives R w (.bool (decide (comp p q = comp q p)))) : Calls Try.prog 96 #[.slice a n cap, .slice a' n' cap'] w R := by
  have H' := Hd.i H; clear H
  have hr1 : Hd (∀ x ∈ p, 0 ≤ x ∧ x < n') := h'.length ▸ hpp.o.range
  have hr2 : Hd (∀ x ∈ q, 0 ≤ x ∧ x < n) := h.length ▸ hqp.o.range
  have hn : n ≤ 1000000 := by have := hpp.o.2.1.2.1; have := h.length; omega
  have hn' : n' ≤ 1000000 := by have := hpp.o.2.2.2.1; have := h'.length; omega
  go_enter Try.func96, Try.ntmps96
  go_wp2_with fail
  refine specCompose_c _ _ _ p _ _ _ q _ h h' hn hr1 ?_
  intro b1 m1 c1 w1 hb1 ho1
  have l1 := ho1.le
  go_wp2_with fail
  refine specCompose_c _ _ _ q _ _ _ p _ (h'.up hb1) (h.up hb1) hn' hr2 ?_
  intro b2 m2 c2 w2 hb2 ho2
  have l2 := ho2.le
  replace ho1 := ho1.up hb2
  have hb12 := below_ups hb1 hb2 hb1.size
  go_wp2_with fail
  refine equalInts_c _ _ _ _ _ _ _ _ _ ho1.ints ho2.ints ?_
  intro w3 hd3
  go_wp2_with fail
  exact H'.o _ (hd3.up hb12)

theorem implCommute_c {R : Ending → World → Prop} (a : Option Addr) (n cap : Nat) (p : List Int) (a' : Option Addr) (n' cap' : Nat) (q : List Int) (w : World) (h : Ints w a n p) (h' : Ints w a' n' q) (hpp : Hd (PermPair p q)) (hqp : Hd (PermPair q p))
    (H : Gives R w (.bool (decide (comp p q = comp q p)))) : Calls Try.prog 81 #[.slice a n cap, .slice a' n' cap'] w R := by
  have H' := Hd.i H; clear H
  have hr1 : Hd (∀ x ∈ p, 0 ≤ x ∧ x < n') := h'.length ▸ hpp.o.range
  have hr2 : Hd (∀ x ∈ q, 0 ≤ x ∧ x < n) := h.length ▸ hqp.o.range
  have hn : n ≤ 1000000 := by have := hpp.o.2.1.2.1; have := h.length; omega
  have hn' : n' ≤ 1000000 := by have := hpp.o.2.2.2.1; have := h'.length; omega
  go_enter Try.func81, Try.ntmps81
  go_wp2_with fail
  refine implCompose_c _ _ _ p _ _ _ q _ h h' hn hr1 ?_
  intro b1 m1 c1 w1 hb1 ho1
  have l1 := ho1.le
  go_wp2_with fail
  refine implCompose_c _ _ _ q _ _ _ p _ (h'.up hb1) (h.up hb1) hn' hr2 ?_
  intro b2 m2 c2 w2 hb2 ho2
  have l2 := ho2.le
  replace ho1 := ho1.up hb2
  have hb12 := below_ups hb1 hb2 hb1.size
  go_wp2_with fail
  refine slicesEqual_c _ _ _ _ _ _ _ _ _ ho1.ints ho2.ints ?_
  intro w3 hd3
  go_wp2_with fail
  exact H'.o _ (hd3.up hb12)

def Abel (z : Int) (xss : List (List Int)) : Prop := GenSet z xss ∧ ∀ p ∈ xss, ∀ q ∈ xss, comp p q = comp q p
instance (z : Int) (xss : List (List Int)) : Decidable (Abel z xss) := inferInstanceAs (Decidable (_ ∧ _))
theorem GenSet.pair {z : Int} {xss : List (List Int)} (h : GenSet z xss) {p q : List Int} (hp : p ∈ xss) (hq : q ∈ xss) : PermPair p q := by
  have h1 := h.perm hp
  have h2 := h.perm hq
  exact ⟨by omega, h1.1, h2.1⟩
theorem allTo {α : Type} {P : α → Prop} {l : List α} {k : Nat} {x : α} (h : ∀ q ∈ l.take k, P q) (hx : l[k]? = some x) (hp : P x) : ∀ q ∈ l.take (k + 1), P q := by
  rw [take_succ_some hx]
  intro q hq
  rcases List.mem_append.1 hq with hq | hq
  · exact h q hq
  · obtain rfl := List.mem_singleton.1 hq
    exact hp

set_option maxHeartbeats 400000 in
theorem commutesWithAll_c {R : Ending → World → Prop} (a : Option Addr) (n cap : Nat) (p : List Int) (a' : Option Addr) (n' cap' : Nat) (xss : List (List Int)) (w : World) (h : Ints w a n p) (h' : Mat w a' n' xss) (z : Int) (hg : Hd (GenSet z xss)) (hp : Hd (p ∈ xss))
    (H : Gives R w (.bool (decide (∀ q ∈ xss, comp p q = comp q p)))) : Calls Try.prog 80 #[.slice a n cap, .slice a' n' cap'] w R := by
  have H' := Hd.i H; clear H
  have hl := Hd.i h'.length
  have hle := h'.le
  go_enter Try.func80, Try.ntmps80
  go_wp2
  go_loopw [5] (fun i wr => ∃ k : Nat, k ≤ n' ∧ i = .int .i64 k ∧ Below w.heap.size w wr ∧ Hd (∀ q ∈ xss.take k, comp p q = comp q p)) (fun i _ => n' - (intOf i).toNat)
  case atStart => exact ⟨0, Nat.zero_le _, rfl, Below.refl _ _, by simp [Hd]⟩
  case round =>
    obtain ⟨k, hk, rfl, hb, hall⟩ := hrel
    by_cases hlt : k < n'
    · obtain ⟨b, off, a1, n1, c1, q, rfl, hbb, hcell, hy, hin, _⟩ := (h'.up hb).at hlt
      have hpq := Hd.i (hg.o.pair hp.o (List.mem_of_getElem? hy.o))
      have hqp := Hd.i (hg.o.pair (List.mem_of_getElem? hy.o) hp.o)
      by_cases hc : comp p q = comp q p
      · have hdec := Hd.i (decide_eq_true hc)
        go_wp2_with (go_at_call 96; refine specCommute_c _ _ _ p _ _ _ q _ (h.up hb) hin hpq hqp ?_; intro w2 hb2; rw [hdec.o])
        exact ⟨⟨k + 1, by omega, by go_num, below_ups hb hb2 hb.size, allTo hall.o hy.o hc⟩, by simp [intOf]; omega⟩
      · have hdec := Hd.i (decide_eq_false hc)
        go_wp2_with (go_at_call 96; refine specCommute_c _ _ _ p _ _ _ q _ (h.up hb) hin hpq hqp ?_; intro w2 hb2; rw [hdec.o])
        exact retB (H'.o _ (below_ups hb hb2 hb.size)) (decide_eq_false fun e => hc (e q (List.mem_of_getElem? hy.o)))
    · obtain rfl : k = n' := by omega
      go_wp2
      have e := hall.o
      rw [List.take_of_length_le (by have := hl.o; omega)] at e
      exact retB (H'.o _ hb) (decide_eq_true e)

set_option maxHeartbeats 400000 in
theorem topSpecIsAbelian {R : Ending → World → Prop} {B : Nat} (z : Int) (a : Option Addr) (n cap : Nat) (hs : List Hdr) (xss : List (List Int)) (w : World) (_ : -9223372036854775808 ≤ z ∧ z ≤ 9223372036854775807) (hx : OwnH w B a n cap hs xss)
    (H : Gives R w (.bool (decide (Abel z xss)))) : Calls Try.prog 42 #[.int .i64 z, .slice a n cap] w R := by
  have H' := Hd.i H; clear H
  have hm := hx.rows
  have hl := Hd.i hm.length
  have hle := hm.le
  by_cases hg : GenSet z xss
  · have hdec := Hd.i (decide_eq_true hg)
    replace hg := Hd.i hg
    go_enter Try.func42, Try.ntmps42
    go_wp2_with (go_at_call 28; refine specGenSet_c z _ _ _ xss _ hm ?_; intro w1 hd1; rw [hdec.o])
    go_loopw [5] (fun i wr => ∃ k : Nat, k ≤ n ∧ i = .int .i64 k ∧ Below w.heap.size w wr ∧ Hd (∀ p ∈ xss.take k, ∀ q ∈ xss, comp p q = comp q p)) (fun i _ => n - (intOf i).toNat)
    case atStart => exact ⟨0, Nat.zero_le _, rfl, hd1.below _, by simp [Hd]⟩
    case round =>
      obtain ⟨k, hk, rfl, hb, hall⟩ := hrel
      by_cases hlt : k < n
      · obtain ⟨b, off, a1, n1, c1, p, rfl, hbb, hcell, hy, hin, _⟩ := (hm.up hb).at hlt
        have hp := Hd.i (List.mem_of_getElem? hy.o)
        by_cases hc : ∀ q ∈ xss, comp p q = comp q p
        · have hdec := Hd.i (decide_eq_true hc)
          replace hc := Hd.i hc
          go_wp2_with (go_at_call 80; refine commutesWithAll_c _ _ _ p _ _ _ xss _ hin (hm.up hb) z hg hp ?_; intro w2 hb2; rw [hdec.o])
          exact ⟨⟨k + 1, by omega, by go_num, below_ups hb hb2 hb.size, allTo hall.o hy.o hc.o⟩, by simp [intOf]; omega⟩
        · have hdec := Hd.i (decide_eq_false hc)
          replace hc := Hd.i hc
          go_wp2_with (go_at_call 80; refine commutesWithAll_c _ _ _ p _ _ _ xss _ hin (hm.up hb) z hg hp ?_; intro w2 hb2; rw [hdec.o])
          exact retB (H'.o _ (below_ups hb hb2 hb.size)) (decide_eq_false fun e => hc.o (e.2 p hp.o))
      · obtain rfl : k = n := by omega
        go_wp2
        have e := hall.o
        rw [List.take_of_length_le (by have := hl.o; omega)] at e
        exact retB (H'.o _ hb) (decide_eq_true ⟨hg.o, e⟩)
  · have hdec := Hd.i (decide_eq_false hg)
    have e := Hd.i (show decide (Abel z xss) = false from decide_eq_false fun h => hg h.1)
    go_enter Try.func42, Try.ntmps42
    go_wp2_with (go_at_call 28; refine specGenSet_c z _ _ _ xss _ hm ?_; intro w1 hd1; rw [hdec.o])
    exact retB (H'.o _ (hd1.below _)) e.o

set_option maxHeartbeats 400000 in
theorem topImplIsAbelian {R : Ending → World → Prop} {B : Nat} (z : Int) (a : Option Addr) (n cap : Nat) (hs : List Hdr) (xss : List (List Int)) (w : World) (_ : -9223372036854775808 ≤ z ∧ z ≤ 9223372036854775807) (hx : OwnH w B a n cap hs xss)
    (H : Gives R w (.bool (decide (Abel z xss)))) : Calls Try.prog 43 #[.int .i64 z, .slice a n cap] w R := by
  have H' := Hd.i H; clear H
  have hm := hx.rows
  have hl := Hd.i hm.length
  have hle := hm.le
  by_cases hg : GenSet z xss
  · have hdec := Hd.i (decide_eq_true hg)
    replace hg := Hd.i hg
    go_enter Try.func43, Try.ntmps43
    go_wp2_with (go_at_call 30; refine implGenSet_c z _ _ _ xss _ hm ?_; intro w1 hb1; rw [hdec.o])
    go_loopw [15] (fun i wr => ∃ k : Nat, k ≤ n ∧ i = .int .i64 k ∧ Below w.heap.size w wr ∧ Hd (∀ p ∈ xss.take k, ∀ q ∈ xss, comp p q = comp q p)) (fun i _ => n - (intOf i).toNat)
    case atStart => exact ⟨0, Nat.zero_le _, rfl, hb1, by simp [Hd]⟩
    case round =>
      obtain ⟨k, hk, rfl, hb, hall⟩ := hrel
      by_cases hlt : k < n
      · obtain ⟨b, off, a1, n1, c1, p, rfl, hbb, hcell, hy, hin, _⟩ := (hm.up hb).at hlt
        have hp := Hd.i (List.mem_of_getElem? hy.o)
        obtain ⟨w5, hw5⟩ : ∃ w5, w5 = wr := ⟨_, rfl⟩
        go_wp2
        go_loopw [21] (fun i wq => ∃ k2 : Nat, k2 ≤ n ∧ i = .int .i64 k2 ∧ Below w.heap.size w wq ∧ Below wr.heap.size wr wq ∧ Hd (∀ q ∈ xss.take k2, comp p q = comp q p)) (fun i _ => n - (intOf i).toNat)
        case atStart => exact ⟨0, Nat.zero_le _, rfl, hb, Below.refl _ _, by simp [Hd]⟩
        case round =>
          obtain ⟨k2, hk2, rfl, hb2, hbr2, hall2⟩ := hrel
          by_cases hlt2 : k2 < n
          · obtain ⟨b', off', a2, n2, c2, q, hab, hbb2, hcell2, hy2, hin2, _⟩ := (hm.up hb2).at hlt2
            cases hab
            have hpq := Hd.i (hg.o.pair hp.o (List.mem_of_getElem? hy2.o))
            have hqp := Hd.i (hg.o.pair (List.mem_of_getElem? hy2.o) hp.o)
            by_cases hc : comp p q = comp q p
            · have hdec := Hd.i (decide_eq_true hc)
              go_wp2_with (go_at_call 81; refine implCommute_c _ _ _ p _ _ _ q _ (hin.up hbr2) hin2 hpq hqp ?_; intro w2 hb3; rw [hdec.o])
              exact ⟨⟨k2 + 1, by omega, by go_num, below_ups hb2 hb3 hb2.size, below_ups hbr2 hb3 hbr2.size, allTo hall2.o hy2.o hc⟩, by simp [intOf]; omega⟩
            · have hdec := Hd.i (decide_eq_false hc)
              go_wp2_with (go_at_call 81; refine implCommute_c _ _ _ p _ _ _ q _ (hin.up hbr2) hin2 hpq hqp ?_; intro w2 hb3; rw [hdec.o])
              exact retB (H'.o _ (below_ups hb2 hb3 hb2.size)) (decide_eq_false fun e => hc (e.2 p hp.o q (List.mem_of_getElem? hy2.o)))
          · obtain rfl : k2 = n := by omega
            have e := hall2.o
            rw [List.take_of_length_le (by have := hl.o; omega)] at e
            replace e := Hd.i e
            go_wp2
            exact ⟨⟨k + 1, by omega, by go_num, hb2, allTo hall.o hy.o e.o⟩, by simp [intOf]; omega⟩
      · obtain rfl : k = n := by omega
        go_wp2
        have e := hall.o
        rw [List.take_of_length_le (by have := hl.o; omega)] at e
        exact retB (H'.o _ hb) (decide_eq_true ⟨hg.o, e⟩)
  · have hdec := Hd.i (decide_eq_false hg)
    have e := Hd.i (show decide (Abel z xss) = false from decide_eq_false fun h => hg h.1)
    go_enter Try.func43, Try.ntmps43
    go_wp2_with (go_at_call 30; refine implGenSet_c z _ _ _ xss _ hm ?_; intro w1 hb1; rw [hdec.o])
    exact retB (H'.o _ hb1) e.o

set_option maxHeartbeats 400000 in
theorem specInverses_c {R : Ending → World → Prop} (a : Option Addr) (n cap : Nat) (xss : List (List Int)) (w : World) (hm : Mat w a n xss) (z : Int) (hg : Hd (GenSet z xss))
    (H : MakesR R w (xss.map inv)) : Calls Try.prog 82 #[.slice a n cap] w R := by
  have H' := Hd.i H; clear H
  have hl := Hd.i hm.length
  have hn : n ≤ 8 := by have := hg.o.2.2.1; have := hl.o; omega
  go_enter Try.func82, Try.ntmps82
  go_wp2
  go_loopw [3, 4] (fun v i wr => ∃ (k : Nat) (c : Option Addr) (m capc : Nat) (hs : List Hdr), k ≤ n ∧ i = .int .i64 k ∧ v = .slice c m capc ∧ OwnH wr w.heap.size c m capc hs ((xss.take k).map inv) ∧ Below w.heap.size w wr) (fun _ i _ => n - (intOf i).toNat)
  case atStart => exact ⟨0, _, 0, 0, [], Nat.zero_le _, rfl, rfl, OwnH.emptyLit w (Nat.le_refl _), (Below.refl _ _).alloc (Nat.le_refl _) _⟩
  case round =>
    obtain ⟨k, c, m, capc, hs, hk, rfl, rfl, ho, hb⟩ := hrel
    by_cases hlt : k < n
    · obtain ⟨b, off, a1, n1, c1, p, rfl, hbb, hcell, hy, hin, _⟩ := (hm.up hb).at hlt
      have hp := (hg.o.perm (List.mem_of_getElem? hy.o)).1
      have hmk : m ≤ k := by have := ho.length; simp at this; omega
      have c1' : (m + 1) * 24 ≤ 140737488355328 := by omega
      have c2' : m + 1 ≤ 281474976710656 := by omega
      have hs0 := hb.size
      go_wp2_with fail
      refine specInverse_c _ _ _ p _ hin hp ?_
      intro b1 m1 d1 w1 hb1 ho1
      have hs1 : w.heap.size ≤ w1.heap.size := Nat.le_trans hs0 hb1.size
      have hown := (ho.1.up hb1)
      have hbw := below_ups hb hb1 hs0
      go_wp2_with (at_builtin; refine appendL_c rfl _ _ _ rfl w.heap.size 22 (.slice none 0 0) 24 Try.underlying30 infoSl rfl _ _ _ _ rfl hown [.slice b1 m1 d1] 1 rfl rfl oneSlice c1' c2' hs1 ?_; intro a2 n2 cap2 w2 hn2 ho2 hg2 ha2)
      refine ⟨⟨k + 1, a2, n2, cap2, hs ++ [(b1, m1, d1)], by omega, by go_num, rfl, ?_, ho.grewBelow hg2 hbw hs1⟩, by simp [intOf]; omega⟩
      rw [take_succ_some hy.o, List.map_append]
      exact ho.snoc hb1 ho1 hs0 hg2 ho2 ha2.o
    · obtain rfl : k = n := by omega
      go_wp2
      rw [List.take_of_length_le (by have := hl.o; omega)] at ho
      exact H'.o _ _ _ _ _ hb ho

set_option maxHeartbeats 400000 in
theorem implInverses_c {R : Ending → World → Prop} (a : Option Addr) (n cap : Nat) (xss : List (List Int)) (w : World) (hm : Mat w a n xss) (z : Int) (hg : Hd (GenSet z xss))
    (H : MakesR R w (xss.map inv)) : Calls Try.prog 83 #[.slice a n cap] w R := by
  have H' := Hd.i H; clear H
  have hl := Hd.i hm.length
  have hn : n ≤ 8 := by have := hg.o.2.2.1; have := hl.o; omega
  go_enter Try.func83, Try.ntmps83
  go_wp2
  go_loopw [3, 8] (fun v i wr => ∃ (k : Nat) (c : Option Addr) (m capc : Nat) (hs : List Hdr), k ≤ n ∧ i = .int .i64 k ∧ v = .slice c m capc ∧ OwnH wr w.heap.size c m capc hs ((xss.take k).map inv) ∧ Below w.heap.size w wr) (fun _ i _ => n - (intOf i).toNat)
  case atStart => exact ⟨0, _, 0, 0, [], Nat.zero_le _, rfl, rfl, OwnH.nil w _, Below.refl _ _⟩
  case round =>
    obtain ⟨k, c, m, capc, hs, hk, rfl, rfl, ho, hb⟩ := hrel
    by_cases hlt : k < n
    · obtain ⟨b, off, a1, n1, c1, p, rfl, hbb, hcell, hy, hin, _⟩ := (hm.up hb).at hlt
      have hp := (hg.o.perm (List.mem_of_getElem? hy.o)).1
      have hmk : m ≤ k := by have := ho.length; simp at this; omega
      have c1' : (m + 1) * 24 ≤ 140737488355328 := by omega
      have c2' : m + 1 ≤ 281474976710656 := by omega
      have hs0 := hb.size
      go_wp2_with fail
      refine implInverse_c _ _ _ p _ hin hp ?_
      intro b1 m1 d1 w1 hb1 ho1
      have hs1 : w.heap.size ≤ w1.heap.size := Nat.le_trans hs0 hb1.size
      have hown := (ho.1.up hb1)
      have hbw := below_ups hb hb1 hs0
      go_wp2_with (at_builtin; refine appendL_c rfl _ _ _ rfl w.heap.size 22 (.slice none 0 0) 24 Try.underlying30 infoSl rfl _ _ _ _ rfl hown [.slice b1 m1 d1] 1 rfl rfl oneSlice c1' c2' hs1 ?_; intro a2 n2 cap2 w2 hn2 ho2 hg2 ha2)
      refine ⟨⟨k + 1, a2, n2, cap2, hs ++ [(b1, m1, d1)], by omega, by go_num, rfl, ?_, ho.grewBelow hg2 hbw hs1⟩, by simp [intOf]; omega⟩
      rw [take_succ_some hy.o, List.map_append]
      exact ho.snoc hb1 ho1 hs0 hg2 ho2 ha2.o
    · obtain rfl : k = n := by omega
      go_wp2
      rw [List.take_of_length_le (by have := hl.o; omega)] at ho
      exact H'.o _ _ _ _ _ hb ho

def pInverses (z : Int) (xss : List (List Int)) : List (List Int) := if GenSet z xss then xss.map inv else []
theorem pInverses_cells (z : Int) (xss : List (List Int)) : cells (pInverses z xss) ≤ bulk xss := by
  unfold pInverses
  split
  · have e : (xss.map inv).map List.length = xss.map List.length := by
      rw [List.map_map]
      exact List.map_congr_left fun x _ => inv_length x
    unfold cells
    rw [e]
    exact cells_le xss
  · simp [cells]
theorem topSpecInverseGenerators {R : Ending → World → Prop} {B : Nat} (z : Int) (a : Option Addr) (n cap : Nat) (hs : List Hdr) (xss : List (List Int)) (w : World) (_ : -9223372036854775808 ≤ z ∧ z ≤ 9223372036854775807) (hx : OwnH w B a n cap hs xss)
    (H : MakesR R w (pInverses z xss)) : Calls Try.prog 44 #[.int .i64 z, .slice a n cap] w R := by
  have H' := Hd.i H; clear H
  have hm := hx.rows
  by_cases hg : GenSet z xss
  · have hdec := Hd.i (decide_eq_true hg)
    have e := Hd.i (show pInverses z xss = xss.map inv by simp [pInverses, hg])
    replace hg := Hd.i hg
    go_enter Try.func44, Try.ntmps44
    go_wp2_with (first | (go_at_call 28; refine specGenSet_c z _ _ _ xss _ hm ?_; intro w1 hd1; rw [hdec.o]) | (go_at_call 82; refine specInverses_c _ _ _ xss _ (hd1.rows hm) z hg ?_; intro b2 n2 c2 g2 w2 hb2 ho2))
    rw [hd1.size] at hb2 ho2
    exact H'.o _ _ _ _ _ ((hd1.below _).trans hb2) (by rw [e.o]; exact ho2)
  · have hdec := Hd.i (decide_eq_false hg)
    have e := Hd.i (show pInverses z xss = [] by simp [pInverses, hg])
    go_enter Try.func44, Try.ntmps44
    go_wp2_with (go_at_call 28; refine specGenSet_c z _ _ _ xss _ hm ?_; intro w1 hd1; rw [hdec.o])
    exact H'.o _ _ _ [] _ ((hd1.below _).alloc (by rw [hd1.size]; exact Nat.le_refl _) _) (by rw [e.o]; exact OwnH.emptyLit _ (by rw [hd1.size]; exact Nat.le_refl _))
theorem topImplInverseGenerators {R : Ending → World → Prop} {B : Nat} (z : Int) (a : Option Addr) (n cap : Nat) (hs : List Hdr) (xss : List (List Int)) (w : World) (_ : -9223372036854775808 ≤ z ∧ z ≤ 9223372036854775807) (hx : OwnH w B a n cap hs xss)
    (H : MakesR R w (pInverses z xss)) : Calls Try.prog 45 #[.int .i64 z, .slice a n cap] w R := by
  have H' := Hd.i H; clear H
  have hm := hx.rows
  by_cases hg : GenSet z xss
  · have hdec := Hd.i (decide_eq_true hg)
    have e := Hd.i (show pInverses z xss = xss.map inv by simp [pInverses, hg])
    replace hg := Hd.i hg
    go_enter Try.func45, Try.ntmps45
    go_wp2_with (first | (go_at_call 30; refine implGenSet_c z _ _ _ xss _ hm ?_; intro w1 hb1; rw [hdec.o]) | (go_at_call 83; refine implInverses_c _ _ _ xss _ (hm.up hb1) z hg ?_; intro b2 n2 c2 g2 w2 hb2 ho2))
    exact H'.o _ _ _ _ _ (below_ups hb1 hb2 hb1.size) (by rw [e.o]; exact ho2.mono hb1.size)
  · have hdec := Hd.i (decide_eq_false hg)
    have e := Hd.i (show pInverses z xss = [] by simp [pInverses, hg])
    go_enter Try.func45, Try.ntmps45
    go_wp2_with (go_at_call 30; refine implGenSet_c z _ _ _ xss _ hm ?_; intro w1 hb1; rw [hdec.o])
    exact H'.o _ _ _ [] _ hb1 (by rw [e.o]; exact OwnH.nil _ _)
end Go.Proofs.Ytockombopcjldaa
