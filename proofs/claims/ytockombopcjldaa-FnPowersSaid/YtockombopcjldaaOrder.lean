/- gcd, ElementOrder, Sign. -/
import Derived.Test.YtockombopcjldaaCycle3
import Derived.Test.YtockombopcjldaaPureOrder
namespace Go.Proofs.Ytockombopcjldaa
open Go.RowKit

set_option maxHeartbeats 400000 in
theorem specGcd_c {R : Ending → World → Prop} (x y : Nat) (w : World) (hx : x ≤ 1000000000) (hy : y ≤ 1000000000) (H : R (.returned (.int .i64 (Nat.gcd x y : Nat))) w) : Calls Try.prog 57 #[.int .i64 x, .int .i64 y] w R := by
  have H' := Hd.i H; clear H
  go_enter Try.func57, Try.ntmps57
  go_wp2
  go_loop [0, 1] (fun a b => ∃ a' b' : Nat, a = .int .i64 a' ∧ b = .int .i64 b' ∧ a' ≤ 1000000000 ∧ b' ≤ 1000000000 ∧ Hd (Nat.gcd a' b' = Nat.gcd x y)) (fun _ b => (intOf b).toNat)
  case atStart => exact ⟨x, y, rfl, rfl, hx, hy, rfl⟩
  case round =>
    obtain ⟨a', b', rfl, rfl, ha, hb, hg⟩ := hrel
    by_cases h0 : b' = 0
    · subst h0
      go_wp2
      exact retI H' (by rw [← hg.o, Nat.gcd_zero_right])
    · have hbne : ((b' : Int) == 0) = false := by simpa using h0
      have hm := Hd.i (Nat.mod_lt a' (Nat.pos_of_ne_zero h0))
      have ht : Int.tmod (a' : Int) (b' : Int) = ((a' % b' : Nat) : Int) := by rw [Int.tmod_eq_emod_of_nonneg (by omega)]; rfl
      go_wp2
      go_round
      case rel => exact ⟨b', a' % b', rfl, by go_num, hb, by have := hm.o; omega, by show _ = _; rw [← hg.o, Nat.gcd_comm a' b', Nat.gcd_rec b' a', Nat.gcd_comm]⟩
      case measure => have := hm.o; simp [intOf]; omega

set_option maxHeartbeats 400000 in
theorem implGcd_c {R : Ending → World → Prop} (x y : Nat) (w : World) (hx : x ≤ 1000000000) (hy : y ≤ 1000000000) (H : Reads R w (.int .i64 (Nat.gcd x y : Nat))) : Calls Try.prog 89 #[.int .i64 x, .int .i64 y] w R := by
  have H' := Hd.i H; clear H
  go_enter Try.func89, Try.ntmps89
  go_wp2
  go_loopw [0, 1] (fun a b wr => ∃ a' b' : Nat, a = .int .i64 a' ∧ b = .int .i64 b' ∧ a' ≤ 1000000000 ∧ b' ≤ 1000000000 ∧ Hd (Nat.gcd a' b' = Nat.gcd x y) ∧ Drew w wr) (fun _ b _ => (intOf b).toNat)
  case atStart => exact ⟨x, y, rfl, rfl, hx, hy, rfl, Drew.refl _⟩
  case round =>
    obtain ⟨a', b', rfl, rfl, ha, hb, hg, hd⟩ := hrel
    by_cases h0 : b' = 0
    · subst h0
      go_wp2
      exact retI (H'.o _ hd) (by rw [← hg.o, Nat.gcd_zero_right])
    · have hbne : ((b' : Int) == 0) = false := by simpa using h0
      have hm := Hd.i (Nat.mod_lt a' (Nat.pos_of_ne_zero h0))
      go_wp2
      go_quiet (fail)
      go_wp2
      go_roundw
      case rel => exact ⟨b', a' % b', rfl, by go_num, hb, by have := hm.o; omega, by show _ = _; rw [← hg.o, Nat.gcd_comm a' b', Nat.gcd_rec b' a', Nat.gcd_comm], hd.step nq⟩
      case measure => have := hm.o; simp [intOf]; omega

theorem lcm_step (o n : Nat) : (o : Int) / ((Nat.gcd o n : Nat) : Int) * (n : Int) = ((Nat.lcm o n : Nat) : Int) := by
  rw [← lcm_eq]; rfl

set_option maxHeartbeats 1000000 in
theorem topSpecElementOrder {R : Ending → World → Prop} {B : Nat} (a : Option Addr) (n cap : Nat) (p : List Int) (w : World) (h : OwnI w B a n cap p) (H : Gives R w (.int .i64 (pOrder p))) :
    Calls Try.prog 15 #[.slice a n cap] w R := by
  have H' := Hd.i H; clear H
  have hln := Hd.i h.length
  by_cases hp : IsPerm p
  · have e := Hd.i (show pOrder p = (orderN p : Int) by simp [pOrder, hp])
    have hdec := Hd.i (decide_eq_true hp)
    have hn : n ≤ 20 := by have := hp.2.1; have := hln.o; omega
    replace hp := Hd.i hp
    go_enter Try.func15, Try.ntmps15
    go_wp2_with fail
    refine specIsPerm_c _ _ _ p _ h.ints h.cap ?_
    intro w1 hd1
    rw [hdec.o]
    have hb1 := hd1.below w.heap.size
    go_wp2
    go_loopw [3, 4] (fun v i wr => ∃ (k o : Nat), k ≤ n ∧ i = .int .i64 k ∧ v = .int .i64 o ∧ Hd (o = lcms (pers p k)) ∧ Below w.heap.size w wr) (fun _ i _ => n - (intOf i).toNat)
    case atStart => exact ⟨0, 1, Nat.zero_le _, rfl, rfl, rfl, hb1⟩
    case round =>
      obtain ⟨k, o, hk, rfl, rfl, ho, hb⟩ := hrel
      by_cases hlt : k < n
      · have hr1 := lcms_big (pers_range hp.o (k := k) (by have := hln.o; omega))
        have hr2 := lcms_big (pers_range hp.o (k := k + 1) (by have := hln.o; omega))
        rw [pers_succ, lcms_snoc] at hr2
        rw [← ho.o] at hr1 hr2
        have hper := per_spec hp.o (x := (k : Int)) ⟨by omega, by have := hln.o; omega⟩
        go_wp2_with fail
        refine cycleOf_c _ _ _ p _ _ (h.ints.up hb) hp (by omega) (by omega) ?_
        intro b1 m1 d1 w2 hb2 ho2
        have hm1 : per p k = m1 := by rw [← ho2.length, cyc_length]
        rw [hm1] at hr2 hper
        have hs := Hd.i (lcm_step o m1)
        have hb3 := below_ups hb hb2 hb.size
        have hg := Nat.gcd_pos_of_pos_left m1 (show 0 < o by omega)
        have hg2 := Nat.le_of_dvd (by omega) (Nat.gcd_dvd_left o m1)
        have hm20 : m1 ≤ 20 := by have := hper.2.1; have := hln.o; omega
        have hm0 : 1 ≤ m1 := hper.1
        have hl1 := hr2.2
        have ho1 : 1 ≤ o := hr1.1
        have ho3 : o ≤ 232792560 := hr1.2
        obtain ⟨G, hG⟩ : ∃ G, G = Nat.gcd o m1 := ⟨_, rfl⟩
        rw [← hG] at hg hg2 hs
        replace hm1 := Hd.i hm1
        clear hper hr1 hr2
        have hq0 : ((G : Int) == 0) = false := by rw [beq_eq_false_iff_ne]; omega
        have hdv := IntWalk.tdiv_le (o : Int) (G : Int) (by omega) (by omega)
        have hq := Hd.i (IntWalk.wrap64_in ((o : Int) / (G : Int)) (by omega))
        have hmul := Hd.i (IntWalk.wrap64_in ((o : Int) / (G : Int) * (m1 : Int)) (by rw [hs.o]; omega))
        clear hdv
        replace hG := Hd.i hG
        go_wp2_with (go_at_call 57; refine specGcd_c o m1 _ (by omega) (by omega) ?_; rw [← hG.o])
        refine ⟨⟨k + 1, Nat.lcm o m1, by omega, by go_num, by rw [hq.o, hmul.o, hs.o], ?_, hb3⟩, by simp [intOf]; omega⟩
        show _ = _
        rw [pers_succ, lcms_snoc, ← ho.o, hm1.o]
      · obtain rfl : k = n := by omega
        go_wp2
        have e2 : o = orderN p := by rw [ho.o, orderN, hln.o]
        rw [e2]
        exact retI (H'.o _ hb) e.o
  · have e := Hd.i (show pOrder p = 0 by simp [pOrder, hp])
    have hdec := Hd.i (decide_eq_false hp)
    go_enter Try.func15, Try.ntmps15
    go_wp2_with fail
    refine specIsPerm_c _ _ _ p _ h.ints h.cap ?_
    intro w1 hd1
    rw [hdec.o]
    go_wp2
    exact retI (H'.o _ (hd1.below _)) e.o

set_option maxHeartbeats 1000000 in
theorem implOrder_c {R : Ending → World → Prop} (a : Option Addr) (n cap : Nat) (p : List Int) (w : World) (h : Ints w a n p) (hp : Hd (IsPerm p)) (H : Gives R w (.int .i64 (orderN p : Nat))) :
    Calls Try.prog 59 #[.slice a n cap] w R := by
  have H' := Hd.i H; clear H
  go_enter Try.func59, Try.ntmps59
  go_wp2_with fail
  refine implCycles_c _ _ _ p _ h hp ?_
  intro b1 m1 d1 hs w1 hb1 ho1
  have hml := Hd.i ho1.length
  have hmle := ho1.le
  go_wp2
  go_loopw [3, 9] (fun v i wr => ∃ (k o : Nat), k ≤ m1 ∧ i = .int .i64 k ∧ v = .int .i64 o ∧ Hd (o = lcms (((longC p).take k).map List.length)) ∧ Drew w1 wr) (fun _ i _ => m1 - (intOf i).toNat)
  case atStart => exact ⟨0, 1, Nat.zero_le _, rfl, rfl, rfl, Drew.refl _⟩
  case round =>
    obtain ⟨k, o, hk, rfl, rfl, ho, hd⟩ := hrel
    by_cases hlt : k < m1
    · obtain ⟨b, off, a', n', c', ys, rfl, hbl, hcell, hyk, hin, _⟩ := (hd.rows ho1.rows).at hlt
      have hyl := hin.length
      have hr1 := lcms_big (longC_lens hp.o k)
      have hr2 := lcms_big (longC_lens hp.o (k + 1))
      rw [take_succ_some hyk.o, List.map_append, List.map_singleton, lcms_snoc, hyl] at hr2
      rw [← ho.o] at hr1 hr2
      have hl := longC_len hp.o (List.mem_of_getElem? hyk.o)
      rw [hyl] at hl
      have hs' := Hd.i (lcm_step o n')
      have hg := Nat.gcd_pos_of_pos_left n' (show 0 < o by omega)
      have hg2 := Nat.le_of_dvd (by omega) (Nat.gcd_dvd_left o n')
      have hl1 := hr2.2
      have ho3 : o ≤ 232792560 := hr1.2
      obtain ⟨G, hG⟩ : ∃ G, G = Nat.gcd o n' := ⟨_, rfl⟩
      rw [← hG] at hg hg2 hs'
      replace hyl := Hd.i hyl
      clear hr1 hr2
      have hq0 : ((G : Int) == 0) = false := by rw [beq_eq_false_iff_ne]; omega
      have hdv := IntWalk.tdiv_le (o : Int) (G : Int) (by omega) (by omega)
      have hq := Hd.i (IntWalk.wrap64_in ((o : Int) / (G : Int)) (by omega))
      have hmul := Hd.i (IntWalk.wrap64_in ((o : Int) / (G : Int) * (n' : Int)) (by rw [hs'.o]; omega))
      clear hdv
      replace hG := Hd.i hG
      go_wp2
      go_quiet (first | (go_at_call 74; exact Calls.quiet_of_same (length_c _ _ _ _ ⟨rfl, rfl⟩)) | (go_at_call 89; exact Calls.quiet_of (implGcd_c o n' _ (by omega) (by omega) (by intro w' hd'; exact ⟨by rw [← hG.o], hd'⟩))))
      go_wp2
      go_roundw
      case rel =>
        refine ⟨k + 1, Nat.lcm o n', by omega, by go_num, by rw [hq.o, hmul.o, hs'.o], ?_, hd.step nq⟩
        show _ = _
        rw [take_succ_some hyk.o, List.map_append, List.map_singleton, lcms_snoc, hyl.o, ← ho.o]
      case measure => simp [intOf]; omega
    · obtain rfl : k = m1 := by omega
      go_wp2
      have e2 : o = orderN p := by rw [ho.o, List.take_of_length_le (by have := hml.o; omega), longC_order hp.o]
      rw [e2]
      exact H'.o _ (hd.up hb1)

theorem topImplElementOrder {R : Ending → World → Prop} {B : Nat} (a : Option Addr) (n cap : Nat) (p : List Int) (w : World) (h : OwnI w B a n cap p) (H : Gives R w (.int .i64 (pOrder p))) :
    Calls Try.prog 17 #[.slice a n cap] w R := by
  have H' := Hd.i H; clear H
  by_cases hp : IsPerm p
  · have e := Hd.i (show pOrder p = (orderN p : Int) by simp [pOrder, hp])
    have hdec := Hd.i (decide_eq_true hp)
    replace hp := Hd.i hp
    go_enter Try.func17, Try.ntmps17
    go_wp2_with (first | (go_at_call 58; refine implIsPerm_c _ _ _ p _ h.ints ?_; rw [hdec.o]) | (go_at_call 59; refine implOrder_c _ _ _ p _ h.ints hp ?_; intro w2 hb2))
    exact retI (H'.o _ hb2) e.o
  · have e := Hd.i (show pOrder p = 0 by simp [pOrder, hp])
    have hdec := Hd.i (decide_eq_false hp)
    go_enter Try.func17, Try.ntmps17
    go_wp2_with (first | (go_at_call 58; refine implIsPerm_c _ _ _ p _ h.ints ?_; rw [hdec.o]))
    exact retI (H'.o _ (Below.refl _ _)) e.o

set_option maxHeartbeats 1000000 in
theorem implSign_c {R : Ending → World → Prop} (a : Option Addr) (n cap : Nat) (p : List Int) (w : World) (h : Ints w a n p) (hp : Hd (IsPerm p)) (H : Gives R w (.int .i64 (sgn (evens (longC p))))) :
    Calls Try.prog 66 #[.slice a n cap] w R := by
  have H' := Hd.i H; clear H
  go_enter Try.func66, Try.ntmps66
  go_wp2_with fail
  refine implCycles_c _ _ _ p _ h hp ?_
  intro b1 m1 d1 hs w1 hb1 ho1
  have hml := Hd.i ho1.length
  have hmle := ho1.le
  have hm := ho1.rows
  go_wp2
  go_loop [3, 9] (fun v i => ∃ (k : Nat) (o : Int), k ≤ m1 ∧ i = .int .i64 k ∧ v = .int .i64 o ∧ -1 ≤ o ∧ o ≤ 1 ∧ Hd (o = sgn (evens ((longC p).take k)))) (fun _ i => m1 - (intOf i).toNat)
  case atStart => exact ⟨0, 1, Nat.zero_le _, rfl, rfl, by omega, by omega, rfl⟩
  case round =>
    obtain ⟨k, o, hk, rfl, rfl, ho1', ho2', ho⟩ := hrel
    by_cases hlt : k < m1
    · obtain ⟨b, off, a', n', c', ys, rfl, hbl, hcell, hyk, hin, _⟩ := hm.at hlt
      have hyl := hin.length
      have hle' := hin.le
      have es := evens_snoc ((longC p).take k) ys
      rw [← take_succ_some hyk.o, hyl] at es
      by_cases he : n' % 2 = 0
      · rw [if_pos he] at es
        have e3 : -o = sgn (evens ((longC p).take (k + 1))) := by
          rw [es, ho.o]; unfold sgn; split <;> split <;> omega
        replace es := Hd.i es
        replace e3 := Hd.i e3
        replace hyl := Hd.i hyl
        have hz : (((n' : Int) % 2) == 0) = true := by rw [beq_iff_eq]; omega
        go_wp2
        go_round
        case rel => exact ⟨k + 1, -o, by omega, by go_num, by first | rfl | go_num, by omega, by omega, e3.o⟩
        case measure => simp [intOf]; omega
      · rw [if_neg he] at es
        have e3 : o = sgn (evens ((longC p).take (k + 1))) := by rw [es]; exact ho.o
        replace es := Hd.i es
        replace e3 := Hd.i e3
        replace hyl := Hd.i hyl
        have hz : (((n' : Int) % 2) == 0) = false := by rw [beq_eq_false_iff_ne]; omega
        go_wp2
        go_round
        case rel => exact ⟨k + 1, o, by omega, by go_num, rfl, by omega, by omega, e3.o⟩
        case measure => simp [intOf]; omega
    · obtain rfl : k = m1 := by omega
      go_wp2
      have e2 : o = sgn (evens (longC p)) := by rw [ho.o, List.take_of_length_le (by have := hml.o; omega)]
      rw [e2]
      exact H'.o _ hb1

theorem topImplSign {R : Ending → World → Prop} {B : Nat} (a : Option Addr) (n cap : Nat) (p : List Int) (w : World) (h : OwnI w B a n cap p) (H : Gives R w (.int .i64 (pSign p))) :
    Calls Try.prog 24 #[.slice a n cap] w R := by
  have H' := Hd.i H; clear H
  by_cases hp : IsPerm p
  · have e := Hd.i (show pSign p = sgn (evens (longC p)) by simp [pSign, hp])
    have hdec := Hd.i (decide_eq_true hp)
    replace hp := Hd.i hp
    go_enter Try.func24, Try.ntmps24
    go_wp2_with (first | (go_at_call 58; refine implIsPerm_c _ _ _ p _ h.ints ?_; rw [hdec.o]) | (go_at_call 66; refine implSign_c _ _ _ p _ h.ints hp ?_; intro w2 hb2))
    exact retI (H'.o _ hb2) e.o
  · have e := Hd.i (show pSign p = 0 by simp [pSign, hp])
    have hdec := Hd.i (decide_eq_false hp)
    go_enter Try.func24, Try.ntmps24
    go_wp2_with (first | (go_at_call 58; refine implIsPerm_c _ _ _ p _ h.ints ?_; rw [hdec.o]))
    exact retI (H'.o _ (Below.refl _ _)) e.o

theorem topSpecSign {R : Ending → World → Prop} {B : Nat} (a : Option Addr) (n cap : Nat) (p : List Int) (w : World) (h : OwnI w B a n cap p) (H : Gives R w (.int .i64 (pSign p))) :
    Calls Try.prog 23 #[.slice a n cap] w R := by
  have H' := Hd.i H; clear H
  have hln := Hd.i h.length
  by_cases hp : IsPerm p
  · have e := Hd.i (show pSign p = sgn (evens (longC p)) by simp [pSign, hp])
    have hsg := sign_spec hp
    have hn : n ≤ 20 := by have := hp.2.1; have := hln.o; omega
    have hle0 : (allC p).length ≤ n := by have := hsg.1; have := hln.o; omega
    rw [hln.o] at hsg
    have hv := Hd.i hsg.2
    have hdec := Hd.i (decide_eq_true hp)
    replace hp := Hd.i hp
    replace hle0 := Hd.i hle0
    clear hsg
    go_enter Try.func23, Try.ntmps23
    go_wp2_with fail
    refine specIsPerm_c _ _ _ p _ h.ints h.cap ?_
    intro w1 hd1
    rw [hdec.o]
    go_wp2_with fail
    refine allCycles_c _ _ _ p _ (hd1.ownI h).ints hp ?_
    intro b1 m1 d1 hs w2 hb2 ho2
    have hm : m1 = (allC p).length := ho2.length.symm
    have hmn : m1 ≤ n := by have := hle0.o; omega
    have hb3 := Hd.i (below_ups (hd1.below w.heap.size) hb2 (Nat.le_of_eq hd1.size.symm))
    by_cases he : (n - m1) % 2 = 1
    · have hz : ((((n : Int) - (m1 : Int)) % 2) == 1) = true := by rw [beq_iff_eq]; omega
      replace hm := Hd.i hm
      go_wp2
      exact retI (H'.o _ hb3.o) (by rw [e.o, hv.o, ← hm.o, if_pos he])
    · have hz : ((((n : Int) - (m1 : Int)) % 2) == 1) = false := by rw [beq_eq_false_iff_ne]; omega
      replace hm := Hd.i hm
      go_wp2
      exact retI (H'.o _ hb3.o) (by rw [e.o, hv.o, ← hm.o, if_neg he])
  · have e := Hd.i (show pSign p = 0 by simp [pSign, hp])
    have hdec := Hd.i (decide_eq_false hp)
    go_enter Try.func23, Try.ntmps23
    go_wp2_with fail
    refine specIsPerm_c _ _ _ p _ h.ints h.cap ?_
    intro w1 hd1
    rw [hdec.o]
    go_wp2
    exact retI (H'.o _ (hd1.below _)) e.o
end Go.Proofs.Ytockombopcjldaa
