/- OrbitSizes. -/
import Derived.Test.YtpijnjhheikmcaaChainTop2
namespace Go.Proofs.Ytpijnjhheikmcaa
open Go.RowKit

open Classical in
noncomputable def pOrbitSizes (z : Int) (xss : List (List Int)) : List Int := if GenSet z xss then oszs z.toNat xss z.toNat else []

set_option maxHeartbeats 4000000 in
theorem topSpecOrbitSizes {R : Ending → World → Prop} {B : Nat} (z : Int) (a : Option Addr) (n cap : Nat) (hs : List Hdr) (xss : List (List Int)) (w : World) (_ : -9223372036854775808 ≤ z ∧ z ≤ 9223372036854775807) (hx : OwnH w B a n cap hs xss)
    (H : MakesI R w (pOrbitSizes z xss)) : Calls Try.prog 30 #[.int .i64 z, .slice a n cap] w R := by
  have H' := Hd.i H; clear H
  have hm := hx.rows
  by_cases hg : GenSet z xss
  · have hdec := Hd.i (decide_eq_true hg)
    obtain ⟨d, rfl⟩ := genSet_d hg
    have e := Hd.i (show pOrbitSizes (d : Int) xss = oszs d xss d by simp [pOrbitSizes, hg])
    replace hg := Hd.i hg
    go_enter Try.func30, Try.ntmps30
    go_wp2_with fail
    refine specGenSet_c (d : Int) _ _ _ xss _ hm ?_
    intro w1 hd1
    rw [hdec.o]
    have hb1 := hd1.below w.heap.size
    go_wp2_with fail
    refine specBuild_c d _ _ _ xss _ (hm.up hb1) hg ?_
    intro w2 cp hb2 hC
    have hb12 := below_ups hb1 hb2 hb1.size
    go_wp2_with fail
    refine specSizes_c d cp xss _ hC (gs_of hg.o) ?_
    intro a3 n3 c3 w3 hb3 ho3
    go_wp2
    exact H'.o _ _ _ _ (below_ups hb12 hb3 hb12.size) (by rw [e.o]; exact ho3.mono hb12.size)
  · have hdec := Hd.i (decide_eq_false hg)
    have e := Hd.i (show pOrbitSizes z xss = [] by simp [pOrbitSizes, hg])
    replace hg := Hd.i hg
    go_enter Try.func30, Try.ntmps30
    go_wp2_with fail
    refine specGenSet_c z _ _ _ xss _ hm ?_
    intro w1 hd1
    rw [hdec.o]
    go_wp2
    exact H'.o _ _ _ _ ((hd1.below _).alloc (by rw [hd1.size]; exact Nat.le_refl _) _) (by rw [e.o]; exact OwnI.emptyLit _ (by rw [hd1.size]; exact Nat.le_refl _))

set_option maxHeartbeats 4000000 in
theorem topImplOrbitSizes {R : Ending → World → Prop} {B : Nat} (z : Int) (a : Option Addr) (n cap : Nat) (hs : List Hdr) (xss : List (List Int)) (w : World) (_ : -9223372036854775808 ≤ z ∧ z ≤ 9223372036854775807) (hx : OwnH w B a n cap hs xss)
    (H : MakesI R w (pOrbitSizes z xss)) : Calls Try.prog 31 #[.int .i64 z, .slice a n cap] w R := by
  have H' := Hd.i H; clear H
  have hm := hx.rows
  clear hx
  by_cases hg : GenSet z xss
  · have hdec := Hd.i (decide_eq_true hg)
    obtain ⟨d, rfl⟩ := genSet_d hg
    have e := Hd.i (show pOrbitSizes (d : Int) xss = oszs d xss d by simp [pOrbitSizes, hg])
    have hd1 : 1 ≤ d := by have := hg.1; omega
    have hd20 : d ≤ 20 := by have := hg.2.1; omega
    have hgs := Hd.i (gs_of hg)
    replace hg := Hd.i hg
    go_enter Try.func31, Try.ntmps31
    go_wp2_with fail
    refine implGenSet_c (d : Int) _ _ _ xss _ hm ?_
    intro w1 hb1
    rw [hdec.o]
    go_wp2_with fail
    refine implChain_c d _ _ _ xss _ (hm.up hb1) hg ?_
    intro w2 cp hb2 hC
    have hb12 := below_ups hb1 hb2 hb1.size
    obtain ⟨r, B0, gb, tb, gc, tc, rb, gh, R0, G, h1, h2⟩ := hC
    have hc2 := h1.c2
    go_wp2
    go_loopw [5, 19] (fun v iv wr => ∃ (i : Nat) (c : Option Addr) (m capc : Nat), i ≤ d ∧ iv = .int .i64 i ∧ v = .slice c m capc ∧ OwnI wr w2.heap.size c m capc (oszs d xss i) ∧ Below w2.heap.size w2 wr) (fun _ iv _ => d - (intOf iv).toNat)
    case atStart => exact ⟨0, none, 0, 0, Nat.zero_le _, rfl, rfl, OwnI.nil w2 _, Below.refl _ _⟩
    case round =>
      clear hc2
      obtain ⟨i, c, m, capc, hi, rfl, rfl, ho, hb⟩ := hrel
      have hC := h1.up hb
      by_cases hlt : i < d
      · have htt := (hC.tt i hlt).1
        have hrow := hC.rows i hlt
        have hmi : m = i := by rw [← ho.length, oszs_length]
        have c1 : (m + 1) * 8 ≤ 140737488355328 := by omega
        have c2 : m + 1 ≤ 281474976710656 := by omega
        replace hmi := Hd.i hmi
        go_wp2_with (first
          | (go_at_call 69; refine implPts_c r B0 d (rb i) d (R0 i) _ hd20 hrow ?_; intro a5 n5 c5 w5 hb5 ho5; have hn5 := Hd.i (show n5 = osz d xss i by rw [← h2.o.osz hd1 hd20 hlt, ← ptsTo_len]; exact ho5.length.symm); have hn20 : n5 ≤ 20 := (by have := hn5.o; have := osz_le hd1 hd20 hgs.o i hlt; omega); have ho6 := ho.up hb5; have hb25 := below_on hb hb5; have hs25 := hb25.size)
          | (go_at_call 53; refine length_c _ _ _ _ ?_)
          | (at_builtin; refine appendL_c rfl _ _ _ rfl w2.heap.size 2 (.int .i64 0) 8 Try.underlying23 infoInt rfl _ _ _ _ rfl ho6.1 [.int .i64 (n5 : Nat)] 1 rfl rfl oneInt c1 c2 hs25 ?_; intro a2 n2 cap2 w6 hn2 ho2 hg2 ha2))
        exact ⟨⟨i + 1, a2, n2, cap2, by omega, by go_num, rfl, by rw [oszs_succ, ← hn5.o]; exact OwnI.snoc ho2 ho.2 (by omega) (by omega), ho6.grewBelow hg2 hb25 hs25⟩, by simp [intOf]; omega⟩
      · obtain rfl : i = d := by omega
        go_wp2
        exact H'.o _ _ _ _ (below_ups hb12 hb hb12.size) (by rw [e.o]; exact ho.mono hb12.size)
  · have hdec := Hd.i (decide_eq_false hg)
    have e := Hd.i (show pOrbitSizes z xss = [] by simp [pOrbitSizes, hg])
    replace hg := Hd.i hg
    go_enter Try.func31, Try.ntmps31
    go_wp2_with fail
    refine implGenSet_c z _ _ _ xss _ hm ?_
    intro w1 hb1
    rw [hdec.o]
    go_wp2
    exact H'.o _ _ _ _ hb1 (by rw [e.o]; exact OwnI.nil _ _)
end Go.Proofs.Ytpijnjhheikmcaa
