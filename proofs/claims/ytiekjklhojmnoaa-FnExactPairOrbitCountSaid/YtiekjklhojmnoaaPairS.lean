/- PairOrbitCount of the reference. -/
import Derived.Test.YtiekjklhojmnoaaPurePair
import Derived.Test.YtiekjklhojmnoaaSeen
import Derived.Test.YtiekjklhojmnoaaQue
import Derived.Test.YtiekjklhojmnoaaPut
namespace Go.Proofs.Ytiekjklhojmnoaa
open Go.RowKit

theorem SeenIs.get {bs : List Bool} {n : Nat} {S : Int → Prop} (h : SeenIs bs n S) {j : Nat} {b : Bool} (hb : bs[j]? = some b) : b = true ↔ S (j : Int) := h.2 j b hb
/-- A cell of a row of bools. -/
theorem Own.bool {w : World} {B E g n cap k : Nat} {bs : List Bool} (h : Own w B E (some ⟨g, 0, none⟩) n cap (bs.map Value.bool)) (hk : k < n) :
    ∃ b, w.cell? ⟨g, k, none⟩ = some (.bool b) ∧ w.frozen? ⟨g, k, none⟩ = false ∧ Hd (bs[k]? = some b) := by
  obtain ⟨v, h1, h2, h3⟩ := h.at' hk
  have h3 := h3.o
  rw [List.getElem?_map, Option.map_eq_some_iff] at h3
  obtain ⟨b, hb, rfl⟩ := h3
  exact ⟨b, h1, h2, hb⟩
theorem Own.putBool {w : World} {B E g n cap k : Nat} {bs : List Bool} (h : Own w B E (some ⟨g, 0, none⟩) n cap (bs.map Value.bool)) (b : Bool) : Own (w.setCell ⟨g, k, none⟩ (.bool b)) B E (some ⟨g, 0, none⟩) n cap ((bs.set k b).map Value.bool) := by
  have := h.store (k := k) (.bool b)
  rwa [← List.map_set] at this

set_option maxHeartbeats 4000000 in
set_option maxRecDepth 100000 in
theorem topSpecPairOrbitCount {R : Ending → World → Prop} {B : Nat} (z : Int) (a : Option Addr) (n cap : Nat) (hs : List Hdr) (xss : List (List Int)) (w : World) (_ : -9223372036854775808 ≤ z ∧ z ≤ 9223372036854775807) (hm0 : OwnH w B a n cap hs xss)
    (H : Gives R w (.int .i64 (pPairs z xss))) : Calls Try.prog 36 #[.int .i64 z, .slice a n cap] w R := by
  have H' := Hd.i H; clear H
  have hm := hm0.rows
  clear hm0
  by_cases hg : GenSet z xss
  case neg =>
    have hdec := Hd.i (decide_eq_false hg)
    have e := Hd.i (show pPairs z xss = 0 by unfold pPairs; rw [if_neg hg])
    replace hg := Hd.i hg
    go_enter Try.func36, Try.ntmps36
    go_wp2_with (go_at_call 52; refine specGenSet_c z _ _ _ xss _ hm ?_; intro w1 hd1; rw [hdec.o])
    have hf := H'.o _ (hd1.below w.heap.size)
    rw [e.o] at hf
    exact hf
  have hdec := Hd.i (decide_eq_true hg)
  obtain ⟨d, rfl⟩ : ∃ d : Nat, z = d := ⟨z.toNat, by have := hg.1; omega⟩
  have h1 : 1 ≤ d := by have := hg.1; omega
  have h2 : d ≤ 20 := by have := hg.2.1; omega
  obtain ⟨N, hN⟩ : ∃ N, N = d * d := ⟨_, rfl⟩
  have hN400 : N ≤ 400 := by rw [hN]; exact Nat.mul_le_mul h2 h2
  have hval := Hd.i (show pPairs (d : Int) xss = (cntT d xss N : Int) by unfold pPairs; rw [if_pos hg, Int.toNat_natCast, ← hN])
  have hgn := Hd.i (genSet_gens hg)
  have hdd : (d : Int) * (d : Int) = (N : Int) := by rw [hN]; simp
  have hd0 : ¬ d = 0 := by omega
  have hln := Hd.i hm.length
  have hn8 : n ≤ 8 := by have := hg.2.2.1; have := hln.o; omega
  replace hg := Hd.i hg
  replace hN := Hd.i hN
  go_enter Try.func36, Try.ntmps36
  go_wp2_with fail
  refine specGenSet_c (d : Int) _ _ _ xss _ hm ?_
  intro w1 hd1
  rw [hdec.o]
  obtain ⟨w2, hmk, hs2, hb2, how2⟩ := make_own w1 58 4 (.bool false) 1 Try.underlying58 infoBool rfl N (by omega) (by omega)
  obtain ⟨gs, hgs⟩ : ∃ gs, gs = w1.heap.size := ⟨_, rfl⟩
  have hm2 := hd1.rows hm
  replace hm2 := hm2.up hb2
  have hbw := below_ups (hd1.below w.heap.size) hb2 (by rw [hd1.size]; exact Nat.le_refl _)
  rw [← hgs] at hmk how2
  have hs2' := hs2.o
  rw [← hgs] at hs2'
  have hgsl : gs < w2.heap.size := by omega
  have hwgs : w.heap.size ≤ gs := by rw [hgs, hd1.size]; exact Nat.le_refl _
  replace hs2' := Hd.i hs2'
  clear hs2 hb2
  replace hgs := Hd.i hgs
  have how2' : Own w2 gs 4 (some ⟨gs, 0, none⟩) N N ((List.replicate N false).map Value.bool) := by simpa using how2
  clear how2
  go_wp2_with fail
  go_loopw [5, 7] (fun cv iv wr => ∃ (k : Nat) (bs : List Bool), k ≤ N ∧ iv = .int .i64 k ∧ cv = .int .i64 (cntT d xss k : Nat) ∧ Own wr gs 4 (some ⟨gs, 0, none⟩) N N (bs.map Value.bool) ∧ Hd (SeenIs bs N (SeenT d xss k)) ∧ Below gs w2 wr ∧ Hd (w2.heap.size ≤ wr.heap.size)) (fun _ iv _ => N - (intOf iv).toNat)
  case atStart => exact ⟨0, _, Nat.zero_le _, rfl, rfl, how2', SeenIs.start N (fun _ h => h), Below.refl _ _, Nat.le_refl _⟩
  case round =>
    clear how2'
    obtain ⟨k, bs, hk, rfl, rfl, hos, hse, hb, hsz0⟩ := hrel
    have hsz := hsz0.o
    have hbr := hbw.trans (hb.mono hwgs)
    have hcn := cntT_le d xss k
    by_cases hlt : k < N
    · obtain ⟨kx, hkx⟩ : ∃ x, x = k / d := ⟨_, rfl⟩
      obtain ⟨ky, hky⟩ : ∃ y, y = k % d := ⟨_, rfl⟩
      have htd : Int.tdiv (k : Int) (d : Int) = (kx : Int) := by rw [Int.tdiv_eq_ediv_of_nonneg (by omega), hkx]; simp
      have htm : Int.tmod (k : Int) (d : Int) = (ky : Int) := by rw [Int.tmod_eq_emod_of_nonneg (by omega), hky]; simp
      obtain ⟨_, hkxd, hkyd⟩ := pair_nat (d := d) (v := k) (by rw [← hN.o]; exact hlt)
      rw [← hkx] at hkxd
      rw [← hky] at hkyd
      have hwk : IntKind.i64.wrap (kx : Int) = (kx : Int) := IntWalk.i64_in _ (by omega)
      obtain ⟨b, hb1, hb2, hb3⟩ := hos.bool hlt
      have hbs := Hd.i (hse.o.get hb3.o)
      replace hkx := Hd.i hkx
      replace hky := Hd.i hky
      by_cases hxy : kx = ky
      · have hno : ¬ (k / d ≠ k % d ∧ ¬ SeenT d xss k k) := fun h => h.1 (by rw [← hkx.o, ← hky.o]; exact hxy)
        have hc1 := Hd.i (cntT_no hno)
        have hs1 := Hd.i (seenT_no hno)
        have hbe : ((kx : Int) == (ky : Int)) = true := by rw [hxy]; simp
        replace hxy := Hd.i hxy
        clear hno
        go_wp2
        go_quiet (fail)
        go_wp2
        refine ⟨⟨k + 1, bs, by omega, by go_num, by rw [hc1.o], hos.drewN _, hse.o.iff hs1.o, hb.trans (((Drew.refl _).step nq).below _), hsz0⟩, by simp [intOf]; omega⟩
      · have hbe : ((kx : Int) == (ky : Int)) = false := by rw [beq_eq_false_iff_ne]; omega
        have hxy2 := Hd.i (show k / d ≠ k % d by rw [← hkx.o, ← hky.o]; exact hxy)
        replace hxy := Hd.i hxy
        cases b with
        | true =>
          have hno : ¬ (k / d ≠ k % d ∧ ¬ SeenT d xss k k) := fun h => h.2 (hbs.o.1 rfl)
          have hc1 := Hd.i (cntT_no hno)
          have hs1 := Hd.i (seenT_no hno)
          clear hno
          go_wp2
          go_quiet (fail)
          go_wp2
          refine ⟨⟨k + 1, bs, by omega, by go_num, ?_, hos.drewN _, hse.o.iff hs1.o, hb.trans (((Drew.refl _).step nq).below _), hsz0⟩, by simp [intOf]; omega⟩
          rw [hc1.o]
        | false =>
          have hcond := Hd.i (show k / d ≠ k % d ∧ ¬ SeenT d xss k k from ⟨hxy2.o, fun h => by have := hbs.o.2 h; cases this⟩)
          have hc1 := Hd.i (cntT_yes hcond.o)
          have hbeg := Hd.i (BfsP.begin (gens := xss) (show k < d * d by rw [← hN.o]; exact hlt))
          have hse1 : Hd (SeenIs (bs.set k true) N (fun v => SeenT d xss k v ∨ v = (k : Int))) := by
            have h := hse.o.set (z := (k : Int)) (S' := fun v => SeenT d xss k v ∨ v = (k : Int)) (by omega) (fun _ => Iff.rfl)
            rw [Int.toNat_natCast] at h
            exact h
          go_wp2
          go_quiet (fail)
          obtain ⟨w3, hw3⟩ : ∃ w3, w3 = wr.drewN nq := ⟨_, rfl⟩
          have hos3 : Own w3 gs 4 (some ⟨gs, 0, none⟩) N N (bs.map Value.bool) := by rw [hw3]; exact hos.drewN _
          have hb3 : Below gs w2 w3 := by rw [hw3]; exact hb.trans (((Drew.refl _).step nq).below _)
          have hsz3 : w2.heap.size ≤ w3.heap.size := by rw [hw3]; exact hsz
          rw [← hw3]
          clear hw3 hb1 hb2 hos hb hbr hwk
          obtain ⟨_, hb1, hb2, _⟩ := hos3.bool hlt
          have hos4 := hos3.putBool (k := k) true
          obtain ⟨w4, hw4⟩ : ∃ w4, w4 = w3.setCell ⟨gs, k, none⟩ (.bool true) := ⟨_, rfl⟩
          rw [← hw4] at hos4
          have hb4 : Below gs w2 w4 := by rw [hw4]; exact hb3.setCell (p := ⟨gs, k, none⟩) (Nat.le_refl _) _
          have hsz4 : w2.heap.size ≤ w4.heap.size := by rw [hw4, size_store]; exact hsz3
          go_wp2
          rw [← hw4]
          have hoq : OwnI (w4.alloc (.cells #[.int .i64 (k : Int)] 2)) w2.heap.size (some ⟨w4.heap.size, 0, none⟩) 1 1 [(k : Int)] := ⟨Own.lit w4 [.int .i64 (k : Int)] _ (by simp) hsz4, by intro u hu; simp at hu; omega⟩
          rw [show w4.heap.size = w3.heap.size by rw [hw4, size_store]] at hoq
          have hos5 := hos4.alloc (.cells #[.int .i64 (k : Int)] 2)
          have hb5 := hb4.alloc (by omega) (.cells #[.int .i64 (k : Int)] 2)
          clear hw4 hos4 hb3 hos3 hb1 hb2
          go_loopw [8, 9] (fun qv iv wr' => ∃ (i m capc : Nat) (c : Option Addr) (Q : List Int) (S : Int → Prop) (bs' : List Bool), i ≤ m ∧ iv = .int .i64 i ∧ qv = .slice c m capc ∧ OwnI wr' w2.heap.size c m capc Q ∧ Own wr' gs 4 (some ⟨gs, 0, none⟩) N N (bs'.map Value.bool) ∧ Hd (SeenIs bs' N S) ∧ Hd (BfsP d xss k S Q i 0) ∧ Below gs w2 wr' ∧ Hd (w2.heap.size ≤ wr'.heap.size)) (fun _ iv _ => 401 - (intOf iv).toNat)
          case atStart => exact ⟨0, 1, 1, _, [(k : Int)], _, _, by omega, rfl, rfl, hoq, hos5, hse1, hbeg.o, hb5, by show _ ≤ _; simp; omega⟩
          case round =>
            clear hoq hos5 hb5 hsz4 hbeg hse1
            obtain ⟨i, m, capc, c, Q, S, bs', hi, rfl, rfl, hoq, hos, hse', hbf, hb, hsz1⟩ := hrel
            have hlen := Hd.i hoq.length
            have hm400 : m ≤ 400 := by have := hbf.o.len; rw [← hN.o] at this; have := hlen.o; omega
            by_cases hlt2 : i < m
            · obtain ⟨wo, rfl⟩ : ∃ wo, wo = wr := ⟨wr, rfl⟩
              obtain ⟨u, hu⟩ : ∃ u, Hd (Q[i]? = some u) := ⟨_, List.getElem?_eq_getElem (by have := hlen.o; omega)⟩
              have hur := hbf.o.range u (List.mem_of_getElem? hu.o)
              obtain ⟨v, rfl⟩ : ∃ v : Nat, u = v := ⟨u.toNat, by have := hur.1; omega⟩
              have hvN : v < N := by have := hur.2; rw [← hN.o] at this; omega
              replace hur := Hd.i hur
              go_wp2
              go_loopw [8, 10] (fun qv jv wr' => ∃ (j m capc : Nat) (c : Option Addr) (Q : List Int) (S : Int → Prop) (bs' : List Bool), j ≤ n ∧ jv = .int .i64 j ∧ qv = .slice c m capc ∧ OwnI wr' w2.heap.size c m capc Q ∧ Own wr' gs 4 (some ⟨gs, 0, none⟩) N N (bs'.map Value.bool) ∧ Hd (SeenIs bs' N S) ∧ Hd (BfsP d xss k S Q i j) ∧ Hd (Q[i]? = some (v : Int)) ∧ Below gs w2 wr' ∧ Hd (w2.heap.size ≤ wr'.heap.size)) (fun _ jv _ => n - (intOf jv).toNat)
              case atStart => exact ⟨0, m, capc, c, Q, S, bs', Nat.zero_le _, rfl, rfl, hoq, hos, hse', hbf, hu, hb, hsz1⟩
              case round =>
                clear hoq hos hse' hbf hb hsz1 hlen hm400 hlt2 hi hu
                obtain ⟨j, m, capc, c, Q, S, bs', hj, rfl, rfl, hoq, hos, hse', hbf, hu, hb, hsz1⟩ := hrel
                have hlen := Hd.i hoq.length
                have hm400 : m ≤ 400 := by have := hbf.o.len; rw [← hN.o] at this; have := hlen.o; omega
                have him : i < m := by have := (List.getElem?_eq_some_iff.1 hu.o).1; have := hlen.o; omega
                by_cases hltj : j < n
                · obtain ⟨b, off, a1, n1, c1, p, rfl, hbb, hcell, hp, hin, _⟩ := (hm.up (hbw.trans (hb.mono hwgs))).at hltj
                  obtain ⟨g, u', rfl, hgB, hgl, hcu, _, hu'⟩ := hoq.look him
                  obtain rfl : u' = (v : Int) := Option.some.inj (hu'.o.symm.trans hu.o)
                  clear hu'
                  have hpg := Hd.i (hgn.o p (List.mem_of_getElem? hp.o))
                  have hn1 : n1 = d := by rw [← hin.length]; exact hpg.o.2
                  obtain ⟨_, hvx, hvy⟩ := pair_nat (d := d) (v := v) (by rw [← hN.o]; exact hvN)
                  obtain ⟨A, hA, eA⟩ := gens_at hgn.o (List.mem_of_getElem? hp.o) hvx
                  obtain ⟨Bb, hBb, eB⟩ := gens_at hgn.o (List.mem_of_getElem? hp.o) hvy
                  have est := stP_nat (v := v) eA eB
                  have hnx := pair_lt2 hA hBb
                  obtain ⟨vx, hvxe⟩ : ∃ x, x = v / d := ⟨_, rfl⟩
                  obtain ⟨vy, hvye⟩ : ∃ y, y = v % d := ⟨_, rfl⟩
                  rw [← hvxe] at hvx eA
                  rw [← hvye] at hvy eB
                  obtain ⟨b2, off2, ya, e2, hb2, hcy, hya, _, _⟩ := hin.at (k := vx) (by omega)
                  obtain ⟨b3, off3, yb, e3, hb3, hcz, hyb, _, _⟩ := hin.at (k := vy) (by omega)
                  subst e2
                  cases e3
                  have hya' : ya = (A : Int) := by rw [← eA]; exact (at0_of (by rw [Int.toNat_natCast]; exact hya.o)).symm
                  have hyb' : yb = (Bb : Int) := by rw [← eB]; exact (at0_of (by rw [Int.toNat_natCast]; exact hyb.o)).symm
                  subst hya'
                  subst hyb'
                  obtain ⟨P, hP⟩ : ∃ P, P = A * d := ⟨_, rfl⟩
                  obtain ⟨nx, hnxe⟩ : ∃ x, x = A * d + Bb := ⟨_, rfl⟩
                  rw [← hnxe] at est hnx
                  rw [← hN.o] at hnx
                  have hPn : P + Bb = nx := by rw [hP, hnxe]
                  have htd : Int.tdiv (v : Int) (d : Int) = (vx : Int) := by rw [Int.tdiv_eq_ediv_of_nonneg (by omega), hvxe]; simp
                  have htm : Int.tmod (v : Int) (d : Int) = (vy : Int) := by rw [Int.tmod_eq_emod_of_nonneg (by omega), hvye]; simp
                  have hwx : IntKind.i64.wrap (vx : Int) = (vx : Int) := IntWalk.i64_in _ (by omega)
                  have hPd : (A : Int) * (d : Int) = (P : Int) := by rw [hP]; simp
                  have hwP : IntKind.i64.wrap (P : Int) = (P : Int) := IntWalk.i64_in _ (by omega)
                  have hPs : (P : Int) + (Bb : Int) = (nx : Int) := by omega
                  have hwS : IntKind.i64.wrap (nx : Int) = (nx : Int) := IntWalk.i64_in _ (by omega)
                  have hvx1 : vx < n1 := by omega
                  have hvy1 : vy < n1 := by omega
                  have hs := hsz1.o
                  have c1' : (m + 1) * 8 ≤ 140737488355328 := by omega
                  have c2' : m + 1 ≤ 281474976710656 := by omega
                  obtain ⟨sb, hsb1, hsb2, hsb3⟩ := hos.bool hnx
                  have hsb := Hd.i (hse'.o.get hsb3.o)
                  replace hn1 := Hd.i hn1
                  replace hP := Hd.i hP
                  replace hPn := Hd.i hPn
                  replace hnxe := Hd.i hnxe
                  replace hvxe := Hd.i hvxe
                  replace hvye := Hd.i hvye
                  replace est := Hd.i est
                  replace eA := Hd.i eA
                  replace eB := Hd.i eB
                  go_wp2
                  go_quiet (fail)
                  obtain ⟨w5, hw5⟩ : ∃ w5, w5 = wr.drewN nq := ⟨_, rfl⟩
                  have hoq5 : OwnI w5 w2.heap.size (some ⟨g, 0, none⟩) m capc Q := by rw [hw5]; exact hoq.drewN _
                  have hos5 : Own w5 gs 4 (some ⟨gs, 0, none⟩) N N (bs'.map Value.bool) := by rw [hw5]; exact hos.drewN _
                  have hb5 : Below gs w2 w5 := by rw [hw5]; exact hb.trans (((Drew.refl _).step nq).below _)
                  have hs5 : w2.heap.size ≤ w5.heap.size := by rw [hw5]; exact hs
                  rw [← hw5]
                  clear hw5 hsb1 hsb2 hoq hos hb hs htd htm hwx hPd hwP hPs hwS hcell hcu hcy hcz hbb hgl hb2 hb3
                  obtain ⟨sb', hsb1, hsb2, hsb4⟩ := hos5.bool hnx
                  obtain rfl : sb' = sb := Option.some.inj (hsb4.o.symm.trans hsb3.o)
                  cases sb' with
                  | true =>
                    have hyes := Hd.i (hbf.o.old hu.o hp.o (by rw [est.o]; exact hsb.o.1 rfl))
                    go_wp2
                    exact ⟨⟨j + 1, m, capc, some ⟨g, 0, none⟩, Q, S, bs', by omega, by go_num, rfl, hoq5, hos5, hse', hyes.o, hu, hb5, hs5⟩, by simp [intOf]; omega⟩
                  | false =>
                    have hnew := Hd.i (hbf.o.new hgn.o hu.o hp.o (by rw [est.o]; intro h; have := hsb.o.2 h; cases this))
                    rw [est.o] at hnew
                    have hse2 : Hd (SeenIs (bs'.set nx true) N (fun y => S y ∨ y = (nx : Int))) := by
                      have h := hse'.o.set (z := (nx : Int)) (S' := fun y => S y ∨ y = (nx : Int)) (by omega) (fun _ => Iff.rfl)
                      rw [Int.toNat_natCast] at h
                      exact h
                    have hos6 := hos5.putBool (k := nx) true
                    have hoq6 := hoq5.store_other (g := gs) (off := 0) (s := none) nx (.bool true) (by
                      intro b o s o' s' e1 e2
                      cases e1
                      have := (hoq5.1.lt e2).1
                      omega)
                    obtain ⟨w6, hw6⟩ : ∃ w6, w6 = w5.setCell ⟨gs, nx, none⟩ (.bool true) := ⟨_, rfl⟩
                    rw [← hw6] at hos6 hoq6
                    have hb6 : Below gs w2 w6 := by rw [hw6]; exact hb5.setCell (p := ⟨gs, nx, none⟩) (Nat.le_refl _) _
                    have hs6 : w2.heap.size ≤ w6.heap.size := by rw [hw6, size_store]; exact hs5
                    have hs65 := Hd.i (show w6.heap.size = w5.heap.size by rw [hw6, size_store])
                    have hapx : Hd (Apart (some (⟨gs, 0, none⟩ : Addr)) (some ⟨g, 0, none⟩)) := by
                      intro b o s o' s' e1 e2
                      cases e1
                      cases e2
                      omega
                    clear hoq5 hos5 hb5 hs5
                    go_wp2_with (first | (at_builtin; rw [← hw6]; refine appendG_c rfl _ _ _ rfl w2.heap.size 2 (.int .i64 0) 8 Try.underlying23 infoInt rfl _ _ _ _ rfl hoq6.1 [.int .i64 (nx : Int)] 1 _ rfl hs65.o.symm rfl oneInt c1' c2' hs6 ?_; intro a7 n7 cap7 w7 hn7 ho7 hg7 ha7))
                    refine ⟨⟨j + 1, n7, cap7, a7, Q ++ [(nx : Int)], _, bs'.set nx true, by omega, by go_num, rfl, OwnI.snoc ho7 hoq6.2 (by omega) (by omega), hg7.own hos6 hapx.o, hse2, hnew, ?_, hb6.trans (hg7.below (by omega) (fun b off s e => by cases e; omega)), Nat.le_trans hs6 hg7.size⟩, by simp [intOf]; omega⟩
                    show _ = _
                    rw [List.getElem?_append_left (List.getElem?_eq_some_iff.1 hu.o).1]
                    exact hu.o
                · obtain rfl : j = n := by omega
                  rw [← hln.o] at hbf
                  have hnext := Hd.i (hbf.o.next hu.o)
                  go_wp2
                  exact ⟨⟨i + 1, m, capc, c, Q, S, bs', by omega, by go_num, rfl, hoq, hos, hse', hnext.o, hb, hsz1⟩, by simp [intOf]; omega⟩
            · obtain rfl : i = m := by omega
              rw [← hlen.o] at hbf
              have hfull := Hd.i (hbf.o.full hcond.o)
              have hse3 := Hd.i (hse'.o.iff (fun y => (hfull.o y).symm))
              go_wp2
              refine ⟨⟨k + 1, bs', by omega, by go_num, ?_, hos, hse3.o, hb, hsz1⟩, by simp [intOf]; omega⟩
              rw [hc1.o]
              first | go_num | (congr 1; omega)
    · obtain rfl : k = N := by omega
      go_wp2
      have hf := H'.o _ (hbw.trans (hb.mono hwgs))
      rw [hval.o] at hf
      exact hf
end Go.Proofs.Ytiekjklhojmnoaa
