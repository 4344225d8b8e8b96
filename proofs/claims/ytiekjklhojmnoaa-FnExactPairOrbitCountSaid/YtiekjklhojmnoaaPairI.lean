/- PairOrbitCount of the program. -/
import Derived.Test.YtiekjklhojmnoaaPairQ
import Derived.Test.YtiekjklhojmnoaaPairS
import Derived.Deep.LoopGhost
namespace Go.Proofs.Ytiekjklhojmnoaa
open Go.RowKit

theorem zc : Try.zeroCells60 = (List.replicate 400 (Value.bool false)).toArray := by kernel_rfl

set_option maxHeartbeats 4000000 in
set_option maxRecDepth 100000 in
theorem topImplPairOrbitCount {R : Ending → World → Prop} {B : Nat} (z : Int) (a : Option Addr) (n cap : Nat) (hs : List Hdr) (xss : List (List Int)) (w : World) (_ : -9223372036854775808 ≤ z ∧ z ≤ 9223372036854775807) (hm0 : OwnH w B a n cap hs xss)
    (H : Gives R w (.int .i64 (pPairs z xss))) : Calls Try.prog 37 #[.int .i64 z, .slice a n cap] w R := by
  have H' := Hd.i H; clear H
  have hm := hm0.rows
  clear hm0
  by_cases hg : GenSet z xss
  case neg =>
    have hdec := Hd.i (decide_eq_false hg)
    have e := Hd.i (show pPairs z xss = 0 by unfold pPairs; rw [if_neg hg])
    replace hg := Hd.i hg
    go_enter Try.func37, Try.ntmps37
    go_wp2_with (go_at_call 55; refine implGenSet_c z _ _ _ xss _ hm ?_; intro w1 hb1; rw [hdec.o])
    have hf := H'.o _ hb1
    rw [e.o] at hf
    exact hf
  have hdec := Hd.i (decide_eq_true hg)
  obtain ⟨d, rfl⟩ : ∃ d : Nat, z = d := ⟨z.toNat, by have := hg.1; omega⟩
  have h1 : 1 ≤ d := by have := hg.1; omega
  have h2 : d ≤ 20 := by have := hg.2.1; omega
  have hval := Hd.i (show pPairs (d : Int) xss = (cntT d xss (d * d) : Int) by unfold pPairs; rw [if_pos hg, Int.toNat_natCast])
  have hgn := Hd.i (genSet_gens hg)
  have hln := Hd.i hm.length
  have hn8 : n ≤ 8 := by have := hg.2.2.1; have := hln.o; omega
  replace hg := Hd.i hg
  go_enter Try.func37, Try.ntmps37
  go_wp2_with fail
  refine implGenSet_c (d : Int) _ _ _ xss _ hm ?_
  intro w1 hb1
  rw [hdec.o]
  go_wp2_with fail
  obtain ⟨w2, hw2⟩ : ∃ w2, w2 = w1.alloc (.cells Try.zeroCells60 60) := ⟨_, rfl⟩
  obtain ⟨gs, hgs⟩ : ∃ gs, gs = w1.heap.size := ⟨_, rfl⟩
  have how : Own w2 gs 60 (some ⟨gs, 0, none⟩) 400 400 ((List.replicate 400 false).map Value.bool) := by
    rw [hw2, zc, hgs]
    have := Own.lit w1 (List.replicate 400 (Value.bool false)) 60 (by rw [List.length_replicate]; omega) (Nat.le_refl _)
    rw [List.length_replicate] at this
    rw [List.map_replicate]
    exact this
  have hs2' : w2.heap.size = gs + 1 := by rw [hw2, hgs]; simp
  have hbw : Below w.heap.size w w2 := by rw [hw2]; exact hb1.alloc hb1.size _
  have hwgs : w.heap.size ≤ gs := by rw [hgs]; exact hb1.size
  have hgsl : gs < w2.heap.size := by omega
  rw [← hw2, ← hgs]
  clear hw2
  replace hs2' := Hd.i hs2'
  replace hgs := Hd.i hgs
  go_loopw [6, 18] (fun cv iv wr => ∃ (x : Nat) (bs : List Bool), x ≤ d ∧ iv = .int .i64 x ∧ cv = .int .i64 (cntT d xss (x * d) : Nat) ∧ Own wr gs 60 (some ⟨gs, 0, none⟩) 400 400 (bs.map Value.bool) ∧ Hd (SeenG d bs (SeenT d xss (x * d))) ∧ Below gs w2 wr ∧ Hd (w2.heap.size ≤ wr.heap.size)) (fun _ iv _ => d - (intOf iv).toNat)
  case atStart => exact ⟨0, _, Nat.zero_le _, rfl, by rw [Nat.zero_mul]; rfl, how, by rw [Nat.zero_mul]; exact SeenG.start d (fun _ h => h), Below.refl _ _, Nat.le_refl _⟩
  case round =>
    clear how
    obtain ⟨x, bs, hx, rfl, rfl, hos, hse, hb, hsz0⟩ := hrel
    by_cases hltx : x < d
    · obtain ⟨wo, rfl⟩ : ∃ wo, wo = wr := ⟨wr, rfl⟩
      go_wp2
      go_loopw [6, 22] (fun cv jv wr => ∃ (y : Nat) (bs : List Bool), y ≤ d ∧ jv = .int .i64 y ∧ cv = .int .i64 (cntT d xss (x * d + y) : Nat) ∧ Own wr gs 60 (some ⟨gs, 0, none⟩) 400 400 (bs.map Value.bool) ∧ Hd (SeenG d bs (SeenT d xss (x * d + y))) ∧ Below gs w2 wr ∧ Hd (w2.heap.size ≤ wr.heap.size)) (fun _ jv _ => d - (intOf jv).toNat)
      case atStart => exact ⟨0, bs, Nat.zero_le _, rfl, rfl, hos, hse, hb, hsz0⟩
      case round =>
        clear hos hse hb hsz0
        obtain ⟨y, bs, hy, rfl, rfl, hos, hse, hb, hsz0⟩ := hrel
        have hsz := hsz0.o
        by_cases hlty : y < d
        · obtain ⟨k, hk⟩ : ∃ k, k = x * d + y := ⟨_, rfl⟩
          have hkl : k < d * d := by rw [hk]; exact pair_lt2 hltx hlty
          have hkd := Hd.i (show k / d = x by rw [hk, Nat.mul_comm, Nat.mul_add_div (by omega), Nat.div_eq_of_lt hlty]; rfl)
          have hkm := Hd.i (show k % d = y by rw [hk, Nat.mul_comm, Nat.mul_add_mod, Nat.mod_eq_of_lt hlty])
          rw [← hk] at hse ⊢
          have hk1 := Hd.i (show x * d + (y + 1) = k + 1 by rw [hk]; rfl)
          have hk400 : k < 400 := Nat.lt_of_lt_of_le hkl (Nat.mul_le_mul h2 h2)
          have hcn := cntT_le d xss k
          replace hkl := Hd.i hkl
          obtain ⟨b, hb1', hb2', hb3'⟩ := hos.bool (k := x * 20 + y) (by omega)
          have hbs := Hd.i (hse.o.2 x y b hltx hlty hb3'.o)
          rw [← hk] at hbs
          by_cases hxy : x = y
          · have hno : ¬ (k / d ≠ k % d ∧ ¬ SeenT d xss k k) := fun h => h.1 (by rw [hkd.o, hkm.o]; exact hxy)
            have hc1 := Hd.i (cntT_no hno)
            have hs1 := Hd.i (seenT_no hno)
            have hbe : ((x : Int) == (y : Int)) = true := by rw [hxy]; simp
            replace hxy := Hd.i hxy
            replace hk := Hd.i hk
            clear hno
            go_wp2
            refine ⟨⟨y + 1, bs, by omega, by go_num, ?_, hos, ?_, hb, hsz0⟩, by simp [intOf]; omega⟩
            · rw [hk1.o, hc1.o]
            · rw [hk1.o]; exact hse.o.iff hs1.o
          · have hbe : ((x : Int) == (y : Int)) = false := by rw [beq_eq_false_iff_ne]; omega
            have hxy2 := Hd.i (show k / d ≠ k % d by rw [hkd.o, hkm.o]; exact hxy)
            replace hxy := Hd.i hxy
            replace hk := Hd.i hk
            cases b with
            | true =>
              have hno : ¬ (k / d ≠ k % d ∧ ¬ SeenT d xss k k) := fun h => h.2 (hbs.o.1 rfl)
              have hc1 := Hd.i (cntT_no hno)
              have hs1 := Hd.i (seenT_no hno)
              clear hno
              go_wp2
              refine ⟨⟨y + 1, bs, by omega, by go_num, ?_, hos, ?_, hb, hsz0⟩, by simp [intOf]; omega⟩
              · rw [hk1.o, hc1.o]
              · rw [hk1.o]; exact hse.o.iff hs1.o
            | false =>
              have hcond := Hd.i (show k / d ≠ k % d ∧ ¬ SeenT d xss k k from ⟨hxy2.o, fun h => by have := hbs.o.2 h; cases this⟩)
              have hc1 := Hd.i (cntT_yes hcond.o)
              have hbeg := Hd.i (BfsP.begin (gens := xss) hkl.o)
              have hse1 : Hd (SeenG d (bs.set (x * 20 + y) true) (fun v => SeenT d xss k v ∨ v = (k : Int))) := hse.o.set h2 hlty (fun v => by rw [← hk.o])
              have hos4 := hos.putBool (k := x * 20 + y) true
              obtain ⟨w4, hw4⟩ : ∃ w4, w4 = wr.setCell ⟨gs, x * 20 + y, none⟩ (.bool true) := ⟨_, rfl⟩
              rw [← hw4] at hos4
              have hb4 : Below gs w2 w4 := by rw [hw4]; exact hb.setCell (p := ⟨gs, x * 20 + y, none⟩) (Nat.le_refl _) _
              have hsz4 : w2.heap.size ≤ w4.heap.size := by rw [hw4, size_store]; exact hsz
              have hsz44 := Hd.i (show w4.heap.size = wr.heap.size by rw [hw4, size_store])
              go_wp2
              rw [← hw4]
              have hoq := PQ.lit (d := d) w4 x y 61 hsz4 hlty
              rw [← hk.o] at hoq
              have hos5 := hos4.alloc (.cells #[.int .i64 (x : Int), .int .i64 (y : Int)] 61)
              have hb5 := hb4.alloc (by omega) (.cells #[.int .i64 (x : Int), .int .i64 (y : Int)] 61)
              have hsz5 : Hd (w2.heap.size ≤ (w4.alloc (.cells #[.int .i64 (x : Int), .int .i64 (y : Int)] 61)).heap.size) := by show _ ≤ _; simp; omega
              rw [hsz44.o] at hoq
              clear hw4 hos4 hb4 hos hb hb1' hb2' hsz4
              go_loopg [9] 400 (fun gk v wr => ∃ (i : Nat) (qa : Option Addr) (qn qcap : Nat) (Q : List Int) (S : Int → Prop) (bs' : List Bool), Hd (gk + i = 400) ∧ v = .slice qa qn qcap ∧ Hd (qn + i = Q.length) ∧ qn ≤ 400 ∧ (qn = 0 ∨ PQ d wr w2.heap.size qa qn qcap (Q.drop i)) ∧ Own wr gs 60 (some ⟨gs, 0, none⟩) 400 400 (bs'.map Value.bool) ∧ Hd (SeenG d bs' S) ∧ Hd (BfsP d xss k S Q i 0) ∧ Below gs w2 wr ∧ Hd (w2.heap.size ≤ wr.heap.size))
              case atStart => exact ⟨0, _, 1, 1, [(k : Int)], _, _, rfl, rfl, rfl, by omega, .inr hoq, hos5, hse1, hbeg.o, hb5, hsz5⟩
              case round =>
                clear hoq hos5 hb5 hsz5 hbeg hse1
                obtain ⟨i, qa, qn, qcap, Q, S, bs', hgk, rfl, hqn, hq400, hqi, hos, hse', hbf, hb, hsz1⟩ := hrel
                by_cases hq0 : 0 < qn
                · have hq1 : PQ d wr w2.heap.size qa qn qcap (Q.drop i) := by
                    rcases hqi with h | h
                    · omega
                    · exact h
                  clear hqi
                  obtain ⟨u, hu⟩ : ∃ u, Hd (Q[i]? = some u) := ⟨_, List.getElem?_eq_getElem (by have := hqn.o; omega)⟩
                  have hur := hbf.o.range u (List.mem_of_getElem? hu.o)
                  obtain ⟨v, rfl⟩ : ∃ v : Nat, u = v := ⟨u.toNat, by have := hur.1; omega⟩
                  have hvN : v < d * d := by have := hur.2; omega
                  replace hur := Hd.i hur
                  replace hvN := Hd.i hvN
                  obtain ⟨wo, rfl⟩ : ∃ wo, wo = wr := ⟨wr, rfl⟩
                  go_wp2
                  go_loopw [9, 52] (fun qv jv wr => ∃ (j : Nat) (qa : Option Addr) (qn qcap : Nat) (Q : List Int) (S : Int → Prop) (bs' : List Bool), j ≤ n ∧ jv = .int .i64 j ∧ qv = .slice qa qn qcap ∧ Hd (qn + i = Q.length) ∧ 0 < qn ∧ PQ d wr w2.heap.size qa qn qcap (Q.drop i) ∧ Own wr gs 60 (some ⟨gs, 0, none⟩) 400 400 (bs'.map Value.bool) ∧ Hd (SeenG d bs' S) ∧ Hd (BfsP d xss k S Q i j) ∧ Hd (Q[i]? = some (v : Int)) ∧ Below gs w2 wr ∧ Hd (w2.heap.size ≤ wr.heap.size)) (fun _ jv _ => n - (intOf jv).toNat)
                  case atStart => exact ⟨0, qa, qn, qcap, Q, S, bs', Nat.zero_le _, rfl, rfl, hqn, hq0, hq1, hos, hse', hbf, hu, hb, hsz1⟩
                  case round =>
                    clear hq1 hos hse' hbf hu hb hsz1 hqn hq0 hq400
                    obtain ⟨j, qa, qn, qcap, Q, S, bs', hj, rfl, rfl, hqn, hq0, hq1, hos, hse', hbf, hu, hb, hsz1⟩ := hrel
                    have hq400 : qn ≤ 400 := by have h := hbf.o.len; have := hqn.o; have := Nat.mul_le_mul h2 h2; omega
                    by_cases hltj : j < n
                    · obtain ⟨b, off, a1, n1, c1, p, rfl, hbb, hcell, hp, hin, _⟩ := (hm.up (hbw.trans (hb.mono hwgs))).at hltj
                      obtain ⟨g, qo, u', rfl, hgB, hgl, hcu1, hcu2, hu'⟩ := hq1.first hq0
                      obtain rfl : u' = (v : Int) := by
                        have := hu'.o
                        rw [List.getElem?_drop, Nat.add_zero, hu.o] at this
                        exact (Option.some.inj this).symm
                      clear hu'
                      have hpg := Hd.i (hgn.o p (List.mem_of_getElem? hp.o))
                      have hn1 : n1 = d := by rw [← hin.length]; exact hpg.o.2
                      obtain ⟨_, hvx, hvy⟩ := pair_nat (d := d) (v := v) hvN.o
                      obtain ⟨A, hA, eA⟩ := gens_at hgn.o (List.mem_of_getElem? hp.o) hvx
                      obtain ⟨Bb, hBb, eB⟩ := gens_at hgn.o (List.mem_of_getElem? hp.o) hvy
                      have est := stP_nat (v := v) eA eB
                      obtain ⟨vx, hvxe⟩ : ∃ x, x = v / d := ⟨_, rfl⟩
                      obtain ⟨vy, hvye⟩ : ∃ y, y = v % d := ⟨_, rfl⟩
                      rw [← hvxe] at hvx eA
                      rw [← hvye] at hvy eB
                      rw [show (v : Int) / (d : Int) = (vx : Int) by rw [hvxe]; simp] at hcu1
                      rw [show (v : Int) % (d : Int) = (vy : Int) by rw [hvye]; simp] at hcu2
                      obtain ⟨b2, off2, ya, e2, hb2, hcy, hya, _, _⟩ := hin.at (k := vx) (by omega)
                      obtain ⟨b3, off3, yb, e3, hb3, hcz, hyb, _, _⟩ := hin.at (k := vy) (by omega)
                      subst e2
                      cases e3
                      have hya' : ya = (A : Int) := by rw [← eA]; exact (at0_of (by rw [Int.toNat_natCast]; exact hya.o)).symm
                      have hyb' : yb = (Bb : Int) := by rw [← eB]; exact (at0_of (by rw [Int.toNat_natCast]; exact hyb.o)).symm
                      subst hya'
                      subst hyb'
                      have hvx1 : vx < n1 := by omega
                      have hvy1 : vy < n1 := by omega
                      have hs := hsz1.o
                      replace hn1 := Hd.i hn1
                      replace hvxe := Hd.i hvxe
                      replace hvye := Hd.i hvye
                      replace est := Hd.i est
                      replace eA := Hd.i eA
                      replace eB := Hd.i eB
                      go_wp2
                      go_region
                      obtain ⟨w5, hw5⟩ : ∃ w5, w5 = (wr.alloc (.cells #[.int .i64 (A : Int), .int .i64 (Bb : Int)] 61)).drew := ⟨_, rfl⟩
                      obtain ⟨gt, hgt⟩ : ∃ gt, gt = wr.heap.size := ⟨_, rfl⟩
                      have hbal : Below wr.heap.size wr w5 := by rw [hw5]; exact ((Below.refl _ _).alloc (Nat.le_refl _) _).trans ((Drew.refl _).one.below _)
                      have hq5 := hq1.up hbal
                      have hos5 := hos.up hbal
                      have hb5 : Below gs w2 w5 := hb.trans (hbal.mono (by omega))
                      have hs5 : w2.heap.size ≤ w5.heap.size := Nat.le_trans hs hbal.size
                      have ht0 : w5.cell? ⟨gt, 0, none⟩ = some (.int .i64 (A : Int)) := by rw [hw5, hgt]; exact World.cell?_alloc_at _ _ _ _ rfl
                      have ht1 : w5.cell? ⟨gt, 1, none⟩ = some (.int .i64 (Bb : Int)) := by rw [hw5, hgt]; exact World.cell?_alloc_at _ _ _ _ rfl
                      have hgtl : gs < gt := by omega
                      rw [← hw5, ← hgt]
                      clear hw5 hbal hq1 hos hb hs hcell hcu1 hcu2 hcy hcz hbb hgl hb2 hb3
                      replace hgt := Hd.i hgt
                      have hA20 : A < 20 := by omega
                      have hB20 : Bb < 20 := by omega
                      obtain ⟨sb, hsb1, hsb2, hsb3⟩ := hos5.bool (k := A * 20 + Bb) (by omega)
                      have hsb := Hd.i (hse'.o.2 A Bb sb hA hBb hsb3.o)
                      rw [← est.o] at hsb
                      cases sb with
                      | true =>
                        have hyes := Hd.i (hbf.o.old hu.o hp.o (hsb.o.1 rfl))
                        go_wp2
                        go_quiet (fail)
                        go_wp2
                        exact ⟨⟨j + 1, some ⟨g, qo, none⟩, qn, qcap, Q, S, bs', by omega, by go_num, rfl, hqn, hq0, hq5.drewN _, hos5.drewN _, hse', hyes.o, hu, hb5.trans (((Drew.refl _).step nq).below _), hs5⟩, by simp [intOf]; omega⟩
                      | false =>
                        have hnew := Hd.i (hbf.o.new hgn.o hu.o hp.o (fun h => by have := hsb.o.2 h; cases this))
                        rw [est.o] at hnew
                        have hse2 : Hd (SeenG d (bs'.set (A * 20 + Bb) true) (fun y => S y ∨ y = ((A * d + Bb : Nat) : Int))) := hse'.o.set h2 hBb (fun _ => Iff.rfl)
                        go_wp2
                        go_quiet (fail)
                        obtain ⟨w6, hw6⟩ : ∃ w6, w6 = w5.drewN nq := ⟨_, rfl⟩
                        have hq6 : PQ d w6 w2.heap.size (some ⟨g, qo, none⟩) qn qcap (Q.drop i) := by rw [hw6]; exact hq5.drewN _
                        have hos6 : Own w6 gs 60 (some ⟨gs, 0, none⟩) 400 400 (bs'.map Value.bool) := by rw [hw6]; exact hos5.drewN _
                        have hb6 : Below gs w2 w6 := by rw [hw6]; exact hb5.trans (((Drew.refl _).step nq).below _)
                        have hs6 : w2.heap.size ≤ w6.heap.size := by rw [hw6]; exact hs5
                        have ht06 : w6.cell? ⟨gt, 0, none⟩ = some (.int .i64 (A : Int)) := by rw [hw6]; exact ht0
                        have ht16 : w6.cell? ⟨gt, 1, none⟩ = some (.int .i64 (Bb : Int)) := by rw [hw6]; exact ht1
                        have hsb16 : w6.cell? ⟨gs, A * 20 + Bb, none⟩ = some (.bool false) := by rw [hw6]; exact hsb1
                        have hsb26 : w6.frozen? ⟨gs, A * 20 + Bb, none⟩ = false := by rw [hw6]; exact hsb2
                        rw [← hw6]
                        clear hw6 hq5 hos5 hb5 hs5 ht0 ht1 hsb1 hsb2
                        go_wp2
                        go_region
                        obtain ⟨w7, hw7⟩ : ∃ w7, w7 = (w6.setCell ⟨gs, A * 20 + Bb, none⟩ (.bool true)).drew := ⟨_, rfl⟩
                        have hgsB : gs < w2.heap.size := hgsl
                        have hq7 : PQ d w7 w2.heap.size (some ⟨g, qo, none⟩) qn qcap (Q.drop i) := by rw [hw7]; exact (hq6.store_other hgsB _ _).drewN 1
                        have hos7 : Own w7 gs 60 (some ⟨gs, 0, none⟩) 400 400 ((bs'.set (A * 20 + Bb) true).map Value.bool) := by rw [hw7]; exact (hos6.putBool (k := A * 20 + Bb) true).drewN 1
                        have hb7 : Below gs w2 w7 := by rw [hw7]; exact (hb6.setCell (p := ⟨gs, A * 20 + Bb, none⟩) (Nat.le_refl _) _).trans ((Drew.refl _).one.below _)
                        have hs7 : w2.heap.size ≤ w7.heap.size := by rw [hw7]; show _ ≤ (World.setCell _ _ _).heap.size; rw [size_store]; exact hs6
                        have hne : gt ≠ gs := by omega
                        have ht07 : w7.cell? ⟨gt, 0, none⟩ = some (.int .i64 (A : Int)) := by rw [hw7]; exact (World.cell?_of_block (a := ⟨gt, 0, none⟩) (heap_store w6 gs _ gt _ hne)).trans ht06
                        have ht17 : w7.cell? ⟨gt, 1, none⟩ = some (.int .i64 (Bb : Int)) := by rw [hw7]; exact (World.cell?_of_block (a := ⟨gt, 1, none⟩) (heap_store w6 gs _ gt _ hne)).trans ht16
                        rw [← hw7]
                        clear hw7 hq6 hos6 hb6 hs6 ht06 ht16 hsb16 hsb26
                        have hAd := Hd.i (show ((A * d + Bb : Nat) : Int) / (d : Int) = (A : Int) by
                          have : (A * d + Bb) / d = A := by rw [Nat.mul_comm, Nat.mul_add_div (by omega), Nat.div_eq_of_lt hBb]; rfl
                          exact_mod_cast this)
                        have hBd := Hd.i (show ((A * d + Bb : Nat) : Int) % (d : Int) = (Bb : Int) by
                          have : (A * d + Bb) % d = Bb := by rw [Nat.mul_comm, Nat.mul_add_mod, Nat.mod_eq_of_lt hBb]
                          exact_mod_cast this)
                        have c1' : (qn + 1) * 16 ≤ 140737488355328 := by omega
                        have c2' : qn + 1 ≤ 281474976710656 := by omega
                        have hq8 := hq7.up ((Below.refl _ _).alloc (Nat.le_refl _) (.cells #[.int .i64 (A : Int), .int .i64 (Bb : Int)] 61))
                        have hos8 := hos7.alloc (.cells #[.int .i64 (A : Int), .int .i64 (Bb : Int)] 61)
                        have hb8 := hb7.alloc (by omega) (.cells #[.int .i64 (A : Int), .int .i64 (Bb : Int)] 61)
                        have hs8 : w2.heap.size ≤ (w7.alloc (.cells #[.int .i64 (A : Int), .int .i64 (Bb : Int)] 61)).heap.size := by simp; omega
                        have hl0 : (w7.alloc (.cells #[.int .i64 (A : Int), .int .i64 (Bb : Int)] 61)).cell? ⟨w7.heap.size, 0, none⟩ = some (.int .i64 (((A * d + Bb : Nat) : Int) / (d : Int))) := by rw [hAd.o]; exact World.cell?_alloc_at _ _ _ _ rfl
                        have hl1 : (w7.alloc (.cells #[.int .i64 (A : Int), .int .i64 (Bb : Int)] 61)).cell? ⟨w7.heap.size, 1, none⟩ = some (.int .i64 (((A * d + Bb : Nat) : Int) % (d : Int))) := by rw [hBd.o]; exact World.cell?_alloc_at _ _ _ _ rfl
                        replace hl0 := Hd.i hl0
                        replace hl1 := Hd.i hl1
                        replace hs8 := Hd.i hs8
                        clear hq7 hos7 hb7 hs7
                        go_wp2_with (first | (at_builtin; go_loud (refine appendP_c rfl _ _ _ rfl w2.heap.size 61 (.agg #[.int .i64 0, .int .i64 0]) 16 Try.underlying62 infoPair rfl _ _ _ _ rfl hq8 w7.heap.size ((A * d + Bb : Nat) : Int) rfl hl0.o hl1.o c1' c2' hs8.o ?_; intro a9 n9 cap9 w9 hn9 hq9 hg9)))
                        have hap : Apart (some (⟨gs, 0, none⟩ : Addr)) (some ⟨g, qo, none⟩) := by
                          intro b o s o' s' e1 e2
                          cases e1
                          cases e2
                          omega
                        have hil := (List.getElem?_eq_some_iff.1 hu.o).1
                        refine ⟨⟨j + 1, a9, n9, cap9, Q ++ [((A * d + Bb : Nat) : Int)], _, bs'.set (A * 20 + Bb) true, by omega, by go_num, rfl, ?_, by have := hn9.o; omega, ?_, hg9.own hos8 hap, hse2, hnew, ?_, hb8.trans (hg9.below (Nat.le_trans (by omega) hs8.o) (fun b o s e => by cases e; omega)), Nat.le_trans hs8.o hg9.size⟩, by simp [intOf]; omega⟩
                        · show _ = _
                          rw [List.length_append, List.length_singleton]
                          have := hqn.o; have := hn9.o; omega
                        · rw [List.drop_append_of_le_length (by omega), hn9.o]
                          rw [hn9.o] at hq9
                          exact hq9
                        · show _ = _
                          rw [List.getElem?_append_left hil]
                          exact hu.o
                    · obtain rfl : j = n := by omega
                      rw [← hln.o] at hbf
                      have hnext := Hd.i (hbf.o.next hu.o)
                      have hil := Hd.i (List.getElem?_eq_some_iff.1 hu.o).1
                      have hdr := Hd.i (show Q.drop i = (v : Int) :: Q.drop (i + 1) from drop_some hu.o)
                      obtain ⟨g, qo, rfl, hqa⟩ := id hq1
                      have hqc := hq1.le
                      have hQ := Hd.i (show Q.length ≤ 400 from Nat.le_trans hbf.o.len (Nat.mul_le_mul h2 h2))
                      have hgB := hqa.ge
                      clear hqa
                      by_cases hcap : qcap = 1
                      · subst hcap
                        have hq2 : qn = 1 := by omega
                        subst hq2
                        go_wp2
                        go_roundg (gk - 1)
                        case measure => have := hgk.o; have := hqn.o; have := hQ.o; omega
                        case rel => exact ⟨i + 1, _, 0, 0, Q, S, bs', by have := hgk.o; have := hqn.o; have := hQ.o; show _ = _; omega, rfl, by have := hqn.o; show _ = _; omega, by omega, .inl rfl, hos, hse', hnext.o, hb, hsz1⟩
                      · rw [hdr.o] at hq1
                        have hpop := hq1.pop
                        clear hq1
                        go_wp2
                        go_roundg (gk - 1)
                        case measure => have := hgk.o; have := hqn.o; have := hQ.o; omega
                        case rel => exact ⟨i + 1, _, qn - 1, qcap - 1, Q, S, bs', by have := hgk.o; have := hqn.o; have := hQ.o; show _ = _; omega, rfl, by have := hqn.o; show _ = _; omega, by omega, .inr hpop, hos, hse', hnext.o, hb, hsz1⟩
                · have hq00 : qn = 0 := by omega
                  subst hq00
                  have hil : i = Q.length := by have := hqn.o; omega
                  subst hil
                  have hfull := Hd.i (hbf.o.full hcond.o)
                  have hse3 := Hd.i (hse'.o.iff (fun y => (hfull.o y).symm))
                  go_wp2
                  refine ⟨⟨y + 1, bs', by omega, by go_num, ?_, hos, ?_, hb, hsz1⟩, by simp [intOf]; omega⟩
                  · rw [hk1.o, hc1.o]
                    first | go_num | (congr 1; omega)
                  · rw [hk1.o]; exact hse3.o
        · obtain rfl : y = d := by omega
          go_wp2
          refine ⟨⟨x + 1, bs, by omega, by go_num, ?_, hos, ?_, hb, hsz0⟩, by simp [intOf]; omega⟩
          · rw [Nat.add_mul, Nat.one_mul]
          · rw [Nat.add_mul, Nat.one_mul]; exact hse
    · obtain rfl : x = d := by omega
      go_wp2
      have hf := H'.o _ (hbw.trans (hb.mono hwgs))
      rw [hval.o] at hf
      exact hf
end Go.Proofs.Ytiekjklhojmnoaa
