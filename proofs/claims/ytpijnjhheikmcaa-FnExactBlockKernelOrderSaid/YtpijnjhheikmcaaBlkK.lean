/- BlockAction; the tops of IsBlockSystem and BlockAction. -/
import Derived.Test.YtpijnjhheikmcaaBlkJ
import Derived.Test.YtpijnjhheikmcaaRegA
namespace Go.Proofs.Ytpijnjhheikmcaa
open Go.RowKit

set_option maxRecDepth 100000 in
set_option maxHeartbeats 4000000 in
theorem specBlkAct_c {R : Ending → World → Prop} (z : Int) (a : Option Addr) (n cap : Nat) (xss : List (List Int)) (b : Option Addr) (m capb : Nat) (bs : List (List Int)) (w : World) (hm : Mat w a n xss) (hmb : Mat w b m bs)
    (H : MakesRB R w (pBlkAct z xss bs) (sysB z xss bs)) : Calls Try.prog 78 #[.int .i64 z, .slice a n cap, .slice b m capb] w R := by
  have H' := Hd.i H; clear H
  have hb0 := (Below.refl w.heap.size w).alloc (Nat.le_refl _) (.cells #[] 23)
  have ho0 := OwnH.emptyLit w (B := w.heap.size) (Nat.le_refl _)
  by_cases hS : BlockSys z xss bs
  · have hsb := Hd.i (sysB_true hS)
    have hH : Hd (MakesRB R w (xss.map (act bs)) true) := by
      have e : pBlkAct z xss bs = xss.map (act bs) := by simp [pBlkAct, hS]
      show MakesRB R w (xss.map (act bs)) true
      rw [← e, ← hsb.o]; exact H'.o
    obtain ⟨hg, hP0, _⟩ := hS
    obtain ⟨d, rfl⟩ := genD hg
    have hP : Hd (Part d bs) := by rwa [Int.toNat_natCast] at hP0
    clear hP0
    have h2 : d ≤ 20 := by have := hg.2.1; omega
    have hn8 : n ≤ 8 := by have := hg.2.2.1; have := hm.length; omega
    have hln := Hd.i hm.length
    have hlm := Hd.i hmb.length
    have hm20 : m ≤ 20 := by have := hP.o.le; have := hlm.o; omega
    have hgs := Hd.i (gsB hg)
    replace hg := Hd.i hg
    go_enter Try.func78, Try.ntmps78
    go_wp2_with fail
    refine specSys_c (d : Int) _ _ _ xss _ _ _ bs _ (hm.up hb0) (hmb.up hb0) ?_
    intro w1 hb1
    rw [hsb.o]
    have hb01 := below_ups hb0 hb1 hb0.size
    have ho1 := ho0.up hb1
    go_wp2_with fail
    refine specIndexes_c d _ _ _ bs _ h2 (hmb.up hb01) hP ?_
    intro a3 n3 c3 w3 hb3 ho3
    have hb03 := below_ups hb01 hb3 hb01.size
    have hoS := ho1.up hb3
    have hap3 : Hd (Apart a3 (some (⟨w.heap.size, 0, none⟩ : Addr))) := fun b1 o1 s1 o2 s2 e1 e2 => by
      have h1 := (ho3.1.lt e1).1
      have h2 := hb1.size
      cases e2
      simp at h2
      omega
    clear ho0 ho1 hb0 hb1 hb3
    go_wp2
    go_loopw [8, 10] (fun v iv wr => ∃ (i : Nat) (c : Option Addr) (mm capc : Nat) (hs : List Hdr), i ≤ n ∧ iv = .int .i64 i ∧ v = .slice c mm capc ∧ OwnH wr w.heap.size c mm capc hs ((xss.take i).map (act bs)) ∧ Below w.heap.size w wr ∧ OwnI wr w.heap.size a3 n3 c3 (cls d bs) ∧ Hd (Apart a3 c)) (fun _ iv _ => n - (intOf iv).toNat)
    case atStart => exact ⟨0, _, 0, 0, [], Nat.zero_le _, rfl, rfl, by simpa using hoS, hb03, ho3.mono hb01.size, hap3⟩
    case round =>
      clear hoS hb03 ho3 hap3 hb01
      obtain ⟨i, c, mm, capc, hs, hi, rfl, rfl, ho, hb, hoX, hap⟩ := hrel
      have hm3 := hm.up hb
      have hmb3 := hmb.up hb
      have hcI3 := hoX.ints
      by_cases hlt : i < n
      · obtain ⟨bG, offG, a5, n5, c5, g, rfl, hbb, hcellG, hy, hgI, hc5⟩ := hm3.at hlt
        have hgp := Hd.i (hgs.o g (List.mem_of_getElem? hy.o))
        obtain ⟨wo, rfl⟩ : ∃ wo, wo = wr := ⟨wr, rfl⟩
        have hpo := OwnI.emptyLit wo (B := wo.heap.size) (Nat.le_refl _)
        have hpb := (Below.refl wo.heap.size wo).alloc (Nat.le_refl _) (.cells #[] 2)
        go_wp2
        go_loopw [11, 12] (fun v kv wr => ∃ (k : Nat) (cp : Option Addr) (mp capp : Nat), k ≤ m ∧ kv = .int .i64 k ∧ v = .slice cp mp capp ∧ OwnI wr wo.heap.size cp mp capp ((act bs g).take k) ∧ Below wo.heap.size wo wr) (fun _ kv _ => m - (intOf kv).toNat)
        case atStart => exact ⟨0, _, 0, 0, Nat.zero_le _, rfl, rfl, by simpa using hpo, hpb⟩
        case round =>
          clear hpo hpb
          obtain ⟨k, cp, mp, capp, hk, rfl, rfl, hpo, hpb⟩ := hrel
          have hmp : mp ≤ 20 := by have := hpo.length; rw [List.length_take, act_length] at this; have := hlm.o; omega
          by_cases hltk : k < m
          · obtain ⟨bB, offB, a6, n6, c6, blk, rfl, hbb2, hcellB, hyB, hBI, hc6⟩ := hmb3.at hltk
            have hps := hP.o.set blk (List.mem_of_getElem? hyB.o)
            have hne := hP.o.ne blk (List.mem_of_getElem? hyB.o)
            have hl6 := hBI.length
            have hn6 : 0 < n6 := by have := List.length_pos_iff.2 hne; omega
            obtain ⟨bh, offh, x0, rfl, _, hch0, hx0, hx01, hx02⟩ := hBI.at hn6
            have hx0r := hps.2 x0 (List.mem_of_getElem? hx0.o)
            have hx0e := Hd.i (show at0 blk 0 = x0 from at0_of (by simpa using hx0.o))
            obtain ⟨bg, offg, bc, offc, y0, rfl, rfl, hg0, hc0, hy0, hy01, hy02, hnn, hixl⟩ := look3 hP.o hgp.o hgI hcI3 hx0r
            have p3 : x0 < (n5 : Int) := by have := hnn.o.1; omega
            have p4 : y0 < (n3 : Int) := by have := hnn.o.2; omega
            obtain ⟨u, hu⟩ : ∃ u, ixB bs (at0 g x0) = u := ⟨_, rfl⟩
            rw [hu] at hc0
            have hul : u ≤ 20 := by have := hixl.o; rw [hu] at this; have := hlm.o; omega
            have hch : wo.cell? ⟨bh, offh, none⟩ = some (.int .i64 x0) := by simpa using hch0
            have f1 := keep1 hcellG hpb
            have f2 := keep1 hcellB hpb
            have f3 := keep1 hch hpb
            have f4 := keep1 hg0 hpb
            have f5 := keep1 hc0 hpb
            have hge := Hd.i hpo.ge
            have k1 : (mp + 1) * 8 ≤ 140737488355328 := by omega
            have k2 : mp + 1 ≤ 281474976710656 := by omega
            have hs0 := hpb.size
            obtain ⟨p1, p2⟩ := hx0r
            have HD := (Drew.refl wr).one.below wr.heap.size
            have hg0' := Hd.i hg0
            have hc0' := Hd.i hc0
            have hcG' := Hd.i hcellG
            have hcB' := Hd.i hcellB
            have hch' := Hd.i hch
            replace hu := Hd.i hu
            replace hps := Hd.i hps
            replace hne := Hd.i hne
            replace hl6 := Hd.i hl6
            clear hch0 hg0 hc0 hcellG hcellB hch
            go_wp2
            go_region_held3 (fun w' => w'.cell? ⟨bG, offG + i, none⟩ = some (.slice (some ⟨bg, offg, none⟩) n5 c5) ∧ w'.cell? ⟨bB, offB + k, none⟩ = some (.slice (some ⟨bh, offh, none⟩) n6 c6) ∧ w'.cell? ⟨bh, offh, none⟩ = some (.int .i64 x0) ∧ w'.cell? ⟨bg, offg + x0.toNat, none⟩ = some (.int .i64 y0) ∧ w'.cell? ⟨bc, offc + y0.toNat, none⟩ = some (.int .i64 (u : Nat)))
              (first | exact ⟨f1, f2, f3, f4, f5⟩ | exact keep5 f1 f2 f3 f4 f5 (HD.alloc HD.size _) | exact far5 hg2 hge.o hcG'.o hcB'.o hch'.o hg0'.o hc0'.o (keep5 f1 f2 f3 f4 f5 (HD.alloc HD.size _)))
              ((refine step_appendL (by rfl) _ _ _ (by rfl) wo.heap.size 2 (.int .i64 0) 8 Try.underlying23 infoInt (by rfl) cp mp capp (((act bs g).take k).map (Value.int .i64)) (by rfl) (hpo.1.up (HD.alloc HD.size _)) _ 1 1 [.int .i64 (u : Nat)] (by rfl) (Vals.lit wr.drew [.int .i64 (u : Nat)] _ (by simp)) oneInt k1 k2 (Nat.le_trans hs0 (HD.alloc HD.size _).size) ?_; intro a2 n2 cap2 w2 hn2 ho2 hg2 ha2))
            go_wp2
            refine ⟨⟨k + 1, a2, n2, cap2, by omega, by go_num, rfl, ?_, hpo.grewBelow hg2.after_alloc.after_drewR hpb hs0⟩, by simp [intOf]; omega⟩
            rw [act_take_succ hyB.o, hx0e.o, hu.o]
            exact OwnI.snoc ho2 hpo.2 (by omega) (by omega)
          · obtain rfl : k = m := by omega
            rw [List.take_of_length_le (by rw [act_length]; have := hlm.o; omega)] at hpo
            have hmk : mm ≤ i := by have := ho.length; rw [List.length_map, List.length_take] at this; omega
            have k1 : (mm + 1) * 24 ≤ 140737488355328 := by omega
            have k2 : mm + 1 ≤ 281474976710656 := by omega
            have hs0 := hb.size
            have hs1 := Nat.le_trans hs0 hpb.size
            have hown := ho.1.up hpb
            have hbw := below_ups hb hpb hs0
            go_wp2_with (at_builtin; refine appendL_c rfl _ _ _ rfl w.heap.size 23 (.slice none 0 0) 24 Try.underlying22 infoSl rfl _ _ _ _ rfl hown [.slice cp mp capp] 1 rfl rfl oneSlice k1 k2 hs1 ?_; intro a2 n2 cap2 w2 hn2 ho2 hg2 ha2)
            have hbN := ho.grewBelow hg2 hbw hs1
            refine ⟨⟨i + 1, a2, n2, cap2, hs ++ [(cp, mp, capp)], by omega, by go_num, rfl, ?_, hbN, hg2.ownI (hoX.up hpb) hap.o, Apart.grown hap.o (hoX.up hpb).abelow ha2.o⟩, by simp [intOf]; omega⟩
            rw [take_succ_some hy.o, List.map_append]
            exact ho.snoc hpb hpo hs0 hg2 ho2 ha2.o
      · obtain rfl : i = n := by omega
        rw [List.take_of_length_le (by have := hln.o; omega)] at ho
        go_wp2
        exact hH.o _ _ _ _ _ hb ho
  · have hsb := Hd.i (sysB_false hS)
    have hH : Hd (MakesRB R w [] false) := by
      have e : pBlkAct z xss bs = [] := by simp [pBlkAct, hS]
      show MakesRB R w [] false
      rw [← e, ← hsb.o]; exact H'.o
    replace hS := Hd.i hS
    go_enter Try.func78, Try.ntmps78
    go_wp2_with fail
    refine specSys_c z _ _ _ xss _ _ _ bs _ (hm.up hb0) (hmb.up hb0) ?_
    intro w1 hb1
    rw [hsb.o]
    go_wp2
    exact hH.o _ _ _ _ _ (below_ups hb0 hb1 hb0.size) (ho0.up hb1)

theorem sys_act {d : Nat} {xss bs : List (List Int)} (hg : GenSet (d : Int) xss) (hP : Part d bs) (h : ∀ g ∈ xss, Resp bs g ∧ IsPerm (act bs g)) : BlockSys (d : Int) xss bs :=
  ⟨hg, by rw [Int.toNat_natCast]; exact hP, fun g hgm => ⟨(h g hgm).1, (hP.resp_iff (by have := hg.1; omega) (by have := hg.2.1; omega) (gsB hg g hgm) (h g hgm).1).2 (h g hgm).2⟩⟩
def ActTo (bs xss : List (List Int)) (i : Nat) : Prop := ∀ (j : Nat) (g : List Int), j < i → xss[j]? = some g → Resp bs g ∧ IsPerm (act bs g)
theorem ActTo.step {bs xss : List (List Int)} {i : Nat} {g : List Int} (h : ActTo bs xss i) (hg : xss[i]? = some g) (hr : Resp bs g) (hi : IsPerm (act bs g)) : ActTo bs xss (i + 1) := fun j x hj e => by
  by_cases hji : j = i
  · subst hji; rw [hg] at e; cases e; exact ⟨hr, hi⟩
  · exact h j x (by omega) e
theorem ActTo.all {bs xss : List (List Int)} (h : ActTo bs xss xss.length) : ∀ g ∈ xss, Resp bs g ∧ IsPerm (act bs g) := fun g hg => by
  obtain ⟨j, hj, e⟩ := List.mem_iff_getElem.1 hg
  exact h j g hj (by rw [List.getElem?_eq_getElem hj, e])

set_option maxRecDepth 100000 in
set_option maxHeartbeats 4000000 in
theorem implBlkAct_c {R : Ending → World → Prop} (z : Int) (a : Option Addr) (n cap : Nat) (xss : List (List Int)) (b : Option Addr) (m capb : Nat) (bs : List (List Int)) (w : World) (hm : Mat w a n xss) (hmb : Mat w b m bs)
    (H : MakesRB R w (pBlkAct z xss bs) (sysB z xss bs)) : Calls Try.prog 79 #[.int .i64 z, .slice a n cap, .slice b m capb] w R := by
  have H' := Hd.i H; clear H
  have hno : Hd (¬ BlockSys z xss bs → MakesRB R w [] false) := fun hS => by
    have e : pBlkAct z xss bs = [] := by simp [pBlkAct, hS]
    rw [← e, ← sysB_false hS]; exact H'.o
  have hyes : Hd (BlockSys z xss bs → MakesRB R w (xss.map (act bs)) true) := fun hS => by
    have e : pBlkAct z xss bs = xss.map (act bs) := by simp [pBlkAct, hS]
    rw [← e, ← sysB_true hS]; exact H'.o
  clear H'
  by_cases hg : GenSet z xss
  · have hdec := Hd.i (decide_eq_true hg)
    obtain ⟨d, rfl⟩ := genD hg
    have h1 : 1 ≤ d := by have := hg.1; omega
    have h2 : d ≤ 20 := by have := hg.2.1; omega
    have hn8 : n ≤ 8 := by have := hg.2.2.1; have := hm.length; omega
    have hln := Hd.i hm.length
    have hgs := Hd.i (gsB hg)
    by_cases hP : Part d bs
    · have hsy : Hd ((∀ g ∈ xss, Resp bs g ∧ IsPerm (act bs g)) → BlockSys (d : Int) xss bs) := sys_act hg hP
      have hsn : Hd (BlockSys (d : Int) xss bs → ∀ g ∈ xss, Resp bs g ∧ IsPerm (act bs g)) := fun h g hgm => ⟨(h.2.2 g hgm).1, (hP.resp_iff h1 h2 (hgs.o g hgm) (h.2.2 g hgm).1).1 (h.2.2 g hgm).2⟩
      replace hP := Hd.i hP
      replace hg := Hd.i hg
      go_enter Try.func79, Try.ntmps79
      go_wp2_with fail
      refine implGenSet_c (d : Int) _ _ _ xss _ hm ?_
      intro w1 hb1
      rw [hdec.o]
      go_wp2_with fail
      refine implClass_c d _ _ _ bs _ h1 h2 (hmb.up hb1) (fun _ => ?_) (fun hn => absurd hP.o hn)
      intro a3 n3 c3 w3 hb3 ho3
      have hb13 := below_ups hb1 hb3 hb1.size
      go_wp2
      go_loopw [10, 29] (fun v iv wr => ∃ (i : Nat) (c : Option Addr) (mm capc : Nat) (hs : List Hdr), i ≤ n ∧ iv = .int .i64 i ∧ v = .slice c mm capc ∧ OwnH wr w3.heap.size c mm capc hs ((xss.take i).map (act bs)) ∧ Below w3.heap.size w3 wr ∧ Hd (ActTo bs xss i)) (fun _ iv _ => n - (intOf iv).toNat)
      case atStart => exact ⟨0, none, 0, 0, [], Nat.zero_le _, rfl, rfl, by simpa using OwnH.nil w3 w3.heap.size, Below.refl _ _, fun j g hj => by omega⟩
      case round =>
        obtain ⟨i, c, mm, capc, hs, hi, rfl, rfl, ho, hb, hto⟩ := hrel
        by_cases hlt : i < n
        · obtain ⟨bG, offG, a5, n5, c5, g, rfl, hbb, hcellG, hy, hgI, hc5⟩ := ((hm.up hb13).up hb).at hlt
          have hgp := Hd.i (hgs.o g (List.mem_of_getElem? hy.o))
          have hmk : mm ≤ i := by have := ho.length; rw [List.length_map, List.length_take] at this; omega
          have k1 : (mm + 1) * 24 ≤ 140737488355328 := by omega
          have k2 : mm + 1 ≤ 281474976710656 := by omega
          have hs0 := hb.size
          by_cases hr : Resp bs g
          · by_cases hp : IsPerm (act bs g)
            · have hpd := Hd.i (decide_eq_true hp)
              have hto2 := Hd.i (hto.o.step hy.o hr hp)
              replace hr := Hd.i hr
              replace hp := Hd.i hp
              go_wp2_with fail
              refine implAction_c d _ _ _ g _ _ _ bs _ _ _ _ hP h2 hgp hgI ((hmb.up hb13).up hb) (ho3.ints.up hb) (fun _ => ?_) (fun hn => absurd hr.o hn)
              intro a6 n6 c6 w6 hb6 ho6
              rw [hpd.o]
              have hs1 := Nat.le_trans hs0 hb6.size
              have hown := ho.1.up hb6
              have hbw := below_ups hb hb6 hs0
              go_wp2_with (at_builtin; refine appendL_c rfl _ _ _ rfl w3.heap.size 23 (.slice none 0 0) 24 Try.underlying22 infoSl rfl _ _ _ _ rfl hown [.slice a6 n6 c6] 1 rfl rfl oneSlice k1 k2 hs1 ?_; intro a2 n2 cap2 w2 hn2 ho2 hg2 ha2)
              refine ⟨⟨i + 1, a2, n2, cap2, hs ++ [(a6, n6, c6)], by omega, by go_num, rfl, ?_, ho.grewBelow hg2 hbw hs1, hto2.o⟩, by simp [intOf]; omega⟩
              rw [take_succ_some hy.o, List.map_append]
              exact ho.snoc hb6 ho6 hs0 hg2 ho2 ha2.o
            · have hpd := Hd.i (decide_eq_false hp)
              have hf := Hd.i (hno.o fun hS => hp (hsn.o hS g (List.mem_of_getElem? hy.o)).2)
              replace hr := Hd.i hr
              replace hp := Hd.i hp
              go_wp2_with fail
              refine implAction_c d _ _ _ g _ _ _ bs _ _ _ _ hP h2 hgp hgI ((hmb.up hb13).up hb) (ho3.ints.up hb) (fun _ => ?_) (fun hn => absurd hr.o hn)
              intro a6 n6 c6 w6 hb6 ho6
              rw [hpd.o]
              go_wp2
              exact hf.o _ _ _ _ _ (below_ups hb13 (below_ups hb hb6 hs0) hb13.size) (OwnH.nil _ _)
          · have hf := Hd.i (hno.o fun hS => hr (hsn.o hS g (List.mem_of_getElem? hy.o)).1)
            replace hr := Hd.i hr
            go_wp2_with fail
            refine implAction_c d _ _ _ g _ _ _ bs _ _ _ _ hP h2 hgp hgI ((hmb.up hb13).up hb) (ho3.ints.up hb) (fun hn => absurd hn hr.o) (fun _ => ?_)
            intro a6 n6 c6 w6 hb6
            go_wp2
            exact hf.o _ _ _ _ _ (below_ups hb13 (below_ups hb hb6 hs0) hb13.size) (OwnH.nil _ _)
        · obtain rfl : i = n := by omega
          have hy := Hd.i (hyes.o (hsy.o (by have := hto.o; rw [← hln.o] at this; exact this.all)))
          rw [List.take_of_length_le (by have := hln.o; omega)] at ho
          go_wp2
          exact hy.o _ _ _ _ _ (below_ups hb13 hb hb13.size) (ho.mono hb13.size)
    · have hf := Hd.i (hno.o fun hS => hP (by have := hS.2.1; rwa [Int.toNat_natCast] at this))
      replace hP := Hd.i hP
      replace hg := Hd.i hg
      go_enter Try.func79, Try.ntmps79
      go_wp2_with fail
      refine implGenSet_c (d : Int) _ _ _ xss _ hm ?_
      intro w1 hb1
      rw [hdec.o]
      go_wp2_with fail
      refine implClass_c d _ _ _ bs _ h1 h2 (hmb.up hb1) (fun hn => absurd hn hP.o) (fun _ => ?_)
      intro a3 n3 c3 w3 hb3
      go_wp2
      exact hf.o _ _ _ _ _ (below_ups hb1 hb3 hb1.size) (OwnH.nil _ _)
  · have hdec := Hd.i (decide_eq_false hg)
    have hf := Hd.i (hno.o fun hS => hg hS.1)
    replace hg := Hd.i hg
    go_enter Try.func79, Try.ntmps79
    go_wp2_with fail
    refine implGenSet_c z _ _ _ xss _ hm ?_
    intro w1 hb1
    rw [hdec.o]
    go_wp2
    exact hf.o _ _ _ _ _ hb1 (OwnH.nil _ _)

theorem topSpecBlockAction {R : Ending → World → Prop} {B B' : Nat} (z : Int) (a : Option Addr) (n cap : Nat) (hs : List Hdr) (xss : List (List Int)) (b : Option Addr) (m capb : Nat) (hs' : List Hdr) (bs : List (List Int)) (w : World) (_ : -9223372036854775808 ≤ z ∧ z ≤ 9223372036854775807) (hx : OwnH w B a n cap hs xss) (hy : OwnH w B' b m capb hs' bs)
    (H : MakesRB R w (pBlkAct z xss bs) (sysB z xss bs)) : Calls Try.prog 78 #[.int .i64 z, .slice a n cap, .slice b m capb] w R := specBlkAct_c z a n cap xss b m capb bs w hx.rows hy.rows H
theorem topImplBlockAction {R : Ending → World → Prop} {B B' : Nat} (z : Int) (a : Option Addr) (n cap : Nat) (hs : List Hdr) (xss : List (List Int)) (b : Option Addr) (m capb : Nat) (hs' : List Hdr) (bs : List (List Int)) (w : World) (_ : -9223372036854775808 ≤ z ∧ z ≤ 9223372036854775807) (hx : OwnH w B a n cap hs xss) (hy : OwnH w B' b m capb hs' bs)
    (H : MakesRB R w (pBlkAct z xss bs) (sysB z xss bs)) : Calls Try.prog 79 #[.int .i64 z, .slice a n cap, .slice b m capb] w R := implBlkAct_c z a n cap xss b m capb bs w hx.rows hy.rows H
theorem topSpecIsBlockSystem {R : Ending → World → Prop} {B B' : Nat} (z : Int) (a : Option Addr) (n cap : Nat) (hs : List Hdr) (xss : List (List Int)) (b : Option Addr) (m capb : Nat) (hs' : List Hdr) (bs : List (List Int)) (w : World) (_ : -9223372036854775808 ≤ z ∧ z ≤ 9223372036854775807) (hx : OwnH w B a n cap hs xss) (hy : OwnH w B' b m capb hs' bs)
    (H : Gives R w (.bool (sysB z xss bs))) : Calls Try.prog 93 #[.int .i64 z, .slice a n cap, .slice b m capb] w R := specSys_c z a n cap xss b m capb bs w hx.rows hy.rows H
end Go.Proofs.Ytpijnjhheikmcaa
