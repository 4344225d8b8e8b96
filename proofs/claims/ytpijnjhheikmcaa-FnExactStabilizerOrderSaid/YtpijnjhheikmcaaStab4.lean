/- StabilizerOrder: the reference. -/
import Derived.Test.YtpijnjhheikmcaaStab3
import Derived.Test.YtpijnjhheikmcaaPut
namespace Go.Proofs.Ytpijnjhheikmcaa
open Go.RowKit

theorem pStab_false {z : Int} {xss : List (List Int)} {ps : List Int} (h : ¬ (GenSet z xss ∧ PtSet z.toNat ps)) : pStab z xss ps = 0 := by unfold pStab; rw [if_neg h]

set_option maxRecDepth 100000 in
set_option maxHeartbeats 4000000 in
theorem topSpecStabilizerOrder {R : Ending → World → Prop} {B B' : Nat} (z : Int) (a : Option Addr) (n cap : Nat) (hs : List Hdr) (xss : List (List Int)) (a' : Option Addr) (n' cap' : Nat) (ps : List Int) (w : World) (_ : -9223372036854775808 ≤ z ∧ z ≤ 9223372036854775807) (hx : OwnH w B a n cap hs xss) (hp : OwnI w B' a' n' cap' ps)
    (H : Gives R w (.int .i64 (pStab z xss ps))) : Calls Try.prog 41 #[.int .i64 z, .slice a n cap, .slice a' n' cap'] w R := by
  have H' := Hd.i H; clear H
  have hm := hx.rows
  have hpi := hp.ints
  have hln := Hd.i hm.length
  have hlp := Hd.i hpi.length
  clear hx hp
  by_cases hg : GenSet z xss
  · have hdec := Hd.i (decide_eq_true hg)
    obtain ⟨d, rfl⟩ := genSet_d hg
    have h1 : 1 ≤ d := by have := hg.1; omega
    have h2 : d ≤ 20 := by have := hg.2.1; omega
    by_cases hps : PtSet d ps
    · have hpt := Hd.i (ptB_true hps)
      have e := Hd.i (show pStab (d : Int) xss ps = (ordF (osz d (ren d xss ps)) ps.length d : Nat) by simp [pStab, hg, hps])
      have hn8 : n ≤ 8 := by have := hg.2.2.1; have := hln.o; omega
      have hn20 : n' ≤ 20 := by have := hps.length_le; have := hlp.o; omega
      have hgs := Hd.i (gs_of hg)
      have hfp := Hd.i (front_pm h1 h2 hps)
      have hnm := Hd.i (front_pm h1 h2 hps).inv
      have hgr := Hd.i (genSet_ren hg hps)
      replace hg := Hd.i hg
      replace hps := Hd.i hps
      go_enter Try.func41, Try.ntmps41
      go_wp2_with fail
      refine specGenSet_c (d : Int) _ _ _ xss _ hm ?_
      intro w1 hd1
      rw [hdec.o]
      have hb1 := hd1.below w.heap.size
      go_wp2_with fail
      refine specPtSet_c d _ _ _ ps _ h1 h2 (hpi.up hb1) ?_
      intro w2 hd2
      rw [hpt.o]
      have hb2 := below_ups hb1 (hd2.below _) hb1.size
      go_wp2_with fail
      refine specFront_c d _ _ _ ps _ h2 hn20 (hpi.up hb2) ?_
      intro a3 n3 c3 w3 hb3 ho3
      have hb13 := below_ups hb2 hb3 hb2.size
      go_wp2_with fail
      refine specInverse_c _ _ _ (front d ps) _ ho3.ints hfp.o.1 ?_
      intro a4 n4 c4 w4 hb4 ho4
      have hb14 := below_ups hb13 hb4 hb13.size
      go_wp2
      go_loopw [8, 9] (fun v i wr => ∃ (k : Nat) (c : Option Addr) (m capc : Nat) (hs : List Hdr), k ≤ n ∧ i = .int .i64 k ∧ v = .slice c m capc ∧ OwnH wr w4.heap.size c m capc hs (ren d (xss.take k) ps) ∧ Below w4.heap.size w4 wr) (fun _ i _ => n - (intOf i).toNat)
      case atStart => exact ⟨0, _, 0, 0, [], Nat.zero_le _, rfl, rfl, OwnH.emptyLit w4 (Nat.le_refl _), (Below.refl _ _).alloc (Nat.le_refl _) _⟩
      case round =>
        obtain ⟨k, c, m, capc, hs, hk, rfl, rfl, ho, hb⟩ := hrel
        by_cases hlt : k < n
        · obtain ⟨b, off, a5, n5, c5, g, rfl, hbb, hcell4, hy, hgI4, hgc⟩ := (hm.up hb14).at hlt
          have hcell := keep1 hcell4 hb
          have hgI := hgI4.up hb
          have hqI := ho4.ints.up hb
          have hgp := hgs.o g (List.mem_of_getElem? hy.o)
          have hpm := hnm.o
          have hn5 : n5 = d := by rw [← hgI.length]; exact hgp.2
          have hn4 : n4 = d := by rw [← hqI.length]; exact hpm.2
          have hr1 : Hd (∀ x ∈ inv (inv (front d ps)), 0 ≤ x ∧ x < n5) := fun x hx => by have := hpm.inv.1.range x hx; rw [hpm.inv.2] at this; rw [hn5]; exact this
          have hr2 : Hd (∀ x ∈ comp (inv (inv (front d ps))) g, 0 ≤ x ∧ x < n4) := fun x hx => by have := (hpm.inv.comp hgp).1.range x hx; rw [(hpm.inv.comp hgp).2] at this; rw [hn4]; exact this
          have hl1 := Hd.i hpm.2
          have hperm := hpm.1
          have hmk : m ≤ k := by have := ho.length; unfold ren at this; rw [List.length_map, List.length_take] at this; omega
          have k1 : (m + 1) * 24 ≤ 140737488355328 := by omega
          have k2 : m + 1 ≤ 281474976710656 := by omega
          have hs0 := hb.size
          have hfar := Hd.i (show ¬ fpI c b from fun ⟨_, _, e⟩ => by have := (ho.1.lt e).1; omega)
          replace hn5 := Hd.i hn5
          replace hn4 := Hd.i hn4
          replace hgp := Hd.i hgp
          replace hpm := Hd.i hpm
          go_wp2
          go_region_held3 (fun w' => w'.cell? ⟨b, off + k, none⟩ = some (.slice a5 n5 c5))
            (first | exact hcell | assumption | exact keep1 hcell HI | exact keep1 hcell HA | exact keep1 hcell HC | exact keep1 hcell (HC.alloc HC.size _) | exact hg2.cell_far (keep1 hcell (HC.alloc HC.size _)) hfar.o)
            (first
              | (go_at_call 59; refine specInverse_c _ _ _ (inv (front d ps)) _ hqI.drew hperm ?_; intro aI nI cI wI hbI hoI; have HI := below_on ((Drew.refl wr).one.below wr.heap.size) hbI; have hnI : nI ≤ 1000000 := (by have := hoI.length; rw [inv_length, hl1.o] at this; omega))
              | (go_at_call 58; refine specCompose_c _ _ _ (inv (inv (front d ps))) _ _ _ g _ hoI.ints (hgI.up HI) hnI hr1 ?_; intro aA nA cA wA hbA hoA; have HA := below_on HI hbA; have hnA : nA ≤ 1000000 := (by have := hoA.length; rw [comp_length, inv_length, hl1.o] at this; omega))
              | (go_at_call 58; refine specCompose_c _ _ _ (comp (inv (inv (front d ps))) g) _ _ _ (inv (front d ps)) _ hoA.ints (hqI.up HA) hnA hr2 ?_; intro aC nC cC wC hbC hoC; have HC := below_on HA hbC)
              | (refine step_appendL (by rfl) _ _ _ (by rfl) w4.heap.size 23 (.slice none 0 0) 24 Try.underlying22 infoSl (by rfl) c m capc (hs.map hvv) (by rfl) (ho.1.up (HC.alloc HC.size _)) _ 1 1 [.slice aC nC cC] (by rfl) (Vals.lit wC [.slice aC nC cC] _ (by simp)) oneSlice k1 k2 (Nat.le_trans hs0 (HC.alloc HC.size _).size) ?_; intro a2 n2 cap2 w2 hn2 ho2 hg2 ha2))
          go_wp2
          refine ⟨⟨k + 1, a2, n2, cap2, hs ++ [(aC, nC, cC)], by omega, by go_num, rfl, ?_, ho.grewBelow hg2.after_alloc (hb.trans (HC.mono hs0)) (Nat.le_trans hs0 HC.size)⟩, by simp [intOf]; omega⟩
          rw [ren_succ hy.o]
          exact ho.snoc HC (hoC.mono HA.size) hs0 (j := 1) hg2.after_alloc ho2 (by have := ha2.o; simpa using this)
        · obtain rfl : k = n := by omega
          rw [List.take_of_length_le (by have := hln.o; omega)] at ho
          have hmr := ho.rows
          go_wp2_with fail
          refine specBuild_c d _ _ _ (ren d xss ps) _ hmr hgr ?_
          intro w5 cp hb5 hC
          go_wp2_with fail
          refine specSizes_c d cp (ren d xss ps) _ hC (gs_of hgr.o) ?_
          intro a6 n6 c6 w6 hb6 ho6
          obtain rfl : n6 = d := by rw [← ho6.length, oszs_length]
          have hx := ho6.ints
          have hpl := Hd.i hps.o.length_le
          have hbE := below_ups (below_ups hb14 hb hb14.size) (below_on hb5 hb6) (Nat.le_trans hb14.size hb.size)
          have hgsr := Hd.i (gs_of hgr.o)
          have hlpn : Hd (ps.length = n') := hlp
          go_wp2
          go_loop [11, 12] (fun ov iv => ∃ (i o : Nat), n' ≤ i ∧ i ≤ n6 ∧ iv = .int .i64 i ∧ ov = .int .i64 o ∧ Hd (o = ordF (osz n6 (ren n6 xss ps)) n' i)) (fun _ iv => n6 - (intOf iv).toNat)
          case atStart => exact ⟨n', 1, Nat.le_refl _, by have := hpl.o; have := hlp.o; omega, rfl, rfl, (ordF_self _ _).symm⟩
          case round =>
            obtain ⟨i, o, hni, hi, rfl, rfl, ho⟩ := hrel
            by_cases hlt : i < n6
            · obtain ⟨bq, offq, y, rfl, hbq, hcq, hyq, hy1, hy2⟩ := hx.at hlt
              obtain rfl : y = ((osz n6 (ren n6 xss ps) i : Nat) : Int) := by have := hyq.o; rw [oszs_get hlt] at this; cases this; rfl
              obtain ⟨s, hs⟩ : ∃ s, osz n6 (ren n6 xss ps) i = s := ⟨_, rfl⟩
              rw [hs] at hcq hy1 hy2 hyq
              have hmul := Hd.i (show o * s = ordF (osz n6 (ren n6 xss ps)) n' (i + 1) by rw [ordF_succ _ hni, ← ho.o, ← hs])
              have hle := Hd.i (ordF_le h2 (osz_le h1 h2 hgsr.o) n' (i + 1) (by omega))
              have hwr := Hd.i (show wrap64 ((o : Int) * (s : Int)) = ((o * s : Nat) : Int) by rw [IntWalk.wrap64_in ((o : Int) * (s : Int)) (by rw [← Int.natCast_mul, hmul.o]; have := hle.o; omega), Int.natCast_mul])
              replace hs := Hd.i hs
              go_wp2
              exact ⟨⟨i + 1, o * s, by omega, by omega, by go_num, by first | rw [hwr.o] | rfl, hmul⟩, by simp [intOf]; omega⟩
            · obtain rfl : i = n6 := by omega
              go_wp2
              exact retI (H'.o _ hbE) (by rw [e.o, ho.o, hlp.o])
    · have hpt := Hd.i (ptB_false hps)
      have e := Hd.i (pStab_false (z := (d : Int)) (xss := xss) (ps := ps) fun h => hps h.2)
      replace hg := Hd.i hg
      replace hps := Hd.i hps
      go_enter Try.func41, Try.ntmps41
      go_wp2_with fail
      refine specGenSet_c (d : Int) _ _ _ xss _ hm ?_
      intro w1 hd1
      rw [hdec.o]
      have hb1 := hd1.below w.heap.size
      go_wp2_with fail
      refine specPtSet_c d _ _ _ ps _ h1 h2 (hpi.up hb1) ?_
      intro w2 hd2
      rw [hpt.o]
      go_wp2
      exact retI (H'.o _ (below_ups hb1 (hd2.below _) hb1.size)) e.o
  · have hdec := Hd.i (decide_eq_false hg)
    have e := Hd.i (pStab_false (z := z) (xss := xss) (ps := ps) fun h => hg h.1)
    replace hg := Hd.i hg
    go_enter Try.func41, Try.ntmps41
    go_wp2_with fail
    refine specGenSet_c z _ _ _ xss _ hm ?_
    intro w1 hd1
    rw [hdec.o]
    have hb1 := hd1.below w.heap.size
    go_wp2
    exact retI (H'.o _ hb1) e.o
end Go.Proofs.Ytpijnjhheikmcaa
