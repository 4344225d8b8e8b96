/- The reference's addGenerator; both by induction. -/
import Derived.Test.YtpijnjhheikmcaaChainSpec
namespace Go.Proofs.Ytpijnjhheikmcaa
open Go.RowKit

set_option maxRecDepth 100000 in
set_option maxHeartbeats 8000000 in
theorem specGen (d B cp gb tb gc tc : Nat) (rb : Nat → Nat) (k : Nat) (hk : k ≤ d) (ihp : ∀ m, m < wt d k + d + 1 → ProdC d B cp gb tb gc tc rb m) : GenC d B cp gb tb gc tc rb k := by
  intro K r gh R G a n cap p w hC hok hp hcap hpm H
  have H' := Hd.i H; clear H
  have hd1 := hC.d1
  have hd20 := hC.d2
  have hc0 := hC.c0
  by_cases hkd : k < d
  · have hkge : ¬ (d : Int) ≤ (k : Int) := by omega
    go_enter Try.func72, Try.ntmps72
    go_wp2_with fail
    refine specSift_c d 2 B cp gb tb gc tc rb gh r R G k a n cap p w rfl hC (Hd.i hok.o.rws) hk hp.1 hpm ?_
    intro sa sn sc l w1 hl hout hb1
    have hC1 := hC.up hb1
    have hE1 : Ev B k r w r w1 := .of_below hb1 hC.hB
    have hc01 := hC1.c0
    by_cases hs : l = d
    · subst hs
      have hs := Hd.i (hout.o.1 rfl)
      clear hout
      go_wp2
      go_end0
      exact H'.o _ _ _ _ _ hE1 hC1 (fun _ _ => rfl) (AddPost.same hok.o hs.o)
    · have hno := Hd.i (fun h => hs (hout.o.2 h))
      have hld : ((l : Int) == (d : Int)) = false := by simp; omega
      have hp1 := hp.ev hE1
      obtain ⟨ga, gn, gcap, hgh⟩ : ∃ ga gn gcap, gh k = (ga, gn, gcap) := ⟨_, _, _, rfl⟩
      obtain ⟨hcg, hfg, hgl⟩ := hC1.head hkd
      rw [hgh] at hcg hgl
      have hc1 := hC1.c1
      obtain ⟨hs0, q1, q2, q3, q4⟩ := hC1.gens k hkd
      rw [hgh] at q1 q2 q3
      have hgn : gn ≤ 400 := by
        have h1 := hok.o.len k (Nat.le_refl _) hkd
        have h2 := pot_le d R k
        have h3 : d * d ≤ 20 * 20 := Nat.mul_le_mul hd20 hd20
        have h4 : (G k).length = gn := hgl
        omega
      have hB1 := hC1.hB
      have hrcp := Hd.i hC1.rc
      have hrgb := Hd.i hC1.rg
      have hq3 := Hd.i q3
      have hcpl := Hd.i (World.block_lt_of_cell? w1 _ hc1)
      have hgbl := Hd.i (World.block_lt_of_cell? w1 _ hcg)
      have hcgA := (((Below.refl _ w1).alloc (Nat.le_refl _) (.cells #[.slice a n cap] 23)).cell (p := ⟨gb, k, none⟩) hgbl.o).trans hcg
      have hc1A := (((Below.refl _ w1).alloc (Nat.le_refl _) (.cells #[.slice a n cap] 23)).cell (p := ⟨cp, 2, none⟩) hcpl.o).trans hc1
      have c1 : (gn + 1) * 24 ≤ 140737488355328 := by omega
      have c2 : gn + 1 ≤ 281474976710656 := by omega
      clear hs q3 hout
      replace hgh := Hd.i hgh
      replace q2 := Hd.i q2
      replace hgl := Hd.i hgl
      go_upto_region 3 with fail
      go_cut [] (fun wx => AddedS w r B d k cp gb tb gc tc rb gh R G p wx)
      case first =>
        go_region_law (refine step_appendL (by rfl) _ _ _ (by rfl) B 23 (.slice none 0 0) 24 Try.underlying22 infoSl (by rfl) ga gn gcap (hs0.map hvv) (by rfl) (q1.up (((Below.refl _ w1).alloc (Nat.le_refl _) (.cells #[.slice a n cap] 23)).drew)) _ 1 1 [.slice a n cap] (by rfl) (Vals.lit w1 [.slice a n cap] _ (by simp)).drew oneSlice c1 c2 (by simp; omega) ?_; intro a' n' cap' w2 hn2 ho2 hg2 ha2; have hg3 := hg2.after_drew.after_alloc; have hcp2 := hg3.cell_far hc1 (fun e => (by have := hq3.o cp e; have := hrcp.o; omega)); have hgb2 := hg3.cell_far hcg (fun e => (by have := hq3.o gb e; have := hrgb.o; omega)); have hgf2 := (hg3.frozen_far (p := ⟨gb, k, none⟩) hgbl.o (fun e => (by have := hq3.o gb e; have := hrgb.o; omega))).trans hfg)
        all_goals
          go_wp2_with fail
          go_meet
          exact addedS_of hE1 hC1 hkd hgh.o q1 q2.o q4 hp1 hcap hg3 ho2 (j := 1) (by simpa [Hd] using ha2)
      case rest =>
        obtain ⟨r1, gh1, hlow1, hC2, hE2⟩ := hcut
        clear hcg hfg hc1 q1 hcgA hc1A hc01 hc0
        have hlow1 := Hd.i hlow1
        have hjn := Hd.i (Joined.start hd1 hd20 (hok.o.hf hkd) hpm.o.1 hpm.o.2)
        have hp2 := hp.ev hE2
        have hB2 := hC2.hB
        have hw0 : OutD (RZ r1) (wc.alloc (.cells #[] 23)) wc.heap.size (some ⟨wc.heap.size, 0, none⟩) 0 0 (repsTo (R k) 0) := ⟨[], Own.lit wc [] _ (by simp) (Nat.le_refl _), by simp [repsTo], by simp⟩
        go_wp2
        go_loopw [8, 9] (fun v iv wr => ∃ (y : Nat) (c : Option Addr) (m capc : Nat), y ≤ d ∧ iv = .int .i64 y ∧ v = .slice c m capc ∧ OutD (RZ r1) wr wc.heap.size c m capc (repsTo (R k) y) ∧ Below wc.heap.size wc wr) (fun _ iv _ => d - (intOf iv).toNat)
        case atStart => exact ⟨0, _, 0, 0, Nat.zero_le _, rfl, rfl, hw0, (Below.refl _ _).alloc (Nat.le_refl _) _⟩
        case round =>
          clear hw0
          obtain ⟨y, c, m, capc, hy, rfl, rfl, ho, hb⟩ := hrel
          have hCr := hC2.up hb
          have hc0 := hCr.c0
          by_cases hlt : y < d
          · have hc2 := hCr.c2
            have htt := (hCr.tt k hkd).1
            obtain ⟨ra, rn, rc, hcr, _, hrno, hrso⟩ := hCr.rep hkd hlt
            have hmy : m ≤ y := by rw [← ho.length]; exact repsTo_le (R k) y
            cases hRy : R k y with
            | none =>
              have e := hrno.o hRy
              simp only [Prod.mk.injEq] at e
              obtain ⟨rfl, rfl, rfl⟩ := e
              have el := Hd.i (show repsTo (R k) (y + 1) = repsTo (R k) y by rw [repsTo_succ, hRy]; simp)
              replace hRy := Hd.i hRy
              clear hrno hrso
              go_wp2
              exact ⟨⟨y + 1, c, m, capc, by omega, by go_num, rfl, by rw [el.o]; exact ho, hb⟩, by simp [intOf]; omega⟩
            | some t =>
              obtain ⟨_, htI, htc⟩ := hrso.o t hRy
              have htp := ((hok.o.hf hkd).lv.row _ t hRy).1
              have hrn : rn = d := by rw [← htI.1.length]; exact htp.2
              have hrn1 : 0 < rn := by omega
              have hrle := htI.1.le
              have el := Hd.i (show repsTo (R k) (y + 1) = repsTo (R k) y ++ [t] by rw [repsTo_succ, hRy]; rfl)
              obtain ⟨hs1, o1, o2, o3⟩ := ho
              have hsw := hb.size
              have hxI : IntsD (fun b => RZ r1 b ∧ ¬ fpI c b) wr ra rn t := by
                have htI2 : IntsD (RZ r1) wc ra rn t := by
                  obtain ⟨ra', rn', rc', e1, _, _, e3⟩ := hC2.rep hkd hlt
                  have e4 := (hb.cell (p := ⟨rb k, y, none⟩) (hC2.rb_lt hkd).2).trans e1
                  rw [hcr] at e4
                  cases e4
                  exact (e3.o t hRy).2.1
                exact (htI2.mono (D' := fun b => RZ r1 b ∧ ¬ fpI c b) fun b hbl hz => ⟨hz, fun ⟨off, s, e⟩ => by have := (o1.lt e).1; omega⟩).kept (.of_below hb)
              have c1' : (m + 1) * 24 ≤ 140737488355328 := by omega
              have c2' : m + 1 ≤ 281474976710656 := by omega
              replace hRy := Hd.i hRy
              replace hrn := Hd.i hrn
              replace htp := Hd.i htp
              replace o2 := Hd.i o2
              replace o3 := Hd.i o3
              clear hrno hrso
              go_wp2_with (at_builtin; refine appendL_c rfl _ _ _ rfl wc.heap.size 23 (.slice none 0 0) 24 Try.underlying22 infoSl rfl _ _ _ _ rfl o1 [.slice ra rn rc] 1 rfl rfl oneSlice c1' c2' hsw ?_; intro a4 n4 c4 w4 hn4 ho4 hg4 ha4)
              exact ⟨⟨y + 1, a4, n4, c4, by omega, by go_num, rfl, by rw [el.o]; exact OutD.snoc o1 o2.o o3.o hxI htc hg4 ho4 ha4.o, hb.trans (hg4.below hsw fun b off s e => (o1.lt e).1)⟩, by simp [intOf]; omega⟩
          · obtain rfl : y = d := by omega
            have hkn := ho.matD (fun b hb => hC2.new hb)
            have hml := Hd.i ho.length
            have hm20 : m ≤ 20 := by rw [← ho.length]; have := repsTo_le (R k) y; omega
            have hE3 : Ev B k r1 wc r1 wr := .of_below hb hB2
            have hp3 := hp2.ev hE3
            have hE4 := hE2.trans hE3
            clear ho hb
            go_wp2
            go_loopw [10] (fun iv wr => ∃ (i : Nat) (r2 : Role) (gh2 : Nat → Hdr) (R2 : Tr) (G2 : Nat → List (List Int)), i ≤ m ∧ iv = .int .i64 i ∧ Hd (∀ x, x < k → gh2 x = gh x) ∧ Ch wr r2 B y 2 1 cp gb tb gc tc rb gh2 R2 G2 ∧ Hd (Joined y k p R G i R2 G2) ∧ IntsD (RZ r2) wr a n p ∧ MatD (RZ r2) wr c m (repsTo (R k) y) ∧ Ev B k r w r2 wr) (fun iv _ => m - (intOf iv).toNat)
            case atStart => exact ⟨0, r1, gh1, R, _, Nat.zero_le _, rfl, hlow1, hCr, hjn, hp3, hkn, hE4⟩
            case round =>
              clear hCr hjn hp3 hkn hE4 hc0
              obtain ⟨i, r2, gh2, R2, G2, hi, rfl, hgh2, hCr, hjn, hpr, hkn, hEr⟩ := hrel
              by_cases hlti : i < m
              · obtain ⟨bt, offt, a3, n3, c3, t, rfl, hbt, hct, htt, htI, htc⟩ := hkn.at hlti
                have htm := List.mem_of_getElem? htt.o
                have hprod := hjn.o.prod hd1 hd20 hkd htm
                obtain ⟨z, hz, ez⟩ := mem_repsTo.1 htm
                have htp := ((hok.o.hf hkd).lv.row z t ez).1
                have hn3 : n3 = y := by rw [← htI.1.length]; exact htp.2
                have hnd : n = y := by rw [← hpr.1.length]; exact hpm.o.1.2
                have hrng : Hd (∀ x ∈ t, 0 ≤ x ∧ x < n) := by
                  have h1 := htp.1.range
                  rw [htp.2] at h1
                  rw [hnd]; exact h1
                have hn6 : n3 ≤ 1000000 := by omega
                have ihp' := Hd.i (ihp (wt y k + (y - szR y R2 k)) (by have := szR_le y R2 k; omega))
                replace hprod := Hd.i hprod
                replace ez := Hd.i ez
                replace htm := Hd.i htm
                replace htp := Hd.i htp
                replace hn3 := Hd.i hn3
                replace hnd := Hd.i hnd
                go_wp2_with fail
                refine specCompose_c _ _ _ t _ _ _ p _ htI.1 hpr.1 hn6 hrng ?_
                intro aC nC cC wC hbC hoC
                have hCI : IntsD (RZ r2) wC aC nC (comp t p) := .of_own hoC (fun b hb => hCr.new hb)
                go_wp2_with fail
                refine ihp'.o k hkd _ r2 gh2 R2 G2 _ _ _ (comp t p) _ rfl (hCr.up hbC) hjn.o.run.hf hCI hoC.cap hprod.o ?_
                intro w9 r9 gh9 R9 G9 hE9 hC9 hlow9 hpost9
                have hEf : Ev B k r2 wr r9 w9 := (Ev.of_below hbC hCr.hB).trans hE9
                have hnx := Hd.i (hjn.o.step hd1 hd20 hkd htt.o hpost9.o)
                go_wp2
                exact ⟨⟨i + 1, r9, gh9, R9, G9, by omega, by go_num, fun x hx => (hlow9.o x (by omega)).trans (hgh2.o x hx), hC9, hnx, hpr.ev hEf, hkn.ev hEf, hEr.trans hEf⟩, by simp [intOf]; omega⟩
              · obtain rfl : i = m := by omega
                have hpost : Hd (AddPost y k p R G R2 G2) := by
                  have h := hjn.o
                  rw [← hml.o] at h
                  exact h.full hd1 hd20 hkd hpm.o hok.o hno.o
                go_wp2
                go_end0
                exact H'.o _ _ _ _ _ hEr hCr hgh2 hpost
  · obtain rfl : k = d := by omega
    go_enter Try.func72, Try.ntmps72
    go_wp2
    go_end0
    exact H'.o _ _ _ _ _ (Ev.refl _ _ _ _) hC (fun _ _ => rfl) (AddPost.same hok.o (sf_end k R p))

theorem spec_all (d B cp gb tb gc tc : Nat) (rb : Nat → Nat) : ∀ M, ProdC d B cp gb tb gc tc rb M ∧ ∀ k, k ≤ d → wt d k + d + 1 ≤ M → GenC d B cp gb tb gc tc rb k := by
  intro M
  induction M using Nat.strongRecOn with
  | _ M ih =>
    have hg : ∀ k, k ≤ d → wt d k + d + 1 ≤ M → GenC d B cp gb tb gc tc rb k := fun k hk hM => specGen d B cp gb tb gc tc rb k hk fun m hm => (ih m (by omega)).1
    refine ⟨specProd d B cp gb tb gc tc rb M (fun m hm => (ih m hm).1) fun k hM => ?_, hg⟩
    exact hg k hM.1 (by omega)
theorem specGen_c (d B cp gb tb gc tc : Nat) (rb : Nat → Nat) (k : Nat) (hk : k ≤ d) : GenC d B cp gb tb gc tc rb k := (spec_all d B cp gb tb gc tc rb _).2 k hk (Nat.le_refl _)
end Go.Proofs.Ytpijnjhheikmcaa
