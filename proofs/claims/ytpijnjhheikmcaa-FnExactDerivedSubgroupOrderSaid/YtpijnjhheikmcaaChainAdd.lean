/- The program's add. -/
import Derived.Test.YtpijnjhheikmcaaChainStep
namespace Go.Proofs.Ytpijnjhheikmcaa
open Go.RowKit

/-- What the first statement of add leaves: p stands among the generators of level k. -/
def Added (w : World) (r : Role) (B d k cp gb tb gc tc : Nat) (rb : Nat → Nat) (gh : Nat → Hdr) (R : Tr) (G : Nat → List (List Int)) (p : List Int) (wx : World) : Prop :=
  ∃ (r1 : Role) (gh1 : Nat → Hdr) (g2 n2 c2 : Nat), gh1 k = (some ⟨g2, 0, none⟩, n2, c2) ∧ (∀ i, i < k → gh1 i = gh i) ∧ Ch wx r1 B d 1 2 cp gb tb gc tc rb gh1 R (addG G k p) ∧ Ev B k r w r1 wx

theorem added_of {w w1 w2 : World} {r : Role} {B d k cp gb tb gc tc : Nat} {rb : Nat → Nat} {gh : Nat → Hdr} {R : Tr} {G : Nat → List (List Int)} (hE : Ev B k r w r w1) (hC : Ch w1 r B d 1 2 cp gb tb gc tc rb gh R G) (hk : k < d) {ga : Option Addr} {gn gcap : Nat} (hgh : gh k = (ga, gn, gcap)) {hs : List Hdr} (h1 : Own w1 B 23 ga gn gcap (hs.map hvv)) (h2 : (G k).length = gn)
    (h4 : ∀ (j : Nat) (x : Hdr) (g : List Int), hs[j]? = some x → (G k)[j]? = some g → IntsD (RZ r) w1 x.1 x.2.1 g ∧ x.2.1 ≤ x.2.2) {a : Option Addr} {n cap : Nat} {p : List Int} (hp : IntsD (RZ r) w1 a n p) (hc : n ≤ cap) (hg : Grew ga w1 w2) {a' : Option Addr} {n' cap' j : Nat} (ho : Own w2 B 23 a' n' cap' (hs.map hvv ++ [.slice a n cap])) (ha : a' = ga ∨ a' = some ⟨w1.heap.size + j, 0, none⟩) :
    Added w r B d k cp gb tb gc tc rb gh R G p (w2.setCell ⟨gb, k, none⟩ (.slice a' n' cap')) := by
  have hl := ho.length
  have hl1 := h1.length
  simp at hl hl1
  obtain ⟨g2, rfl⟩ : ∃ g2, a' = some ⟨g2, 0, none⟩ := by
    rcases ho.addr with ⟨_, h, _⟩ | ⟨g, h, _⟩
    · omega
    · exact ⟨g, h⟩
  have ha2 : (gh k).1 = some ⟨g2, 0, none⟩ ∨ w1.heap.size ≤ g2 := by
    rw [hgh]
    rcases ha with e | e
    · exact .inl e.symm
    · cases e; exact .inr (Nat.le_add_right _ _)
  have hB : B ≤ w1.heap.size := by have := (hC.lo gb (by rw [hC.rg]; omega)); omega
  have hgb := hC.lo gb (by rw [hC.rg]; omega)
  have hfp := hC.gens_fp hk
  obtain ⟨hC2, hrole, _⟩ := hC.addGen hk hp hc h4 (by omega) (by rw [hgh]; exact hg) ho ha2
  rw [hgh] at hfp
  have hE2 : Ev B k r w1 (roleG r k g2) (w2.setCell ⟨gb, k, none⟩ (.slice (some ⟨g2, 0, none⟩) n' cap')) := by
    refine ⟨(hg.below hB fun b off s e => (hC.lo b (by rw [hfp b ⟨off, s, e⟩]; omega)).1).setCell (p := ⟨gb, k, none⟩) hgb.1 _, hrole, fun b hb hl => ?_⟩
    refine (heap_store w2 gb k b _ fun e => ?_).trans (hg.block b hl fun off s e => ?_)
    · subst e; exact hb.1 hC.rg
    · have := hfp b ⟨off, s, e⟩; have := hC.d2; unfold LowR at hb; omega
  exact ⟨_, _, g2, n', cap', by simp, fun i hi => by simp [show i ≠ k by omega], hC2, hE.trans hE2⟩

set_option maxRecDepth 100000 in
set_option maxHeartbeats 8000000 in
theorem implAdd_c (d B cp gb tb gc tc : Nat) (rb : Nat → Nat) : ∀ (f k : Nat), d - k = f → k ≤ d → ∀ (K : Ending → World → Prop) (r : Role) (gh : Nat → Hdr) (R : Tr) (G : Nat → List (List Int)) (a : Option Addr) (n cap : Nat) (p : List Int) (w : World),
    Ch w r B d 1 2 cp gb tb gc tc rb gh R G → Hd (Okx d R G k) → IntsD (RZ r) w a n p → n ≤ cap → Hd (Pm d p ∧ Fx k p) →
    (∀ w' r' gh' R' G', Ev B k r w r' w' → Ch w' r' B d 1 2 cp gb tb gc tc rb gh' R' G' → Hd (∀ i, i < k → gh' i = gh i) → Hd (AddPost d k p R G R' G') → K (.returned (.tuple #[])) w') →
    Calls Try.prog 74 #[.pointer (some ⟨cp, 0, none⟩), .int .i64 k, .slice a n cap] w K := by
  intro f
  induction f with
  | zero =>
    intro k hf hk K r gh R G a n cap p w hC hok hp hcap hpm H
    have H' := Hd.i H; clear H
    obtain rfl : k = d := by omega
    go_enter Try.func74, Try.ntmps74
    go_wp2_with fail
    refine implHas_c k 1 B cp gb tb gc tc rb gh r R G k a n cap p w rfl hC (Hd.i hok.o.rws) hk hp.1 hpm ?_
    intro bb hbb w1 hb1
    cases bb with
    | true =>
      go_wp2
      go_end0
      exact H'.o _ _ _ _ _ (.of_below hb1 hC.hB) (hC.up hb1) (fun _ _ => rfl) (AddPost.same hok.o (sf_end k R p))
    | false =>
      have := hbb.o.2 (sf_end k R p)
      cases this
  | succ f ih =>
    intro k hf hk K r gh R G a n cap p w hC hok hp hcap hpm H
    have H' := Hd.i H; clear H
    have hkd : k < d := by omega
    have hd1 := hC.d1
    have hd20 := hC.d2
    have hB : B ≤ w.heap.size := by have := (hC.lo gb (by rw [hC.rg]; omega)); omega
    go_enter Try.func74, Try.ntmps74
    go_wp2_with fail
    refine implHas_c d 1 B cp gb tb gc tc rb gh r R G k a n cap p w rfl hC (Hd.i hok.o.rws) hk hp.1 hpm ?_
    intro bb hbb w1 hb1
    cases bb with
    | true =>
      have hs := Hd.i (hbb.o.1 rfl)
      clear hbb
      go_wp2
      go_end0
      exact H'.o _ _ _ _ _ (.of_below hb1 hC.hB) (hC.up hb1) (fun _ _ => rfl) (AddPost.same hok.o hs.o)
    | false =>
      have hs : ¬ Sf d R k p := fun h => by have := hbb.o.2 h; cases this
      have hs' := Hd.i hs
      have hC1 := hC.up hb1
      have hE1 : Ev B k r w r w1 := .of_below hb1 hB
      have hp1 := hp.ev hE1
      have hB1 : B ≤ w1.heap.size := Nat.le_trans hB hb1.size
      obtain ⟨ga, gn, gcap, hgh⟩ : ∃ ga gn gcap, gh k = (ga, gn, gcap) := ⟨_, _, _, rfl⟩
      obtain ⟨hcg, hfg, hgl⟩ := hC1.head hkd
      rw [hgh] at hcg hgl
      have hc1 := hC1.c1
      obtain ⟨hs0, q1, q2, q3, q4⟩ := hC1.gens k hkd
      rw [hgh] at q1 q2 q3
      have hgn : gn ≤ 400 := by
        have h1 := hok.o.len k (Nat.le_refl _) hkd
        have h2 := pot_le d R k
        have h3 : d * d ≤ 20 * 20 := Nat.mul_le_mul hd20 hd20
        have h4 : (G k).length = gn := hgl
        omega
      have hgr : Hd (Grew ga w1 w1) := Grew.refl _ _
      have hrcp := Hd.i hC1.rc
      have hrgb := Hd.i hC1.rg
      have hq3 := Hd.i q3
      have hcpl := Hd.i (World.block_lt_of_cell? w1 _ hc1)
      have hgbl := Hd.i (World.block_lt_of_cell? w1 _ hcg)
      have hcgA := (((Below.refl _ w1).alloc (Nat.le_refl _) (.cells #[.slice a n cap] 23)).cell (p := ⟨gb, k, none⟩) hgbl.o).trans hcg
      have hc1A := (((Below.refl _ w1).alloc (Nat.le_refl _) (.cells #[.slice a n cap] 23)).cell (p := ⟨cp, 1, none⟩) hcpl.o).trans hc1
      have c1 : (gn + 1) * 24 ≤ 140737488355328 := by omega
      have c2 : gn + 1 ≤ 281474976710656 := by omega
      clear hs hgr q3
      replace hgh := Hd.i hgh
      replace q2 := Hd.i q2
      replace hgl := Hd.i hgl
      go_upto_region 1 with fail
      go_cut [] (fun wx => Added w r B d k cp gb tb gc tc rb gh R G p wx)
      case first =>
        go_region_law (refine step_appendL (by rfl) _ _ _ (by rfl) B 23 (.slice none 0 0) 24 Try.underlying22 infoSl (by rfl) ga gn gcap (hs0.map hvv) (by rfl) (q1.up (((Below.refl _ w1).alloc (Nat.le_refl _) (.cells #[.slice a n cap] 23)).drew)) _ 1 1 [.slice a n cap] (by rfl) (Vals.lit w1 [.slice a n cap] _ (by simp)).drew oneSlice c1 c2 (by simp; omega) ?_; intro a' n' cap' w2 hn2 ho2 hg2 ha2; have hg3 := hg2.after_drew.after_alloc; have hcp2 := hg3.cell_far hc1 (fun e => (by have := hq3.o cp e; have := hrcp.o; omega)); have hgb2 := hg3.cell_far hcg (fun e => (by have := hq3.o gb e; have := hrgb.o; omega)); have hgf2 := (hg3.frozen_far (p := ⟨gb, k, none⟩) hgbl.o (fun e => (by have := hq3.o gb e; have := hrgb.o; omega))).trans hfg)
        all_goals
          go_wp2_with fail
          go_meet
          exact added_of hE1 hC1 hkd hgh.o q1 q2.o q4 hp1 hcap hg3 ho2 (j := 1) (by simpa [Hd] using ha2)
      case rest =>
        obtain ⟨r1, gh1, g2, n2, c2', hgh1, hlow1, hC2, hE2⟩ := hcut
        clear hcg hfg hc1 q1 hp1 hE1 hC1 hb1 hcgA hc1A
        replace hgh1 := Hd.i hgh1
        replace hlow1 := Hd.i hlow1
        have hf2 := Hd.i ((hok.o.hf hkd).gen hd1 hd20 hpm.o.1 hpm.o.2)
        have hc2 := hC2.c2
        have htt := (hC2.tt k hkd).1
        have hrow := hC2.rows k hkd
        go_wp2_with fail
        refine implPts_c r1 B d (rb k) d (R k) _ hd20 hrow ?_
        intro qa qn qcap w3 hb3 ho3
        have hmk : (k : Int) ∈ ptsTo (R k) d := mem_ptsTo.2 ⟨by omega, by omega, by rw [Int.toNat_natCast, (hf2.o.lv.one)]; rfl⟩
        obtain ⟨gq, rfl, hgq1, hgq2⟩ : ∃ g, qa = some ⟨g, 0, none⟩ ∧ wc.heap.size ≤ g ∧ g < w3.heap.size := by
          have hl := ho3.length
          have hp0 := List.length_pos_of_mem hmk
          rcases ho3.1.addr with ⟨_, h, _⟩ | ⟨g, h1, h2, h3, _⟩
          · omega
          · exact ⟨g, h1, h2, h3⟩
        obtain ⟨hC3, hE3'⟩ := hC2.claim hb3 hC2.hB hgq1 hgq2 k
        have hE3 := hE2.trans hE3'
        have hq3' : OwnQ w3 B 2 0 (some ⟨gq, 0, none⟩) qn qcap ((ptsTo (R k) d).map (Value.int .i64)) := OwnQ.of_own (ho3.1.mono hC2.hB)
        have hqn3 := Hd.i ho3.length
        have hqn4 : qn ≤ 20 := by have := ptsTo_le (R k) d; have := hqn3.o; omega
        have hr3 := Hd.i (roleQ_self r1 gq)
        have hbf := Hd.i (Bfs.start hf2.o)
        clear hmk hE3' hb3 ho3 hrow hE2 hgq1 hgq2
        go_wp2
        go_loopg [7] d (fun gk v wr => ∃ (i gq off qn qcap : Nat) (os : List Int) (r' : Role) (R' : Tr), Hd (gk + i = d) ∧ v = .slice (some ⟨gq, off, none⟩) qn qcap ∧ Hd (i ≤ os.length) ∧ Hd ((os.drop i).length = qn) ∧ qn ≤ 20 ∧ QI wr B i (some ⟨gq, off, none⟩) qn qcap (os.drop i) ∧ Hd (r' gq = 100) ∧
          Ch wr r' B d 1 2 cp gb tb gc tc rb gh1 R' (addG G k p) ∧ Hd (Bfs d k R (addG G k p) R' os i) ∧ Ev B k r w r' wr)
        case atStart => exact ⟨0, gq, 0, qn, qcap, ptsTo (R k) d, _, R, rfl, rfl, Nat.zero_le _, hqn3, hqn4, .inr hq3', hr3, hC3, hbf, hE3⟩
        case round =>
          clear hq3' hr3 hC3 hbf hE3 hqn3 hqn4
          obtain ⟨i, gq, off, qn, qcap, os, r', R', hgk, rfl, hi, hql, hq20, hqi, hrq, hCr, hbf, hEr⟩ := hrel
          by_cases hq0 : 0 < qn
          · obtain ⟨u, hu⟩ : ∃ u, Hd (os[i]? = some u) := ⟨_, List.getElem?_eq_getElem (by have := hql.o; rw [List.length_drop] at this; omega)⟩
            have hq1 : OwnQ wr B 2 i (some ⟨gq, off, none⟩) qn qcap ((os.drop i).map (Value.int .i64)) := by
              rcases hqi with h | h
              · omega
              · exact h
            have hcg1 := (hCr.head hkd).1
            rw [hgh1.o] at hcg1
            have hc11 := hCr.c1
            have hn2 : n2 = (addG G k p k).length := by have := (hCr.head hkd).2.2; rw [hgh1.o] at this; exact this.symm
            replace hn2 := Hd.i hn2
            have hn2le : n2 ≤ 281474976710656 := by
              obtain ⟨_, e, _⟩ := hCr.gens k hkd
              rw [hgh1.o] at e
              exact e.le48
            have hbin : Hd (BfsIn d k R (addG G k p) R' os i u 0) := ⟨hbf.o, hu.o, fun q g hq => by omega⟩
            clear hqi hbf
            obtain ⟨wo, rfl⟩ : ∃ wo, wo = wr := ⟨wr, rfl⟩
            go_wp2
            go_loopw [7, 57] (fun v jv wr => ∃ (j gq off qn qcap : Nat) (os : List Int) (r' : Role) (R' : Tr), j ≤ n2 ∧ jv = .int .i64 j ∧ v = .slice (some ⟨gq, off, none⟩) qn qcap ∧ OwnQ wr B 2 i (some ⟨gq, off, none⟩) qn qcap ((os.drop i).map (Value.int .i64)) ∧ Hd (r' gq = 100) ∧
              Ch wr r' B d 1 2 cp gb tb gc tc rb gh1 R' (addG G k p) ∧ Hd (BfsIn d k R (addG G k p) R' os i u j) ∧ Ev B k r w r' wr) (fun _ jv _ => n2 - (intOf jv).toNat)
            case atStart => exact ⟨0, gq, off, qn, qcap, os, r', R', Nat.zero_le _, rfl, rfl, hq1, hrq, hCr, hbin, hEr⟩
            case round =>
              clear hq1 hrq hCr hbin hEr hcg1 hc11 hq20 hql hi hu hq0
              obtain ⟨j, gq, off, qn, qcap, os, r', R', hj, rfl, rfl, hq, hrq, hCr, hbin, hEr⟩ := hrel
              have hil : i < os.length := (List.getElem?_eq_some_iff.1 hbin.o.2.1).1
              have hqn : qn + i = os.length := by have := hq.length; rw [List.length_map, List.length_drop] at this; omega
              have hosl : os.length ≤ d := hbin.o.1.len
              obtain ⟨gq', offq, v, eq, hgq1, hgq2, hcq, hvq⟩ := hq.at (k := 0) (by omega)
              cases eq
              obtain rfl : v = .int .i64 u := by
                have := hvq.o
                rw [List.getElem?_map, List.getElem?_drop, Nat.add_zero, hbin.o.2.1] at this
                exact (Option.some.inj this).symm
              simp only [Nat.add_zero] at hcq
              have hqn1 : 1 ≤ qn := by omega
              have hqc := hq.le
              by_cases hlt : j < n2
              · obtain ⟨bg, a3, n3, c3, g, eb, hcgn, hgj, hgI, hgcap⟩ := hCr.gen hkd (j := j) (by rw [hgh1.o]; exact hlt)
                rw [hgh1.o] at eb
                cases eb
                have hosu := (hbin.o.1.mem u).1 (List.mem_of_getElem? hbin.o.2.1)
                obtain ⟨hu0, hud, hus⟩ := hosu
                obtain ⟨t, ht⟩ := Option.isSome_iff_exists.1 hus
                have hgp := (hbin.o.1.hf.lv.gen g (List.mem_of_getElem? hgj.o)).1
                have htp := (hbin.o.1.hf.lv.row _ t ht).1
                have hn3 : n3 = d := by rw [← hgI.1.length]; exact hgp.2
                obtain ⟨bz, offz, z, rfl, hbz, hcz, hpz, hz1, hz2⟩ := hgI.1.at (k := u.toNat) (by omega)
                have hze : z = at0 g u := (at0_of hpz.o).symm
                have hzr := hgp.rng hu0 hud
                rw [← hze] at hzr
                obtain ⟨hz0, hzd⟩ := hzr
                have hun3 : u < n3 := by omega
                obtain ⟨za, zn, zc, hcrz, hfrz, hzno, hzso⟩ := hCr.rep hkd (y := z.toNat) (by omega)
                have hnil := eqNil
                replace hn3 := Hd.i hn3
                replace hze := Hd.i hze
                replace hqn := Hd.i hqn
                replace ht := Hd.i ht
                replace hgp := Hd.i hgp
                replace htp := Hd.i htp
                replace hus := Hd.i hus
                cases hRz : R' k z.toNat with
                | some tz =>
                  obtain ⟨ad, rfl⟩ : ∃ ad, za = some ad := Option.ne_none_iff_exists'.1 (hzso.o tz hRz).1
                  have hnx : Hd (BfsIn d k R (addG G k p) R' os i u (j + 1)) := hbin.o.old hgj.o (by rw [← hze.o, hRz]; rfl)
                  replace hRz := Hd.i hRz
                  clear hzno hzso hbin hpz hvq
                  go_wp2
                  exact ⟨⟨j + 1, gq, off, qn, qcap, os, r', R', by omega, by go_num, rfl, hq, hrq, hCr, hnx, hEr⟩, by simp [intOf]; omega⟩
                | none =>
                  have e := hzno.o hRz
                  simp only [Prod.mk.injEq] at e
                  obtain ⟨rfl, rfl, rfl⟩ := e
                  obtain ⟨ua, un, uc, hcu, _, _, huso⟩ := hCr.rep hkd (y := u.toNat) (by omega)
                  obtain ⟨_, huI, _⟩ := huso.o t ht.o
                  have hun : un ≤ 1000000 := by have := huI.1.length; have := htp.o.2; omega
                  have hrng : Hd (∀ x ∈ t, 0 ≤ x ∧ x < n3) := by
                    have h1 := htp.o.1.range
                    rw [htp.o.2] at h1
                    rw [hn3.o]; exact h1
                  have hnx : Hd (BfsIn d k R (addG G k p) (setR R' k z.toNat (comp t g)) (os ++ [z]) i u (j + 1)) := by
                    have := hbin.o.new hd1 hd20 hkd hgj.o ht.o (by rw [← hze.o]; exact hRz)
                    rw [← hze.o] at this
                    exact this
                  replace hRz := Hd.i hRz
                  have c3' : (qn + 1) * 8 ≤ 140737488355328 := by have := hqn.o; omega
                  have c4' : qn + 1 ≤ 281474976710656 := by have := hqn.o; omega
                  have c5' : (i + qn + 1) * 8 ≤ 140737488355328 := by have := hqn.o; omega
                  have c6' : i + qn + 1 ≤ 281474976710656 := by have := hqn.o; omega
                  have hzdn : z.toNat < d := by omega
                  clear hzno hzso huso hbin hpz hvq
                  go_wp2_with fail
                  refine implCompose_c _ _ _ t _ _ _ g _ huI.1 hgI.1 hun hrng ?_
                  intro a5 n5 c5 w5 hb5 ho5
                  have hC5 := hCr.up hb5
                  have hE5 : Ev B k r w r' w5 := hEr.trans (.of_below hb5 hCr.hB)
                  have hI5 : IntsD (RZ r') w5 a5 n5 (comp t g) := .of_own ho5 fun b hb => hCr.new hb
                  have hn5 : n5 = d := by rw [← ho5.length, comp_length]; exact htp.o.2
                  have ha5 : a5 ≠ none := by
                    intro e
                    obtain ⟨b', o', v', e', _⟩ := hI5.1.at (k := 0) (by omega)
                    rw [e] at e'; cases e'
                  obtain ⟨_, _, _, hcr5, hfr5, _, _⟩ := hC5.rep hkd hzdn
                  have hC6 := hC5.setRep hkd hzdn ha5 hI5 ho5.cap
                  have hE6 := hE5.trans (hC5.setRepEv hkd z.toNat (.slice a5 n5 c5))
                  have hq6 : OwnQ (w5.setCell ⟨rb k, z.toNat, none⟩ (.slice a5 n5 c5)) B 2 i (some ⟨gq, off, none⟩) qn qcap ((os.drop i).map (Value.int .i64)) := (hq.up hb5).of_heap fun b o s e => by
                    cases e
                    exact heap_store w5 (rb k) z.toNat gq _ fun e => by have h1 := (hC5.tt k hkd).2; have h2 := hrq.o; rw [← e, h2] at h1; omega
                  have hB6 := hC6.hB
                  have hsz6 := Hd.i (size_store w5 ⟨rb k, z.toNat, none⟩ (.slice a5 n5 c5))
                  replace hn5 := Hd.i hn5
                  clear hcr5 hq hCr hEr hE5 hI5 ho5 hgI huI hcq hcgn hcz hcrz hfrz hcu hgq2 hbz
                  obtain ⟨_, _, _, hcr5, hfr5, _, _⟩ := hC5.rep hkd hzdn
                  go_wp2_with (at_builtin; refine appendQ_c rfl _ _ _ rfl B i 2 (.int .i64 0) 8 Try.underlying23 infoInt rfl _ _ _ _ rfl hq6 [.int .i64 z] 1 _ rfl hsz6.o.symm rfl (by omega) oneInt c3' c4' c5' c6' hB6 ?_; intro a7 n7 c7 w7 hn7 hq7 hg7 ha7)
                  obtain ⟨g7, o7, rfl, hC7, hE7⟩ := hC6.queue (j := 1) hg7 hrq.o hB6 (by rw [hsz6.o]; exact ha7.o) (fun b o s e => hq7.lt e) k (by omega)
                  refine ⟨⟨j + 1, g7, o7, n7, c7, os ++ [z], _, _, by omega, by go_num, rfl, ?_, roleQ_self _ _, hC7, hnx, hE6.trans hE7⟩, by simp [intOf]; omega⟩
                  rw [List.drop_append_of_le_length (by have := hqn.o; omega), List.map_append]
                  exact hq7
              · obtain rfl : j = n2 := by omega
                have hnx : Bfs d k R (addG G k p) R' os (i + 1) := by
                  have := hbin.o
                  rw [hn2.o] at this
                  exact this.next
                have hdr : os.drop i = u :: os.drop (i + 1) := drop_some hbin.o.2.1
                replace hqn := Hd.i hqn
                replace hnx := Hd.i hnx
                have hi1 := Hd.i (show i + 1 ≤ os.length from hil)
                have hgk' := Hd.i (show (gk - 1) + (i + 1) = d by have := hgk.o; omega)
                have hgk0 : 0 < gk := by have := hgk.o; omega
                clear hcq hvq hbin hgq2
                by_cases hcap' : qcap = 1
                · subst hcap'
                  have hqn2 : qn = 1 := by omega
                  subst hqn2
                  have hl1 : (os.drop (i + 1)).length = 0 := by rw [List.length_drop]; have := hqn.o; omega
                  replace hl1 := Hd.i hl1
                  replace hdr := Hd.i hdr
                  go_wp2
                  go_roundg (gk - 1)
                  case measure => omega
                  case rel => exact ⟨i + 1, gq, off, 0, 0, os, r', R', hgk', rfl, hi1, hl1, by omega, .inl rfl, hrq, hCr, hnx, hEr⟩
                · rw [hdr] at hq
                  have hpop := hq.pop
                  replace hdr := Hd.i hdr
                  go_wp2
                  go_roundg (gk - 1)
                  case measure => omega
                  case rel => exact ⟨i + 1, gq, off + 1, qn - 1, qcap - 1, os, r', R', hgk', rfl, hi1, by show _ = _; rw [List.length_drop]; have := hqn.o; omega, by have := hqn.o; omega, .inr hpop, hrq, hCr, hnx, hEr⟩
          · have hq00 : qn = 0 := by omega
            subst hq00
            have hfull : Bfs d k R (addG G k p) R' os os.length := by
              have h1 := hql.o
              rw [List.length_drop] at h1
              have h2 := hi.o
              have : i = os.length := by omega
              rw [← this]; exact hbf.o
            replace hfull := Hd.i hfull
            clear hqi hbf hql hi hq20 hq0
            have hdb := Hd.i (Dbl.start (ys := ptsTo (R' k) d) hfull.o.hf hfull.o.full)
            go_wp2_with fail
            refine implPts_c r' B d (rb k) d (R' k) _ hd20 (hCr.rows k hkd) ?_
            intro ya yn ycap w4 hb4 ho4
            have hC4 := hCr.up hb4
            have hE4 : Ev B k r w r' w4 := hEr.trans (.of_below hb4 hCr.hB)
            have hY4 : IntsD (RZ r') w4 ya yn (ptsTo (R' k) d) := .of_own ho4 fun b hb => hCr.new hb
            have hyn := Hd.i ho4.length
            have hyn20 : yn ≤ 20 := by have := ptsTo_le (R' k) d; have := hyn.o; omega
            have hR0 := Hd.i (show R' = R' from rfl)
            clear hCr hEr hb4 ho4 hrq
            go_wp2
            go_loopw [91] (fun iv wr => ∃ (i : Nat) (r2 : Role) (gh2 : Nat → Hdr) (R2 : Tr) (G2 : Nat → List (List Int)), i ≤ yn ∧ iv = .int .i64 i ∧ Hd (∀ x, x < k + 1 → gh2 x = gh1 x) ∧ Ch wr r2 B d 1 2 cp gb tb gc tc rb gh2 R2 G2 ∧ Hd (Dbl d k R' (addG G k p) (ptsTo (R' k) d) i 0 R2 G2) ∧ IntsD (RZ r2) wr ya yn (ptsTo (R' k) d) ∧ Ev B k r w r2 wr) (fun iv _ => yn - (intOf iv).toNat)
            case atStart => exact ⟨0, r', gh1, R', addG G k p, Nat.zero_le _, rfl, fun _ _ => rfl, hC4, hdb, hY4, hE4⟩
            case round =>
              clear hC4 hdb hY4 hE4
              obtain ⟨i, r2, gh2, R2, G2, hi, rfl, hgh2, hCr, hdb, hY, hEr⟩ := hrel
              by_cases hlt : i < yn
              · obtain ⟨by', offy, y, rfl, hby, hcy, hyy, hy1, hy2⟩ := hY.1.at hlt
                have hgk2 : gh2 k = (some ⟨g2, 0, none⟩, n2, c2') := (hgh2.o k (Nat.lt_succ_self k)).trans hgh1.o
                have hcg1 := (hCr.head hkd).1
                have hn2 : n2 = (G2 k).length := by have := (hCr.head hkd).2.2; rw [hgk2] at this; exact this.symm
                have hn2le : n2 ≤ 281474976710656 := by
                  obtain ⟨_, e, _⟩ := hCr.gens k hkd
                  rw [hgk2] at e
                  exact e.le48
                rw [hgk2] at hcg1
                have hc11 := hCr.c1
                replace hn2 := Hd.i hn2
                replace hgk2 := Hd.i hgk2
                have hCr0 := hCr
                have hEr0 := hEr
                have hY0 := hY
                obtain ⟨wo, rfl⟩ : ∃ wo, wo = wr := ⟨wr, rfl⟩
                go_wp2
                go_loopw [103] (fun jv wr => ∃ (j : Nat) (r2 : Role) (gh2 : Nat → Hdr) (R2 : Tr) (G2 : Nat → List (List Int)), j ≤ n2 ∧ jv = .int .i64 j ∧ Hd (∀ x, x < k + 1 → gh2 x = gh1 x) ∧ Ch wr r2 B d 1 2 cp gb tb gc tc rb gh2 R2 G2 ∧ Hd (Dbl d k R' (addG G k p) (ptsTo (R' k) d) i j R2 G2) ∧ IntsD (RZ r2) wr (some ⟨by', offy, none⟩) yn (ptsTo (R' k) d) ∧ Ev B k r w r2 wr) (fun jv _ => n2 - (intOf jv).toNat)
                case atStart => exact ⟨0, r2, gh2, R2, G2, Nat.zero_le _, rfl, hgh2, hCr0, hdb, hY0, hEr0⟩
                case round =>
                  clear hCr0 hEr0 hY0 hgh2 hCr hdb hY hEr hn2 hgk2 hcg1 hc11 hcy
                  obtain ⟨j, r2, gh2, R2, G2, hj, rfl, hgh2, hCr, hdb, hY, hEr⟩ := hrel
                  have hgk2 : gh2 k = (some ⟨g2, 0, none⟩, n2, c2') := (hgh2.o k (Nat.lt_succ_self k)).trans hgh1.o
                  have hn2 : n2 = (G2 k).length := by have := (hCr.head hkd).2.2; rw [hgk2] at this; exact this.symm
                  by_cases hltj : j < n2
                  · obtain ⟨bg, a3, n3, c3, g, eb, hcgn, hgj, hgI, hgcap⟩ := hCr.gen hkd (j := j) (by rw [hgk2]; exact hltj)
                    rw [hgk2] at eb
                    cases eb
                    have hgj0 : (addG G k p k)[j]? = some g := by rw [← hdb.o.gk]; exact hgj.o
                    obtain ⟨hy0, hyd, hys⟩ := mem_ptsTo.1 (List.mem_of_getElem? hyy.o)
                    obtain ⟨t, ht⟩ := Option.isSome_iff_exists.1 hys
                    have ht2 : R2 k y.toNat = some t := by rw [hdb.o.rk]; exact ht
                    have hgp := (hdb.o.hf.lv.gen g (List.mem_of_getElem? hgj.o)).1
                    obtain ⟨htp, _, htk, _, _⟩ := hdb.o.hf.lv.row _ t ht2
                    have htk' : at0 t k = y := by rw [htk]; omega
                    obtain ⟨t', ht'⟩ := hdb.o.orb _ t g ht (List.mem_of_getElem? hgj0)
                    rw [htk'] at ht'
                    have ht2' : R2 k (at0 g y).toNat = some t' := by rw [hdb.o.rk]; exact ht'
                    have htp' := (hdb.o.hf.lv.row _ t' ht2').1
                    have hrest := hdb.o.rest hd1 hd20 hkd ht (List.mem_of_getElem? hgj0) (by rw [htk']; exact ht')
                    have hn3 : n3 = d := by rw [← hgI.1.length]; exact hgp.2
                    obtain ⟨bz, offz, z, rfl, hbz, hcz, hpz, hz1, hz2⟩ := hgI.1.at (k := y.toNat) (by omega)
                    have hze : z = at0 g y := (at0_of hpz.o).symm
                    have hzr := hgp.rng hy0 hyd
                    rw [← hze] at hzr ht2'
                    obtain ⟨hz0, hzd⟩ := hzr
                    have hyn3 : y < n3 := by omega
                    obtain ⟨ta, tn, tc', hct, _, _, htso⟩ := hCr.rep hkd (y := y.toNat) (by omega)
                    obtain ⟨_, htI, _⟩ := htso.o t ht2
                    obtain ⟨sa, sn, sc, hcs, _, _, hsso⟩ := hCr.rep hkd (y := z.toNat) (by omega)
                    obtain ⟨_, hsI, _⟩ := hsso.o t' ht2'
                    have htn : tn ≤ 1000000 := by have := htI.1.length; have := htp.2; omega
                    have hrng1 : Hd (∀ x ∈ t, 0 ≤ x ∧ x < n3) := by
                      have h1 := htp.1.range
                      rw [htp.2] at h1
                      rw [hn3]; exact h1
                    have htgp := Hd.i (htp.comp hgp)
                    have hsn : sn = d := by rw [← hsI.1.length]; exact htp'.2
                    have hwr := IntWalk.i64_in ((k : Int) + 1) (by omega)
                    have hrbk := (hCr.tt k hkd).2
                    have hlow1 : LowR r2 (k + 1) (rb k) := by unfold LowR; omega
                    have hlow2 : LowR r2 (k + 1) bz := .z (hgI.2 bz (by omega) ⟨offz, none, rfl⟩)
                    have H0 : Below wr.heap.size wr wr.drew := (Drew.refl _).one.below _
                    have hyy' : Hd ((ptsTo (R' k) d)[i]? = some y) := hyy
                    have ih' := ih (k + 1) (by omega) (by omega)
                    rw [show ((k + 1 : Nat) : Int) = (k : Int) + 1 by omega] at ih'
                    replace ih' := Hd.i ih'
                    clear htso hsso hpz
                    replace hgk2 := Hd.i hgk2
                    replace hn2 := Hd.i hn2
                    replace hgj0 := Hd.i hgj0
                    replace hys := Hd.i hys
                    replace ht := Hd.i ht
                    replace ht2 := Hd.i ht2
                    replace hgp := Hd.i hgp
                    replace htp := Hd.i htp
                    replace htk := Hd.i htk
                    replace htk' := Hd.i htk'
                    replace ht' := Hd.i ht'
                    replace ht2' := Hd.i ht2'
                    replace htp' := Hd.i htp'
                    replace hrest := Hd.i hrest
                    replace hn3 := Hd.i hn3
                    replace hze := Hd.i hze
                    replace hsn := Hd.i hsn
                    replace hrbk := Hd.i hrbk
                    replace hlow1 := Hd.i hlow1
                    replace hlow2 := Hd.i hlow2
                    go_wp2
                    go_region_held3 (fun w' => w'.cell? ⟨rb k, y.toNat, none⟩ = some (.slice ta tn tc') ∧ w'.cell? ⟨bz, offz + y.toNat, none⟩ = some (.int .i64 z) ∧ w'.cell? ⟨rb k, z.toNat, none⟩ = some (.slice sa sn sc) ∧ Kept (LowR r2 (k + 1)) wr w')
                      (first | exact keepL hct hcz hcs hlow1.o hlow2.o hlow1.o (.of_drew (Drew.refl _).one) | assumption | exact keepL hct hcz hcs hlow1.o hlow2.o hlow1.o (.of_below HA) | exact keepL hct hcz hcs hlow1.o hlow2.o hlow1.o (.of_below HI) | exact keepL hct hcz hcs hlow1.o hlow2.o hlow1.o (.of_below HC) | exact keepL hct hcz hcs hlow1.o hlow2.o hlow1.o hE9K)
                      (first
                        | (go_at_call_of 61 (Value.slice ta tn tc'); refine implCompose_c _ _ _ t _ _ _ g _ (htI.1.up (by assumption)) (hgI.1.up (by assumption)) htn hrng1 ?_; intro aA nA cA wA hbA hoA; have HA := below_on (w0 := wr) (by assumption) hbA; have hnA : nA ≤ 1000000 := (by have := hoA.length; rw [comp_length] at this; have := htp.o.2; omega))
                        | (go_at_call 62; refine implInverse_c _ _ _ t' _ (hsI.1.up (by assumption)) htp'.o.1 ?_; intro aI nI cI wI hbI hoI; have HI := below_on (w0 := wr) (by assumption) hbI; have hrg : Hd (∀ x ∈ comp t g, 0 ≤ x ∧ x < nI) := (by have h1 := htgp.o.1.range; rw [htgp.o.2] at h1; have h2 := hoI.length; rw [inv_length, htp'.o.2] at h2; rw [← h2]; exact h1))
                        | (go_at_call 61; (first | refine implCompose_c _ _ _ (comp t g) _ _ _ (inv t') _ (hoA.ints.up hbI) hoI.ints hnA hrg ?_ | refine implCompose_c _ _ _ (comp t g) _ _ _ (inv t') _ hoA.ints (hoI.ints.up hbA) hnA hrg ?_); intro aC nC cC wC hbC hoC; have HC := below_on (w0 := wr) (by assumption) hbC; have hCI : IntsD (RZ r2) wC aC nC (comp (comp t g) (inv t')) := .of_own hoC (fun b hb => hCr.new (le_on (w0 := wr) (by assumption) hb)))
                        | (go_at_call 74; refine ih'.o _ r2 gh2 R2 G2 _ _ _ (comp (comp t g) (inv t')) _ (hCr.up HC) hdb.o.hf.ok hCI hoC.cap hrest.o.1 ?_; intro w9 r9 gh9 R9 G9 hE9 hC9 hlow9 hpost9; have hE9K : Kept (LowR r2 (k + 1)) wr w9 := fun b hb hl => (hE9.kept b hb (Nat.lt_of_lt_of_le hl HC.size)).trans (HC.block b hl)))
                    all_goals
                      have hdb' := Hd.i (hdb.o.step hd1 hd20 hkd hyy'.o hgj0.o ht.o (by rw [htk'.o]; exact ht'.o) hpost9.o)
                      have hEf : Ev B k r2 wr r9 w9 := (Ev.of_below HC hCr.hB).trans (hE9.mono (Nat.le_succ k))
                      go_wp2
                      exact ⟨⟨j + 1, r9, gh9, R9, G9, by omega, by go_num, fun x hx => (hlow9.o x hx).trans (hgh2.o x hx), hC9, hdb', hY.ev hEf, hEr.trans hEf⟩, by simp [intOf]; omega⟩
                  · obtain rfl : j = n2 := by omega
                    have hrow := hdb.o
                    rw [hn2, hdb.o.gk] at hrow
                    have hrow' := Hd.i hrow.row
                    clear hrow hdb hgk2
                    replace hn2 := Hd.i hn2
                    go_wp2
                    exact ⟨⟨i + 1, r2, gh2, R2, G2, by omega, by go_num, hgh2, hCr, hrow', hY, hEr⟩, by simp [intOf]; omega⟩
              · obtain rfl : i = yn := by omega
                have hpost : Hd (AddPost d k p R G R2 G2) := by
                  have h := hdb.o
                  rw [← hyn.o] at h
                  exact h.full hd1 hd20 hkd hpm.o hok.o hs'.o hfull.o.mon (fun x hx => hfull.o.low x (by omega)) rfl
                have hgl2 : Hd (∀ x, x < k → gh2 x = gh x) := fun x hx => (hgh2.o x (by omega)).trans (hlow1.o x hx)
                clear hdb
                go_wp2
                go_end0
                exact H'.o _ _ _ _ _ hEr hCr hgl2 hpost
end Go.Proofs.Ytpijnjhheikmcaa
