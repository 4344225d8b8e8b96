/- Minimal block systems: the reference. -/
import Derived.Test.YtkojonjcikgikaaMinS
import Derived.Test.YtkojonjcikgikaaGen
import Derived.Deep.LoopGhost
namespace Go.Proofs.Ytkojonjcikgikaa
open Go.RowKit

/-- What the labels are while they are merged. -/
structure LabS (d : Nat) (gens : List (List Int)) (S : Int → Int → Prop) (L : List Int) : Prop where
  lab : Lab d L
  sub : SubE d L (Cg d gens S)
  base : ∀ i j, S i j → at0 L i = at0 L j
section
variable {d : Nat} {gens : List (List Int)} {S : Int → Int → Prop} {L : List Int}
theorem LabS.merge (hS : Pts d S) (h : LabS d gens S L) {i j : Int} (hi : 0 ≤ i ∧ i < d) (hj : 0 ≤ j ∧ j < d) (he : Cg d gens S i j) : LabS d gens S (mrg L (at0 L i) (at0 L j)) :=
  ⟨h.lab.mrg (h.lab.at hi.1 hi.2), h.sub.mrg h.lab hi hj he, fun p q hs => mrg_keeps h.lab (hS p q hs).1 (hS p q hs).2 (h.base p q hs)⟩
theorem LabS.start {x y : Int} (hx : 0 ≤ x ∧ x < (d : Int)) (hy : 0 ≤ y ∧ y < (d : Int)) : LabS d gens (fun i j => i = x ∧ j = y) (mrg (idl d) x y) := by
  have hl := Lab.idl d
  have ex := idl_at0 hx.1 hx.2
  have ey := idl_at0 hy.1 hy.2
  refine ⟨hl.mrg hx, ?_, ?_⟩
  · have := SubE.mrg (gens := gens) (S := fun i j => i = x ∧ j = y) hl SubE.idl hx hy (.base ⟨rfl, rfl⟩)
    rwa [ex, ey] at this
  · rintro _ _ ⟨rfl, rfl⟩
    have := mrg_joins hl hx hy
    rwa [ex, ey] at this
theorem LabS.blks (hg : Gs d gens) (hS : Pts d S) (h : LabS d gens S L) (hc : ClE d gens L) : blks (KerL L) d d = Go.Proofs.Ytkojonjcikgikaa.blks (Cg d gens S) d d :=
  blks_congr fun _ _ hi hj => ker_iff hg hS h.sub h.base hc hi hj
theorem LabS.mem (h : LabS d gens S L) {x : Int} (hx : 0 ≤ x ∧ x < d) : at0 L x ∈ L := at0_mem hx.1 (by rw [h.lab.len]; exact hx.2)
end
theorem pts_pair {d : Nat} {x y : Int} (hx : 0 ≤ x ∧ x < (d : Int)) (hy : 0 ≤ y ∧ y < (d : Int)) : Pts d (fun i j => i = x ∧ j = y) := by
  rintro _ _ ⟨rfl, rfl⟩; exact ⟨hx, hy⟩

/-- How far the labels have come since a pass began at D labels. -/
def PassS (d : Nat) (gens : List (List Int)) (L : List Int) (D : Nat) (ch : Bool) (k : Nat) (i j : Int) : Prop := dst d L ≤ D ∧ (ch = true → dst d L < D) ∧ (ch = false → DoneS d gens L k i j)
theorem PassS.start (d : Nat) (gens : List (List Int)) (L : List Int) : PassS d gens L (dst d L) false 0 0 0 := ⟨Nat.le_refl _, fun h => (by cases h), fun _ => DoneS.start d gens L⟩
section
variable {d : Nat} {gens : List (List Int)} {L : List Int} {D k : Nat} {ch : Bool} {i j : Int}
theorem PassS.step (h : PassS d gens L D ch k i j) {g : List Int} (hg : gens[k]? = some g) (hn : at0 L i = at0 L j → at0 L (at0 g i) = at0 L (at0 g j)) : PassS d gens L D ch k i (j + 1) := ⟨h.1, h.2.1, fun e => (h.2.2 e).step hg hn⟩
theorem PassS.row (h : PassS d gens L D ch k i i) : PassS d gens L D ch k (i + 1) 0 := ⟨h.1, h.2.1, fun e => (h.2.2 e).row⟩
theorem PassS.gen (h : PassS d gens L D ch k (d : Int) 0) : PassS d gens L D ch (k + 1) 0 0 := ⟨h.1, h.2.1, fun e => (h.2.2 e).gen⟩
theorem PassS.turn (h : PassS d gens L D ch k i j) {L' : List Int} (hlt : dst d L' < dst d L) (k' : Nat) (i' j' : Int) : PassS d gens L' D true k' i' j' := ⟨Nat.le_trans (Nat.le_of_lt hlt) h.1, fun _ => Nat.lt_of_lt_of_le hlt h.1, fun e => (by cases e)⟩
end

set_option maxRecDepth 100000 in
set_option maxHeartbeats 8000000 in
theorem specMin_c {K : Ending → World → Prop} (d : Nat) (a : Option Addr) (n cap : Nat) (xss : List (List Int)) (x y : Int) (w : World) (h2 : d ≤ 20) (hm : Mat w a n xss) (hg : Hd (Gs d xss)) (hx : 0 ≤ x ∧ x < (d : Int)) (hy : 0 ≤ y ∧ y < (d : Int)) (H : MakesR K w (pMin d xss x y)) :
    Calls Try.prog 58 #[.int .i64 d, .slice a n cap, .int .i64 x, .int .i64 y] w K := by
  have H' := Hd.i H; clear H
  have hln := Hd.i hm.length
  have hle := hm.le
  have hpts := Hd.i (pts_pair hx hy)
  have hstart := LabS.start (gens := xss) hx hy
  obtain ⟨L0, hL0⟩ : ∃ L, mrg (idl d) x y = L := ⟨_, rfl⟩
  rw [hL0] at hstart
  have hst := Hd.i hstart
  replace hL0 := Hd.i hL0
  clear hstart
  go_enter Try.func58, Try.ntmps58
  go_wp2_with fail
  refine specIdentity_c d _ (by omega) ?_
  intro a1 n1 c1 w1 hb1 ho1
  have hn1 : n1 ≤ 1000000 := by have := ho1.length; rw [idl_length] at this; omega
  go_wp2_with fail
  refine specMerge_c _ _ _ (idl d) x y _ ho1.ints hn1 (by omega) ?_
  intro a2 n2 c2 w2 hb2 ho2
  rw [hL0.o] at ho2
  have hb12 := below_ups hb1 hb2 hb1.size
  have ho2' := ho2.mono hb1.size
  clear ho1 ho2 hb1 hb2
  go_wp2
  go_loopg [9, 10] (2 * d + 2) (fun gk lv cv wr => ∃ (L : List Int) (c : Option Addr) (m capc : Nat) (ch : Bool), lv = .slice c m capc ∧ cv = .bool ch ∧ OwnI wr w.heap.size c m capc L ∧ Below w.heap.size w wr ∧ Hd (LabS d xss (fun i j => i = x ∧ j = y) L) ∧ Hd (ch = false → ClE d xss L) ∧ Hd (2 * dst d L + (if ch = true then 1 else 0) ≤ gk))
  case atStart => exact ⟨L0, a2, n2, c2, true, rfl, rfl, ho2', hb12, hst, fun h => (by cases h), (by have := dst_le d L0; show _ ≤ _; simp; omega)⟩
  case round =>
    clear ho2' hb12 hst
    obtain ⟨L, c, m, capc, ch, rfl, rfl, ho, hb, hL, hcl, hgk⟩ := hrel
    cases ch with
    | true =>
      have hst := Hd.i (PassS.start d xss L)
      obtain ⟨D, hD⟩ : ∃ D, dst d L = D := ⟨_, rfl⟩
      rw [hD] at hst
      have hgk2 : Hd (2 * D + 1 ≤ gk) := by have := hgk.o; rw [hD] at this; exact Hd.i (by simpa using this)
      clear hgk hD hcl
      go_wp2
      go_loopw [9, 10, 11] (fun lv cv kv wr => ∃ (k : Nat) (L : List Int) (c : Option Addr) (m capc : Nat) (ch : Bool), k ≤ n ∧ kv = .int .i64 k ∧ lv = .slice c m capc ∧ cv = .bool ch ∧ OwnI wr w.heap.size c m capc L ∧ Below w.heap.size w wr ∧ Hd (LabS d xss (fun i j => i = x ∧ j = y) L) ∧ Hd (PassS d xss L D ch k 0 0)) (fun _ _ kv _ => n - (intOf kv).toNat)
      case atStart => exact ⟨0, L, c, m, capc, false, Nat.zero_le _, rfl, rfl, rfl, ho, hb, hL, hst⟩
      case round =>
        clear ho hb hL hst
        obtain ⟨k, L, c, m, capc, ch, hk, rfl, rfl, rfl, ho, hb, hL, hP⟩ := hrel
        by_cases hlt : k < n
        · obtain ⟨b5, off5, a5, n5, c5, g, rfl, hbb, hcell0, hyg, hgI0, hc5⟩ := hm.at hlt
          have hgp := Hd.i (hg.o g (List.mem_of_getElem? hyg.o))
          have hn5 : Hd (n5 = d) := by show n5 = d; rw [← hgI0.length]; exact hgp.o.2
          go_wp2
          go_loopw [9, 10, 12] (fun lv cv iv wr => ∃ (i : Nat) (L : List Int) (c : Option Addr) (m capc : Nat) (ch : Bool), i ≤ d ∧ iv = .int .i64 i ∧ lv = .slice c m capc ∧ cv = .bool ch ∧ OwnI wr w.heap.size c m capc L ∧ Below w.heap.size w wr ∧ Hd (LabS d xss (fun i j => i = x ∧ j = y) L) ∧ Hd (PassS d xss L D ch k (i : Int) 0)) (fun _ _ iv _ => d - (intOf iv).toNat)
          case atStart => exact ⟨0, L, c, m, capc, ch, Nat.zero_le _, rfl, rfl, rfl, ho, hb, hL, hP⟩
          case round =>
            clear ho hb hL hP
            obtain ⟨i, L, c, m, capc, ch, hi, rfl, rfl, rfl, ho, hb, hL, hP⟩ := hrel
            by_cases hlti : i < d
            · go_wp2
              go_loopw [9, 10, 13] (fun lv cv jv wr => ∃ (j : Nat) (L : List Int) (c : Option Addr) (m capc : Nat) (ch : Bool), j ≤ i ∧ jv = .int .i64 j ∧ lv = .slice c m capc ∧ cv = .bool ch ∧ OwnI wr w.heap.size c m capc L ∧ Below w.heap.size w wr ∧ Hd (LabS d xss (fun i j => i = x ∧ j = y) L) ∧ Hd (PassS d xss L D ch k (i : Int) (j : Int))) (fun _ _ jv _ => i - (intOf jv).toNat)
              case atStart => exact ⟨0, L, c, m, capc, ch, Nat.zero_le _, rfl, rfl, rfl, ho, hb, hL, hP⟩
              case round =>
                clear ho hb hL hP
                obtain ⟨j, L, c, m, capc, ch, hj, rfl, rfl, rfl, ho, hb, hL, hP⟩ := hrel
                by_cases hltj : j < i
                · have hcell := keep1 hcell0 hb
                  have hgI := hgI0.up hb
                  have hmd : m = d := by rw [← ho.length]; exact hL.o.lab.len
                  have hi2 : i < n5 := by have := hn5.o; omega
                  have hj2 : j < n5 := by have := hn5.o; omega
                  obtain ⟨bg, offg, u, rfl, _, hcu, hu, hu1, hu2⟩ := hgI.at hi2
                  obtain ⟨bg2, offg2, v, eg, _, hcv, hv, hv1, hv2⟩ := hgI.at hj2
                  cases eg
                  have hue : at0 g i = u := by unfold at0; rw [Int.toNat_natCast, hu.o]; rfl
                  have hve : at0 g j = v := by unfold at0; rw [Int.toNat_natCast, hv.o]; rfl
                  have hur := hgp.o.rng (x := (i : Int)) (by omega) (by omega)
                  have hvr := hgp.o.rng (x := (j : Int)) (by omega) (by omega)
                  rw [hue] at hur
                  rw [hve] at hvr
                  obtain ⟨bl, offl, A, rfl, _, hcA, hA, hA1, hA2⟩ := ho.ints.at (k := u.toNat) (by omega)
                  obtain ⟨_, _, B, e1, _, hcB, hB, hB1, hB2⟩ := ho.ints.at (k := v.toNat) (by omega)
                  cases e1
                  obtain ⟨_, _, P, e1, _, hcP, hP', hP1, hP2⟩ := ho.ints.at (k := i) (by omega)
                  cases e1
                  obtain ⟨_, _, Q, e1, _, hcQ, hQ, hQ1, hQ2⟩ := ho.ints.at (k := j) (by omega)
                  cases e1
                  have eA : at0 L (at0 g i) = A := by rw [hue]; exact at0_of hA.o
                  have eB : at0 L (at0 g j) = B := by rw [hve]; exact at0_of hB.o
                  have eP : at0 L i = P := at0_of (by rw [Int.toNat_natCast]; exact hP'.o)
                  have eQ : at0 L j = Q := at0_of (by rw [Int.toNat_natCast]; exact hQ.o)
                  have i1 : u < (n5 : Int) := by have := hn5.o; omega
                  have i2 : v < (n5 : Int) := by have := hn5.o; omega
                  have i3 : u < (m : Int) := by omega
                  have i4 : v < (m : Int) := by omega
                  obtain ⟨i5, i6⟩ := hur
                  obtain ⟨i7, i8⟩ := hvr
                  have hir : 0 ≤ (i : Int) ∧ (i : Int) < d := by omega
                  have hjr : 0 ≤ (j : Int) ∧ (j : Int) < d := by omega
                  have hur := hgp.o.rng hir.1 hir.2
                  have hvr := hgp.o.rng hjr.1 hjr.2
                  have hm20 : m ≤ 1000000 := by omega
                  have i9 : i < m := by omega
                  have i10 : j < m := by omega
                  replace hmd := Hd.i hmd
                  replace hue := Hd.i hue
                  replace hve := Hd.i hve
                  by_cases hPQ : P = Q
                  · by_cases hAB : A = B
                    · have hP2' := Hd.i (hP.o.step hyg.o (by rw [eA, eB]; intro _; exact hAB))
                      subst hPQ
                      subst hAB
                      replace eA := Hd.i eA
                      replace eB := Hd.i eB
                      replace eP := Hd.i eP
                      replace eQ := Hd.i eQ
                      replace hur := Hd.i hur
                      replace hvr := Hd.i hvr
                      go_wp2
                      go_quiet (fail)
                      go_wp2
                      exact ⟨⟨j + 1, L, _, m, capc, ch, by omega, by go_num, rfl, rfl, ho.drewN nq, hb.trans (((Drew.refl _).step nq).below _), hL, hP2'⟩, by simp [intOf]; omega⟩
                    · have hcg := Cg.img (List.mem_of_getElem? hyg.o) (hL.o.sub i j hir.1 hir.2 hjr.1 hjr.2 (by rw [eP, eQ]; exact hPQ))
                      have hLn := hL.o.merge hpts.o hur hvr hcg
                      have hdl := dst_mrg hL.o.lab (hL.o.mem hur) (hL.o.mem hvr) (by rw [eA, eB]; exact hAB)
                      rw [eA, eB] at hLn hdl
                      have hLn' := Hd.i hLn
                      have hPn := Hd.i (hP.o.turn hdl k (i : Int) ((j : Int) + 1))
                      have hbe : (A == B) = false := by simpa using hAB
                      have hbe2 : (A != B) = true := by simpa using hAB
                      subst hPQ
                      replace hAB := Hd.i hAB
                      replace eA := Hd.i eA
                      replace eB := Hd.i eB
                      replace eP := Hd.i eP
                      replace eQ := Hd.i eQ
                      replace hur := Hd.i hur
                      replace hvr := Hd.i hvr
                      clear hLn hdl hcg
                      go_wp2
                      go_quiet (fail)
                      go_wp2_with fail
                      refine specMerge_c _ _ _ L A B _ (ho.ints.drewN nq) hm20 ⟨hA1, hA2⟩ ?_
                      intro a6 n6 c6 w6 hb6 ho6
                      have hbd := hb.trans (((Drew.refl _).step nq).below _)
                      go_wp2
                      exact ⟨⟨j + 1, mrg L A B, a6, n6, c6, true, by omega, by go_num, rfl, rfl, ho6.mono hbd.size, below_ups hbd hb6 hbd.size, hLn', hPn⟩, by simp [intOf]; omega⟩
                  · have hP2' := Hd.i (hP.o.step hyg.o (by rw [eP, eQ]; intro h; exact absurd h hPQ))
                    have hbe : (P == Q) = false := by simpa using hPQ
                    replace hPQ := Hd.i hPQ
                    replace eA := Hd.i eA
                    replace eB := Hd.i eB
                    replace eP := Hd.i eP
                    replace eQ := Hd.i eQ
                    replace hur := Hd.i hur
                    replace hvr := Hd.i hvr
                    go_wp2
                    go_quiet (fail)
                    go_wp2
                    exact ⟨⟨j + 1, L, _, m, capc, ch, by omega, by go_num, rfl, rfl, ho.drewN nq, hb.trans (((Drew.refl _).step nq).below _), hL, hP2'⟩, by simp [intOf]; omega⟩
                · obtain rfl : j = i := by omega
                  have hP2' := Hd.i hP.o.row
                  go_wp2
                  exact ⟨⟨j + 1, L, c, m, capc, ch, by omega, by go_num, rfl, rfl, ho, hb, hL, hP2'⟩, by simp [intOf]; omega⟩
            · obtain rfl : i = d := by omega
              have hP2' := Hd.i hP.o.gen
              go_wp2
              exact ⟨⟨k + 1, L, c, m, capc, ch, by omega, by go_num, rfl, rfl, ho, hb, hL, hP2'⟩, by simp [intOf]; omega⟩
        · obtain rfl : k = n := by omega
          have hclN : Hd (ch = false → ClE d xss L) := fun h => by
            have := hP.o.2.2 h
            rw [← hln.o] at this
            exact this.cl
          have hgn : Hd (2 * dst d L + (if ch = true then 1 else 0) ≤ gk - 1) := by
            have h1 := hP.o.1
            have h3 := hgk2.o
            show _ ≤ _
            cases ch with
            | true => have := hP.o.2.1 rfl; simp; omega
            | false => simp; omega
          have hgp := Hd.i (show gk - 1 < gk by have := hgk2.o; omega)
          go_wp2
          go_roundg (gk - 1)
          case measure => exact hgp.o
          case rel => exact ⟨L, c, m, capc, ch, rfl, rfl, ho, hb, hL, hclN, hgn⟩
    | false =>
      have hfin := hL.o.blks hg.o hpts.o (hcl.o rfl)
      have hlab := hL.o.lab.len
      have hmd : m = d := by rw [← ho.length]; exact hlab
      subst hmd
      go_wp2_with fail
      refine specLabels_c _ _ _ L _ ho.ints h2 ?_
      intro a6 n6 c6 hs6 w6 hb6 ho6
      rw [hfin] at ho6
      replace hfin := Hd.i hfin
      go_wp2
      exact H'.o _ _ _ _ _ (below_ups hb hb6 hb.size) (ho6.mono hb.size)
end Go.Proofs.Ytkojonjcikgikaa
