/- Minimal block systems: the program; MinimalBlockSystem. -/
import Derived.Test.YtkojonjcikgikaaMinI
import Derived.Test.YtkojonjcikgikaaMinP
import Derived.Test.YtkojonjcikgikaaBlkI
namespace Go.Proofs.Ytkojonjcikgikaa
open Go.RowKit

section
variable {d : Nat} {gens : List (List Int)} {S : Int → Int → Prop} {L : List Int}
theorem LabS.mergeI (hS : Pts d S) (h : LabS d gens S L) (h0 : Own0 d L) {i j : Int} (hi : 0 ≤ i ∧ i < d) (hj : 0 ≤ j ∧ j < d) (he : Cg d gens S i j) :
    LabS d gens S (mrg L (mn (at0 L i) (at0 L j)) (mx (at0 L i) (at0 L j))) ∧ Own0 d (mrg L (mn (at0 L i) (at0 L j)) (mx (at0 L i) (at0 L j))) := by
  by_cases hle : at0 L i ≤ at0 L j
  · rw [show mn (at0 L i) (at0 L j) = at0 L i from if_pos hle, show mx (at0 L i) (at0 L j) = at0 L j from if_pos hle]
    exact ⟨h.merge hS hi hj he, h0.mrg h.lab (h.lab.at hi.1 hi.2) (h0 i hi.1 hi.2)⟩
  · rw [show mn (at0 L i) (at0 L j) = at0 L j from if_neg hle, show mx (at0 L i) (at0 L j) = at0 L i from if_neg hle]
    exact ⟨h.merge hS hj hi he.symm, h0.mrg h.lab (h.lab.at hj.1 hj.2) (h0 j hj.1 hj.2)⟩
theorem LabS.mergeI_lt (h : LabS d gens S L) {i j : Int} (hi : 0 ≤ i ∧ i < d) (hj : 0 ≤ j ∧ j < d) (hne : at0 L i ≠ at0 L j) : dst d (mrg L (mn (at0 L i) (at0 L j)) (mx (at0 L i) (at0 L j))) < dst d L := by
  by_cases hle : at0 L i ≤ at0 L j
  · rw [show mn (at0 L i) (at0 L j) = at0 L i from if_pos hle, show mx (at0 L i) (at0 L j) = at0 L j from if_pos hle]
    exact dst_mrg h.lab (h.mem hi) (h.mem hj) hne
  · rw [show mn (at0 L i) (at0 L j) = at0 L j from if_neg hle, show mx (at0 L i) (at0 L j) = at0 L i from if_neg hle]
    exact dst_mrg h.lab (h.mem hj) (h.mem hi) fun e => hne e.symm
theorem LabS.startI {x y : Int} (hx : 0 ≤ x ∧ x < (d : Int)) (hy : 0 ≤ y ∧ y < (d : Int)) : LabS d gens (fun i j => i = x ∧ j = y) (mrg (idl d) (mn x y) (mx x y)) ∧ Own0 d (mrg (idl d) (mn x y) (mx x y)) := by
  have hl := Lab.idl d
  have ex := idl_at0 hx.1 hx.2
  have ey := idl_at0 hy.1 hy.2
  by_cases hle : x ≤ y
  · rw [show mn x y = x from if_pos hle, show mx x y = y from if_pos hle]
    exact ⟨.start hx hy, (Own0.idl d).mrg hl hx ex⟩
  · rw [show mn x y = y from if_neg hle, show mx x y = x from if_neg hle]
    refine ⟨⟨hl.mrg hy, ?_, ?_⟩, (Own0.idl d).mrg hl hy ey⟩
    · have := SubE.mrg (gens := gens) (S := fun i j => i = x ∧ j = y) hl SubE.idl hy hx (.symm (.base ⟨rfl, rfl⟩))
      rwa [ex, ey] at this
    · rintro _ _ ⟨rfl, rfl⟩
      have := mrg_joins' hl hx hy
      rwa [ex, ey] at this
end
/-- How far the labels have come since a pass of the program began at D labels. -/
def PassI (d : Nat) (gens : List (List Int)) (L : List Int) (D : Nat) (ch : Bool) (k : Nat) (z : Int) : Prop := dst d L ≤ D ∧ (ch = true → dst d L < D) ∧ (ch = false → DoneI d gens L k z)
theorem PassI.start (d : Nat) (gens : List (List Int)) (L : List Int) : PassI d gens L (dst d L) false 0 0 := ⟨Nat.le_refl _, fun h => (by cases h), fun _ => DoneI.start d gens L⟩
section
variable {d : Nat} {gens : List (List Int)} {L : List Int} {D k : Nat} {ch : Bool} {z : Int}
theorem PassI.step (h : PassI d gens L D ch k z) {g : List Int} (hg : gens[k]? = some g) (hn : at0 L (at0 g z) = at0 L (at0 g (at0 L z))) : PassI d gens L D ch k (z + 1) := ⟨h.1, h.2.1, fun e => (h.2.2 e).step hg hn⟩
theorem PassI.gen (h : PassI d gens L D ch k (d : Int)) : PassI d gens L D ch (k + 1) 0 := ⟨h.1, h.2.1, fun e => (h.2.2 e).gen⟩
theorem PassI.turn (h : PassI d gens L D ch k z) {L' : List Int} (hlt : dst d L' < dst d L) (k' : Nat) (z' : Int) : PassI d gens L' D true k' z' := ⟨Nat.le_trans (Nat.le_of_lt hlt) h.1, fun _ => Nat.lt_of_lt_of_le hlt h.1, fun e => (by cases e)⟩
end

set_option maxRecDepth 100000 in
set_option maxHeartbeats 8000000 in
theorem implMin_c {K : Ending → World → Prop} (d : Nat) (a : Option Addr) (n cap : Nat) (xss : List (List Int)) (x y : Int) (w : World) (h1 : 1 ≤ d) (h2 : d ≤ 20) (hm : Mat w a n xss) (hg : Hd (Gs d xss)) (hx : 0 ≤ x ∧ x < (d : Int)) (hy : 0 ≤ y ∧ y < (d : Int)) (H : MakesR K w (pMin d xss x y)) :
    Calls Try.prog 80 #[.int .i64 d, .slice a n cap, .int .i64 x, .int .i64 y] w K := by
  have H' := Hd.i H; clear H
  have hln := Hd.i hm.length
  have hle := hm.le
  have hpts := Hd.i (pts_pair hx hy)
  obtain ⟨L0, hL0⟩ : ∃ L, mrg (idl d) (mn x y) (mx x y) = L := ⟨_, rfl⟩
  obtain ⟨hst, hs0⟩ := LabS.startI (gens := xss) hx hy
  rw [hL0] at hst hs0
  replace hst := Hd.i hst
  replace hs0 := Hd.i hs0
  replace hL0 := Hd.i hL0
  go_enter Try.func80, Try.ntmps80
  go_wp2_with fail
  refine implIdentity_c d _ (by omega) ?_
  intro a1 n1 c1 w1 hb1 ho1
  obtain rfl : n1 = d := by rw [← ho1.length, idl_length]
  obtain ⟨g, _, rfl, hgB, hgl, _, _, _⟩ := ho1.look (k := 0) (by omega)
  go_wp2_with fail
  refine implMerge_c w.heap.size g n1 c1 (idl n1) x y _ ho1 (by omega) (by omega) ?_
  intro w2 hw2 ho2
  rw [hL0.o] at ho2
  have hb2 := hb1.trans (hw2.below (B := w.heap.size) fun b o s e => by cases e; exact hgB)
  clear ho1 hb1 hw2
  go_wp2
  go_loopg [10] (2 * n1 + 2) (fun gk cv wr => ∃ (L : List Int) (ch : Bool), cv = .bool ch ∧ OwnI wr w.heap.size (some ⟨g, 0, none⟩) n1 c1 L ∧ Below w.heap.size w wr ∧ Hd (LabS n1 xss (fun i j => i = x ∧ j = y) L) ∧ Hd (Own0 n1 L) ∧ Hd (ch = false → ClE n1 xss L) ∧ Hd (2 * dst n1 L + (if ch = true then 1 else 0) ≤ gk))
  case atStart => exact ⟨L0, true, rfl, ho2, hb2, hst, hs0, fun h => (by cases h), (by have := dst_le n1 L0; show _ ≤ _; simp; omega)⟩
  case round =>
    clear ho2 hb2 hst hs0 hgl
    obtain ⟨L, ch, rfl, ho, hb, hL, h0, hcl, hgk⟩ := hrel
    cases ch with
    | true =>
      have hst := Hd.i (PassI.start n1 xss L)
      obtain ⟨D, hD⟩ : ∃ D, dst n1 L = D := ⟨_, rfl⟩
      rw [hD] at hst
      have hgk2 : Hd (2 * D + 1 ≤ gk) := by have := hgk.o; rw [hD] at this; exact Hd.i (by simpa using this)
      clear hgk hD hcl
      go_wp2
      go_loopw [10, 23] (fun cv kv wr => ∃ (k : Nat) (L : List Int) (ch : Bool), k ≤ n ∧ kv = .int .i64 k ∧ cv = .bool ch ∧ OwnI wr w.heap.size (some ⟨g, 0, none⟩) n1 c1 L ∧ Below w.heap.size w wr ∧ Hd (LabS n1 xss (fun i j => i = x ∧ j = y) L) ∧ Hd (Own0 n1 L) ∧ Hd (PassI n1 xss L D ch k 0)) (fun _ kv _ => n - (intOf kv).toNat)
      case atStart => exact ⟨0, L, false, Nat.zero_le _, rfl, rfl, ho, hb, hL, h0, hst⟩
      case round =>
        clear ho hb hL h0 hst
        obtain ⟨k, L, ch, hk, rfl, rfl, ho, hb, hL, h0, hP⟩ := hrel
        by_cases hlt : k < n
        · obtain ⟨b5, off5, a5, n5, c5, p, rfl, hbb, hcell0, hyg, hgI0, hc5⟩ := hm.at hlt
          have hcell := keep1 hcell0 hb
          have hgp := Hd.i (hg.o p (List.mem_of_getElem? hyg.o))
          have hn5 : Hd (n5 = n1) := by show n5 = n1; rw [← hgI0.length]; exact hgp.o.2
          go_wp2
          go_loopw [10, 28] (fun cv zv wr => ∃ (z : Nat) (L : List Int) (ch : Bool), z ≤ n1 ∧ zv = .int .i64 z ∧ cv = .bool ch ∧ OwnI wr w.heap.size (some ⟨g, 0, none⟩) n1 c1 L ∧ Below w.heap.size w wr ∧ Hd (LabS n1 xss (fun i j => i = x ∧ j = y) L) ∧ Hd (Own0 n1 L) ∧ Hd (PassI n1 xss L D ch k (z : Int))) (fun _ zv _ => n1 - (intOf zv).toNat)
          case atStart => exact ⟨0, L, ch, Nat.zero_le _, rfl, rfl, ho, hb, hL, h0, hP⟩
          case round =>
            clear ho hb hL h0 hP hcell
            obtain ⟨z, L, ch, hz, rfl, rfl, ho, hb, hL, h0, hP⟩ := hrel
            by_cases hltz : z < n1
            · have hgI := hgI0.up hb
              have hz5 : z < n5 := by have := hn5.o; omega
              have hzr : 0 ≤ (z : Int) ∧ (z : Int) < n1 := by omega
              obtain ⟨bg, offg, u, rfl, _, hcu, hu, hu1, hu2⟩ := hgI.at hz5
              obtain ⟨C, hcC, _, hC, hC1, hC2⟩ := ho.at' hltz
              have eC : at0 L z = C := at0_of (by rw [Int.toNat_natCast]; exact hC.o)
              have hCr := hL.o.lab.at hzr.1 hzr.2
              rw [eC] at hCr
              have hue : at0 p z = u := at0_of (by rw [Int.toNat_natCast]; exact hu.o)
              have hur := hgp.o.rng hzr.1 hzr.2
              rw [hue] at hur
              obtain ⟨_, _, v, e1, _, hcv, hv, hv1, hv2⟩ := hgI.at (k := C.toNat) (by have := hn5.o; omega)
              cases e1
              have hve : at0 p C = v := at0_of hv.o
              have hvr := hgp.o.rng hCr.1 hCr.2
              rw [hve] at hvr
              obtain ⟨A, hcA, _, hA, hA1, hA2⟩ := ho.at' (k := u.toNat) (by omega)
              obtain ⟨B, hcB, _, hB, hB1, hB2⟩ := ho.at' (k := v.toNat) (by omega)
              have eA : at0 L u = A := at0_of hA.o
              have eB : at0 L v = B := at0_of hB.o
              have i1 : u < (n1 : Int) := hur.2
              have i2 : v < (n1 : Int) := hvr.2
              have i3 : C < (n5 : Int) := by have := hn5.o; omega
              obtain ⟨i5, _⟩ := hur
              obtain ⟨i7, _⟩ := hvr
              obtain ⟨i8, _⟩ := hCr
              have hcg := Cg.img (List.mem_of_getElem? hyg.o) (hL.o.sub z C hzr.1 hzr.2 i8 (by omega) (by rw [eC]; have := h0.o z hzr.1 hzr.2; rw [eC] at this; exact this.symm))
              rw [hue, hve] at hcg
              have hAr : -9223372036854775808 ≤ A ∧ A ≤ 9223372036854775807 := ⟨hA1, hA2⟩
              have hBr : -9223372036854775808 ≤ B ∧ B ≤ 9223372036854775807 := ⟨hB1, hB2⟩
              replace hue := Hd.i hue
              replace hve := Hd.i hve
              replace eC := Hd.i eC
              replace hcg := Hd.i hcg
              by_cases hAB : A = B
              · have hP2 := Hd.i (hP.o.step hyg.o (by rw [hue.o, eC.o, hve.o, eA, eB]; exact hAB))
                subst hAB
                have hsame := Hd.i (show mrg L (mn A A) (mx A A) = L by unfold mn mx; rw [if_pos (Int.le_refl A)]; exact mrg_self L A)
                replace eA := Hd.i eA
                replace eB := Hd.i eB
                go_wp2
                go_region_with (go_at_call 103; refine implMerge_c w.heap.size g n1 c1 L A A _ ho.drew hAr hBr ?_; intro w3 hw3 ho3)
                all_goals
                  rw [hsame.o] at ho3
                  have hb3 := (hb.trans ((Drew.refl wr).one.below _)).trans (hw3.below (B := w.heap.size) fun b o s e => (by cases e; exact hgB))
                  go_wp2
                  exact ⟨⟨z + 1, L, ch, by omega, by go_num, rfl, ho3, hb3, hL, h0, hP2⟩, by simp [intOf]; omega⟩
              · have hne : at0 L u ≠ at0 L v := by rw [eA, eB]; exact hAB
                have hur : 0 ≤ u ∧ u < (n1 : Int) := ⟨i5, i1⟩
                have hvr : 0 ≤ v ∧ v < (n1 : Int) := ⟨i7, i2⟩
                obtain ⟨hLn, h0n⟩ := hL.o.mergeI hpts.o h0.o hur hvr hcg.o
                have hdl := hL.o.mergeI_lt hur hvr hne
                rw [eA, eB] at hLn h0n hdl
                have hLn' := Hd.i hLn
                have h0n' := Hd.i h0n
                have hPn := Hd.i (hP.o.turn hdl k ((z : Int) + 1))
                have hbe2 : (A != B) = true := by simpa using hAB
                replace hAB := Hd.i hAB
                replace eA := Hd.i eA
                replace eB := Hd.i eB
                replace hne := Hd.i hne
                clear hLn h0n hdl hur hvr
                go_wp2
                go_region_with (go_at_call 103; refine implMerge_c w.heap.size g n1 c1 L A B _ ho.drew hAr hBr ?_; rw [hbe2]; intro w3 hw3 ho3)
                all_goals
                  have hb3 := (hb.trans ((Drew.refl wr).one.below _)).trans (hw3.below (B := w.heap.size) fun b o s e => (by cases e; exact hgB))
                  go_wp2
                  exact ⟨⟨z + 1, _, true, by omega, by go_num, rfl, ho3, hb3, hLn', h0n', hPn⟩, by simp [intOf]; omega⟩
            · obtain rfl : z = n1 := by omega
              have hP2 := Hd.i hP.o.gen
              go_wp2
              exact ⟨⟨k + 1, L, ch, by omega, by go_num, rfl, ho, hb, hL, h0, hP2⟩, by simp [intOf]; omega⟩
        · obtain rfl : k = n := by omega
          have hclN : Hd (ch = false → ClE n1 xss L) := fun h => by
            have := hP.o.2.2 h
            rw [← hln.o] at this
            exact this.cl
          have hgn : Hd (2 * dst n1 L + (if ch = true then 1 else 0) ≤ gk - 1) := by
            have h1 := hP.o.1
            have h3 := hgk2.o
            show _ ≤ _
            cases ch with
            | true => have := hP.o.2.1 rfl; simp; omega
            | false => simp; omega
          have hgp := Hd.i (show gk - 1 < gk by have := hgk2.o; omega)
          go_wp2
          go_roundg (gk - 1)
          case measure => exact hgp.o
          case rel => exact ⟨L, ch, rfl, ho, hb, hL, h0, hclN, hgn⟩
    | false =>
      have hfin := hL.o.blks hg.o hpts.o (hcl.o rfl)
      go_wp2_with fail
      refine implPartition_c _ _ _ L _ ho.ints h2 ?_
      intro a6 n6 c6 hs6 w6 hb6 ho6
      rw [hfin] at ho6
      replace hfin := Hd.i hfin
      go_wp2
      exact H'.o _ _ _ _ _ (below_ups hb hb6 hb.size) (ho6.mono hb.size)
end Go.Proofs.Ytkojonjcikgikaa
