/- DerivedSubgroupOrder of the program. -/
import Derived.Test.YtpijnjhheikmcaaDerL
import Derived.Test.YtpijnjhheikmcaaConj
namespace Go.Proofs.Ytpijnjhheikmcaa
open Go.RowKit

theorem Pm.rngN {d m : Nat} {p : List Int} (hp : Pm d p) (h : m = d) : ∀ x ∈ p, 0 ≤ x ∧ x < (m : Int) := fun x hx => by have := hp.1.range x hx; rw [hp.2] at this; rw [h]; exact this
theorem genSet_nil {d : Nat} (h1 : 1 ≤ d) (h2 : d ≤ 20) : GenSet (d : Int) [] := ⟨by omega, by omega, by simp, by simp⟩
theorem Cm.gs {d : Nat} {xss L : List (List Int)} {i k : Nat} (h : Cm d xss L i k) : Gs d L := fun g hg => (h.nc g hg).1
theorem Cj.gs {d : Nat} {xss L : List (List Int)} {i k : Nat} (h : Cj d xss L i k) : Gs d L := fun g hg => (h.nc g hg).1

set_option maxHeartbeats 8000000 in
set_option maxRecDepth 100000 in
theorem topImplDerivedSubgroupOrder {R : Ending → World → Prop} {B : Nat} (z : Int) (a : Option Addr) (n cap : Nat) (hs : List Hdr) (xss : List (List Int)) (w : World) (_ : -9223372036854775808 ≤ z ∧ z ≤ 9223372036854775807) (hm0 : OwnH w B a n cap hs xss)
    (H : Gives R w (.int .i64 (pDer z xss))) : Calls Try.prog 38 #[.int .i64 z, .slice a n cap] w R := by
  have H' := Hd.i H; clear H
  have hm := hm0.rows
  clear hm0
  by_cases hg : GenSet z xss
  case neg =>
    have hdec := Hd.i (decide_eq_false hg)
    have e := Hd.i (show pDer z xss = 0 by unfold pDer; rw [if_neg hg])
    replace hg := Hd.i hg
    go_enter Try.func38, Try.ntmps38
    go_wp2_with (go_at_call 52; refine implGenSet_c z _ _ _ xss _ hm ?_; intro w1 hb1; rw [hdec.o])
    have hf := H'.o _ hb1
    rw [e.o] at hf
    exact hf
  have hdec := Hd.i (decide_eq_true hg)
  obtain ⟨d, rfl⟩ := genSet_d hg
  have h1 : 1 ≤ d := by have := hg.1; omega
  have h2 : d ≤ 20 := by have := hg.2.1; omega
  have hval := Hd.i (show pDer (d : Int) xss = (derO d xss : Nat) by unfold pDer; rw [if_pos hg, Int.toNat_natCast])
  have hgs := Hd.i (gs_of hg)
  have hln := Hd.i hm.length
  have hn8 : n ≤ 8 := by have := hg.2.2.1; have := hln.o; omega
  replace hg := Hd.i hg
  go_enter Try.func38, Try.ntmps38
  go_wp2_with fail
  refine implGenSet_c (d : Int) _ _ _ xss _ hm ?_
  intro w1 hb1
  rw [hdec.o]
  have hm1 := hm.up hb1
  go_wp2_with fail
  refine implNew_c d none 0 0 [] w1 (Mat.nil none) (genSet_nil h1 h2) ?_
  intro w2 r cp gb tb gc tc rb gh R1 G hb2 hC hBu
  obtain ⟨B0, hB0⟩ : ∃ B, B = w1.heap.size := ⟨_, rfl⟩
  rw [← hB0] at hC hb2
  obtain ⟨o1, ho1⟩ : ∃ o, o = Obj.cells #[.pointer (some ⟨cp, 0, none⟩)] 43 := ⟨_, rfl⟩
  obtain ⟨o2, ho2⟩ : ∃ o, o = Obj.cells #[.slice none 0 0] 22 := ⟨_, rfl⟩
  obtain ⟨w3, hw3⟩ : ∃ w3, w3 = (w2.alloc o1).alloc o2 := ⟨_, rfl⟩
  have hBw2 := hC.hB
  have hbA : Below w2.heap.size w2 (w2.alloc o1) := (Below.refl _ _).alloc (Nat.le_refl _) o1
  have hbB : Below (w2.alloc o1).heap.size (w2.alloc o1) w3 := by rw [hw3]; exact (Below.refl _ _).alloc (Nat.le_refl _) o2
  have hsA : (w2.alloc o1).heap.size = w2.heap.size + 1 := by simp
  have hs3 : w3.heap.size = w2.heap.size + 2 := by rw [hw3]; simp
  have hb3 : Below B0 w1 w3 := hb2.trans ((hbA.mono hBw2).trans (hbB.mono (by omega)))
  have hIS : IS w3 B0 d cp gb tb gc tc rb w2.heap.size (w2.heap.size + 1) [] := by
    have hCA := hC.up hbA
    obtain ⟨hC3, he3⟩ := hCA.claimV hbB hCA.hB (g := w2.heap.size + 1) (by omega) (by omega) 201
    refine ⟨roleS r (w2.heap.size + 1) 201, gh, R1, G, none, 0, 0, hC3, ⟨hBu.o, Nat.zero_le _⟩, ?_, ?_, ?_, ?_, by simp [roleS, Hd], LQ.nil _ _ _⟩
    · refine keep1 ?_ hbB
      rw [ho1, World.cell?_alloc_at _ _ _ _ rfl]; rfl
    · show roleS r _ 201 _ = 0
      rw [he3 _ (by omega)]
      exact hC.new (Nat.le_refl _)
    · rw [hw3, ho2, World.cell?_alloc_at _ _ _ _ (by rw [hsA])]; rfl
    · rw [hw3, ho2, World.frozen?_alloc_at _ _ _ _ (by rw [hsA])]
  obtain ⟨bl, hbl⟩ : ∃ b, b = w2.heap.size + 1 := ⟨_, rfl⟩
  obtain ⟨bc, hbc⟩ : ∃ b, b = w2.heap.size := ⟨_, rfl⟩
  rw [← hbl, ← hbc] at hIS
  go_wp2
  rw [← ho1, ← ho2, ← hw3, ← hbl, ← hbc]
  have hcm0 := Hd.i (Cm.start d xss)
  clear hC hBu hbA hbB hsA hs3 hBw2 hb2
  replace hw3 := Hd.i hw3
  replace ho1 := Hd.i ho1
  replace ho2 := Hd.i ho2
  replace hbl := Hd.i hbl
  replace hbc := Hd.i hbc
  have hB0' : B0 ≤ w1.heap.size := by rw [hB0]; exact Nat.le_refl _
  have hB0'' : w1.heap.size ≤ B0 := by rw [hB0]; exact Nat.le_refl _
  replace hB0 := Hd.i hB0
  go_loopw [24] (fun iv wr => ∃ (i : Nat) (L : List (List Int)), i ≤ n ∧ iv = .int .i64 i ∧ IS wr B0 d cp gb tb gc tc rb bc bl L ∧ Hd (Cm d xss L i 0) ∧ Below B0 w1 wr) (fun iv _ => n - (intOf iv).toNat)
  case atStart => exact ⟨0, [], Nat.zero_le _, rfl, hIS, hcm0.o, hb3⟩
  case round =>
    clear hIS hcm0 hb3
    obtain ⟨i, L, hi, rfl, hIS, hcm, hb⟩ := hrel
    have hbu : Below w1.heap.size w1 wr := hb.mono (by rw [← hB0.o]; exact Nat.le_refl _)
    by_cases hlt : i < n
    · obtain ⟨b1, off1, a3, n3, c3, p, rfl, hbb, hcell1, hp, hpI1, _⟩ := hm1.at hlt
      have hcell := keep1 hcell1 hbu
      have hpp := Hd.i (hgs.o p (List.mem_of_getElem? hp.o))
      obtain ⟨wo, rfl⟩ : ∃ wo, wo = wr := ⟨wr, rfl⟩
      have hn3 := Hd.i (show n3 = d by rw [← hpI1.length]; exact hpp.o.2)
      go_wp2
      go_loopw [30] (fun kv wr => ∃ (k : Nat) (L : List (List Int)), k ≤ n ∧ kv = .int .i64 k ∧ IS wr B0 d cp gb tb gc tc rb bc bl L ∧ Hd (Cm d xss L i k) ∧ Below B0 w1 wr) (fun kv _ => n - (intOf kv).toNat)
      case atStart => exact ⟨0, L, Nat.zero_le _, rfl, hIS, hcm, hb⟩
      case round =>
        clear hIS hcm hb hbu hcell
        obtain ⟨k, L, hk, rfl, hIS, hcm, hb⟩ := hrel
        have hbu : Below w1.heap.size w1 wr := hb.mono (by rw [← hB0.o]; exact Nat.le_refl _)
        have hmr := hm1.up hbu
        have hpI := hpI1.up hbu
        by_cases hltk : k < n
        · obtain ⟨b2, off2, a4, n4, c4, q, e2, hbb2, hcell2, hq, hqI, _⟩ := hmr.at hltk
          cases e2
          have hqq := Hd.i (hgs.o q (List.mem_of_getElem? hq.o))
          have hn4 := Hd.i (show n4 = d by rw [← hqI.length]; exact hqq.o.2)
          have hgl := Hd.i hcm.o.gs
          have hsr := hb.size
          go_wp2_with fail
          refine implInverse_c _ _ _ p _ hpI hpp.o.1 ?_
          intro a5 n5 c5 w5 hb5 ho5
          have hn5 := Hd.i (show n5 = d by rw [← ho5.length]; exact hpp.o.inv.2)
          go_wp2_with fail
          refine implInverse_c _ _ _ q _ (hqI.up hb5) hqq.o.1 ?_
          intro a6 n6 c6 w6 hb6 ho6
          have hn6 := Hd.i (show n6 = d by rw [← ho6.length]; exact hqq.o.inv.2)
          go_wp2_with fail
          refine implCompose_c _ _ _ (inv p) _ _ _ (inv q) _ (ho5.up hb6).ints ho6.ints (by have := hn5.o; omega) (hpp.o.inv.rngN hn6.o) ?_
          intro a7 n7 c7 w7 hb7 ho7
          have hn7 := Hd.i (show n7 = d by rw [← ho7.length]; exact (hpp.o.inv.comp hqq.o.inv).2)
          have hb57 := below_on (below_on hb5 hb6) hb7
          go_wp2_with fail
          refine implCompose_c _ _ _ p _ _ _ q _ (hpI.up hb57) (hqI.up hb57) (by have := hn3.o; omega) (hpp.o.rngN hn4.o) ?_
          intro a8 n8 c8 w8 hb8 ho8
          have hn8' := Hd.i (show n8 = d by rw [← ho8.length]; exact (hpp.o.comp hqq.o).2)
          go_wp2_with fail
          refine implCompose_c _ _ _ (comp (inv p) (inv q)) _ _ _ (comp p q) _ (ho7.up hb8).ints ho8.ints (by have := hn7.o; omega) ((hpp.o.inv.comp hqq.o.inv).rngN hn8'.o) ?_
          intro a9 n9 c9 w9 hb9 ho9
          have hb59 := below_on (below_on hb57 hb8) hb9
          have hs58 : wr.heap.size ≤ w8.heap.size := (below_on hb57 hb8).size
          have hcmt := Hd.i (show Pm d (comp (comp (inv p) (inv q)) (comp p q)) from hpp.o.cmt hqq.o)
          go_wp2_with fail
          refine derAdd_c B0 d cp gb tb gc tc rb bc bl L wr w9 a9 n9 c9 (comp (comp (inv p) (inv q)) (comp p q)) hIS hb59 (ho9.mono hs58) hcmt hgl ?_
          intro w10 L' hA hb10 hS10
          have hcm2 := Hd.i (hcm.o.step hgs.o hp.o hq.o hA.o)
          have hbW : Below B0 w1 w10 := (hb.trans (hb59.mono (Nat.le_trans hB0' hsr))).trans hb10
          go_wp2
          exact ⟨⟨k + 1, L', by omega, by go_num, hS10, hcm2.o, hbW⟩, by simp [intOf]; omega⟩
        · obtain rfl : k = n := by omega
          have hcm2 := Hd.i (show Cm d xss L (i + 1) 0 by have := hcm.o; rw [← hln.o] at this; exact this.row)
          go_wp2
          exact ⟨⟨i + 1, L, by omega, by go_num, hIS, hcm2.o, hb⟩, by simp [intOf]; omega⟩
    · obtain rfl : i = n := by omega
      rw [← hln.o] at hcm
      have hcj0 := Hd.i (Cj.start hcm.o)
      clear hbu
      go_wp2
      go_loopw [12] (fun iv wr => ∃ (t : Nat) (L : List (List Int)), t ≤ L.length ∧ iv = .int .i64 t ∧ IS wr B0 d cp gb tb gc tc rb bc bl L ∧ Hd (Cj d xss L t 0) ∧ Below B0 w1 wr) (fun iv _ => 401 - (intOf iv).toNat)
      case atStart => exact ⟨0, L, Nat.zero_le _, rfl, hIS, hcj0.o, hb⟩
      case round =>
        clear hIS hcm hb hcj0
        obtain ⟨t, L, ht, rfl, hIS, hcj, hb⟩ := hrel
        have hL400 := hIS.len
        obtain ⟨r, gh, R2, G2, la, ln, lcap, hC, hBu, hcc, hrc, hcl, hfl, hrl, hLq⟩ := id hIS
        have hll := Hd.i hLq.length
        have hln2 : ln ≤ 400 := by have := hll.o; omega
        have htl : t ≤ ln := by have := hll.o; omega
        clear hC hBu hrc hfl hrl hLq
        by_cases hltt : t < ln
        · have hltL : t < L.length := by have := hll.o; omega
          obtain ⟨wo, rfl⟩ : ∃ wo, wo = wr := ⟨wr, rfl⟩
          clear hL400
          go_wp2
          clear hcl hcc hll hln2 htl hltt ht
          go_loopw [55] (fun kv wr => ∃ (k : Nat) (L : List (List Int)), k ≤ i ∧ kv = .int .i64 k ∧ t < L.length ∧ IS wr B0 d cp gb tb gc tc rb bc bl L ∧ Hd (Cj d xss L t k) ∧ Below B0 w1 wr) (fun kv _ => i - (intOf kv).toNat)
          case atStart => exact ⟨0, L, Nat.zero_le _, rfl, hltL, hIS, hcj, hb⟩
          case round =>
            clear hIS hcj hb hltL
            obtain ⟨k, L, hk, rfl, hltL, hIS, hcj, hb⟩ := hrel
            have hL400 := hIS.len
            have hbu : Below w1.heap.size w1 wr := hb.mono (by rw [← hB0.o]; exact Nat.le_refl _)
            by_cases hltk : k < i
            · obtain ⟨b2, off2, a4, n4, c4, x, rfl, hbb2, hcell2, hx, hxI, _⟩ := (hm1.up hbu).at hltk
              obtain ⟨r, gh, R2, G2, la, ln, lcap, hC, hBu, hcc, hrc, hcl, hfl, hrl, hLq⟩ := id hIS
              have hll := hLq.length
              have htl : t < ln := by omega
              obtain ⟨b3, a5, n5, c5, g, rfl, hb3l, hcell3, hgk, hgI, _⟩ := hLq.at htl
              have hgm := Hd.i (hcj.o.gs g (List.mem_of_getElem? hgk.o))
              have hxm := Hd.i (hgs.o x (List.mem_of_getElem? hx.o))
              have hgl := Hd.i hcj.o.gs
              have hgI2 := hgI.1
              have hpair := hgm.o.pair hxm.o
              replace hpair := Hd.i hpair
              replace hll := Hd.i hll
              clear hC hBu hrc hfl hrl hLq hgI hcc
              go_wp2_with fail
              refine implConjugate_c _ _ _ g _ _ _ x _ hgI2 hxI hpair.o ?_
              intro a6 n6 c6 w6 hb6 ho6
              have hcmt := Hd.i (show Pm d (conj g x) from hgm.o.conj hxm.o)
              clear hcl hcell3 hcell2
              go_wp2_with fail
              refine derAdd_c B0 d cp gb tb gc tc rb bc bl L wr w6 a6 n6 c6 (conj g x) hIS hb6 ho6 hcmt hgl ?_
              intro w10 L' hA hb10 hS10
              have hcj2 := Hd.i (hcj.o.step h1 h2 hgs.o hgk.o hx.o hA.o)
              have hlt2 : t < L'.length := by
                obtain ⟨⟨u, hu, _⟩, _⟩ := hA.o
                rw [hu, List.length_append]
                omega
              have hbW : Below B0 w1 w10 := (hb.trans (hb6.mono (Nat.le_trans hB0' hb.size))).trans hb10
              go_wp2
              exact ⟨⟨k + 1, L', by omega, by go_num, hlt2, hS10, hcj2.o, hbW⟩, by simp [intOf]; omega⟩
            · obtain rfl : k = i := by omega
              have hcj2 := Hd.i (show Cj d xss L (t + 1) 0 by have := hcj.o; rw [← hln.o] at this; exact this.row)
              go_wp2
              exact ⟨⟨t + 1, L, by omega, by go_num, hIS, hcj2.o, hb⟩, by simp [intOf]; omega⟩
        · obtain rfl : t = ln := by omega
          have hder := Hd.i (show Der d xss L by have := hcj.o; rw [← hll.o] at this; exact this.der)
          have hgl := Hd.i hcj.o.gs
          have hci := hIS.ci
          have hord := Hd.i (derO_eq h1 h2 hder.o)
          go_wp2_with fail
          refine implOrderC_c d cp L 0 _ (Nat.zero_le _) hci hgl ?_
          intro w11 hb11
          have hf := H'.o w11 ((hb1.trans (hb.mono (Nat.le_trans hb1.size hB0''))).trans (hb11.mono (Nat.le_trans hb1.size hb.size)))
          rw [hval.o, hord.o] at hf
          go_wp2
          exact hf
end Go.Proofs.Ytpijnjhheikmcaa
