/- DerivedSubgroupOrder of the reference. -/
import Derived.Test.YtpijnjhheikmcaaDerE
import Derived.Test.YtpijnjhheikmcaaDerI
import Derived.Test.YtpijnjhheikmcaaDerA
import Derived.Deep.RegionHeld3
namespace Go.Proofs.Ytpijnjhheikmcaa
open Go.RowKit

theorem keep2c {w w' : World} {p1 p2 : Addr} {v1 v2 : Value} (h1 : w.cell? p1 = some v1) (h2 : w.cell? p2 = some v2) (hb : Below w.heap.size w w') : w'.cell? p1 = some v1 ∧ w'.cell? p2 = some v2 := ⟨keep1 h1 hb, keep1 h2 hb⟩
theorem far2c {c : Option Addr} {wo w w' : World} (hg : Grew c w w') (hc : ∀ b off s, c = some ⟨b, off, s⟩ → wo.heap.size ≤ b) {p1 p2 : Addr} {v1 v2 u1 u2 : Value} (g1 : wo.cell? p1 = some u1) (g2 : wo.cell? p2 = some u2) (h : w.cell? p1 = some v1 ∧ w.cell? p2 = some v2) :
    w'.cell? p1 = some v1 ∧ w'.cell? p2 = some v2 := ⟨far1 hg hc g1 h.1, far1 hg hc g2 h.2⟩

theorem cjR_length {xss : List (List Int)} {g : List Int} {k : Nat} (hk : k ≤ xss.length) : (cjR xss g k).length = k := by simp [cjR]; omega
theorem cjR_succ {xss : List (List Int)} {g : List Int} {k : Nat} {x : List Int} (hx : xss[k]? = some x) : cjR xss g (k + 1) = cjR xss g k ++ [conj g x] := by simp [cjR, List.take_add_one, hx]

set_option maxHeartbeats 8000000 in
set_option maxRecDepth 100000 in
theorem topSpecDerivedSubgroupOrder {R : Ending → World → Prop} {B : Nat} (z : Int) (a : Option Addr) (n cap : Nat) (hs : List Hdr) (xss : List (List Int)) (w : World) (_ : -9223372036854775808 ≤ z ∧ z ≤ 9223372036854775807) (hm0 : OwnH w B a n cap hs xss)
    (H : Gives R w (.int .i64 (pDer z xss))) : Calls Try.prog 37 #[.int .i64 z, .slice a n cap] w R := by
  have H' := Hd.i H; clear H
  have hm := hm0.rows
  clear hm0
  by_cases hg : GenSet z xss
  case neg =>
    have hdec := Hd.i (decide_eq_false hg)
    have e := Hd.i (show pDer z xss = 0 by unfold pDer; rw [if_neg hg])
    replace hg := Hd.i hg
    go_enter Try.func37, Try.ntmps37
    go_wp2_with (go_at_call 48; refine specGenSet_c z _ _ _ xss _ hm ?_; intro w1 hd1; rw [hdec.o])
    have hf := H'.o _ (hd1.below w.heap.size)
    rw [e.o] at hf
    exact hf
  have hdec := Hd.i (decide_eq_true hg)
  obtain ⟨d, rfl⟩ := genSet_d hg
  have h1 : 1 ≤ d := by have := hg.1; omega
  have h2 : d ≤ 20 := by have := hg.2.1; omega
  have hval := Hd.i (show pDer (d : Int) xss = (derO d xss : Nat) by unfold pDer; rw [if_pos hg, Int.toNat_natCast])
  have hgs := Hd.i (gs_of hg)
  have hln := Hd.i hm.length
  have hn8 : n ≤ 8 := by have := hg.2.2.1; have := hln.o; omega
  replace hg := Hd.i hg
  go_enter Try.func37, Try.ntmps37
  go_wp2_with fail
  refine specGenSet_c (d : Int) _ _ _ xss _ hm ?_
  intro w1 hd1
  rw [hdec.o]
  have hm1 := hd1.rows hm
  have hw1 : w1.heap.size = w.heap.size := hd1.size
  replace hw1 := Hd.i hw1
  obtain ⟨B0, hB0⟩ : ∃ B, B = w1.heap.size := ⟨_, rfl⟩
  have hB0a : B0 ≤ w1.heap.size := by rw [hB0]; exact Nat.le_refl _
  have hB0b : w1.heap.size ≤ B0 := by rw [hB0]; exact Nat.le_refl _
  replace hB0 := Hd.i hB0
  have hbA := (Below.refl B0 w1).alloc hB0a (.cells #[] 23)
  have hoA := OwnH.emptyLit w1 hB0a
  go_wp2
  go_loopw [5, 6] (fun v iv wr => ∃ (i : Nat) (c : Option Addr) (m capc : Nat) (hs : List Hdr), i ≤ n ∧ iv = .int .i64 i ∧ v = .slice c m capc ∧ OwnH wr B0 c m capc hs (cmts xss i) ∧ Below B0 w1 wr) (fun _ iv _ => n - (intOf iv).toNat)
  case atStart => exact ⟨0, _, 0, 0, [], Nat.zero_le _, rfl, rfl, hoA, hbA⟩
  case round =>
    clear hoA hbA
    obtain ⟨i, c, m, capc, hs, hi, rfl, rfl, ho, hb⟩ := hrel
    by_cases hlt : i < n
    · obtain ⟨b, off, a3, n3, c3, p, rfl, hbb, hcell1, hp, hpI1, _⟩ := hm1.at hlt
      have hpp := Hd.i (hgs.o p (List.mem_of_getElem? hp.o))
      have hn3 := Hd.i (show n3 = d by rw [← hpI1.length]; exact hpp.o.2)
      obtain ⟨wo, rfl⟩ : ∃ wo, wo = wr := ⟨wr, rfl⟩
      rw [← cmtR_zero xss i] at ho
      go_wp2
      go_loopw [5, 7] (fun v kv wr => ∃ (k : Nat) (c : Option Addr) (m capc : Nat) (hs : List Hdr), k ≤ i ∧ kv = .int .i64 k ∧ v = .slice c m capc ∧ OwnH wr B0 c m capc hs (cmtR xss i k) ∧ Below B0 w1 wr) (fun _ kv _ => i - (intOf kv).toNat)
      case atStart => exact ⟨0, c, m, capc, hs, Nat.zero_le _, rfl, rfl, ho, hb⟩
      case round =>
        clear ho hb
        obtain ⟨k, c, m, capc, hs, hk, rfl, rfl, ho, hb⟩ := hrel
        by_cases hltk : k < i
        · have hbu : Below w1.heap.size w1 wr := hb.mono hB0b
          obtain ⟨b2, off2, a4, n4, c4, q, e2, hbb2, hcell2', hq, hqI1, _⟩ := hm1.at (k := k) (by omega)
          cases e2
          have hcell := keep1 hcell1 hbu
          have hcell2 := keep1 hcell2' hbu
          have hpI := hpI1.up hbu
          have hqI := hqI1.up hbu
          have hqq := Hd.i (hgs.o q (List.mem_of_getElem? hq.o))
          have hn4 := Hd.i (show n4 = d by rw [← hqI1.length]; exact hqq.o.2)
          have hml : m ≤ 100 := by
            have h3 := ho.length
            have h4 := cmts_length xss i
            have h5 : i * i ≤ 8 * 8 := Nat.mul_le_mul (by omega) (by omega)
            unfold cmtR at h3
            simp at h3
            omega
          have k1 : (m + 1) * 24 ≤ 140737488355328 := by omega
          have k2 : m + 1 ≤ 281474976710656 := by omega
          have hs0 := hb.size
          have hge := Hd.i (show ∀ b off s, c = some ⟨b, off, s⟩ → w1.heap.size ≤ b from fun b off s e => Nat.le_trans hB0b (ho.ge b off s e))
          have HD := (Drew.refl wr).one.below wr.heap.size
          have hr1 : Hd (∀ x ∈ inv p, 0 ≤ x ∧ x < (n4 : Int)) := hpp.o.inv.rngN hn4.o
          have hr2 : Hd (∀ x ∈ p, 0 ≤ x ∧ x < (n4 : Int)) := hpp.o.rngN hn4.o
          have hkd := Hd.i (show n3 ≤ 1000000 by have := hn3.o; omega)
          have hqp := hqq.o.1
          have hppp := hpp.o.1
          have hkn : (k : Int) < (n : Int) := by omega
          go_wp2
          go_region_held3 (fun w' => w'.cell? ⟨b, off + i, none⟩ = some (.slice a3 n3 c3) ∧ w'.cell? ⟨b, off + k, none⟩ = some (.slice a4 n4 c4))
            (first | exact keep2c hcell hcell2 HD | exact ⟨hcell, hcell2⟩ | exact keep2c hcell hcell2 HI | exact keep2c hcell hcell2 HJ | exact keep2c hcell hcell2 HA | exact keep2c hcell hcell2 HE | exact keep2c hcell hcell2 HC | exact keep2c hcell hcell2 (HC.alloc HC.size _) | exact far2c hg2 hge.o hcell1 hcell2' (keep2c hcell hcell2 (HC.alloc HC.size _)))
            (first
              | (go_at_call 59; refine specInverse_c _ _ _ p _ (hpI.up HD) hppp ?_; intro aI nI cI wI hbI hoI; have HI := below_on (w0 := wr) HD hbI; have hnI : Hd (nI = d) := (by have := hoI.length; rw [hpp.o.inv.2] at this; exact this.symm))
              | (go_at_call 59; refine specInverse_c _ _ _ q _ (hqI.up HI) hqp ?_; intro aJ nJ cJ wJ hbJ hoJ; have HJ := below_on (w0 := wr) HI hbJ; have hnJ : Hd (nJ = d) := (by have := hoJ.length; rw [hqq.o.inv.2] at this; exact this.symm))
              | (go_at_call 58; refine specCompose_c _ _ _ (inv p) _ _ _ (inv q) _ (hoI.up hbJ).ints hoJ.ints (by have := hnI.o; omega) (hpp.o.inv.rngN hnJ.o) ?_; intro aA nA cA wA hbA hoA; have HA := below_on (w0 := wr) HJ hbA; have hnA : Hd (nA = d) := (by have := hoA.length; rw [(hpp.o.inv.comp hqq.o.inv).2] at this; exact this.symm))
              | (go_at_call 58; refine specCompose_c _ _ _ p _ _ _ q _ (hpI.up HA) (hqI.up HA) hkd.o hr2 ?_; intro aE nE cE wE hbE hoE; have HE := below_on (w0 := wr) HA hbE; have hnE : Hd (nE = d) := (by have := hoE.length; rw [(hpp.o.comp hqq.o).2] at this; exact this.symm))
              | (go_at_call 58; refine specCompose_c _ _ _ (comp (inv p) (inv q)) _ _ _ (comp p q) _ (hoA.up hbE).ints hoE.ints (by have := hnA.o; omega) ((hpp.o.inv.comp hqq.o.inv).rngN hnE.o) ?_; intro aC nC cC wC hbC hoC; have HC := below_on (w0 := wr) HE hbC)
              | (refine step_appendL (by rfl) _ _ _ (by rfl) B0 23 (.slice none 0 0) 24 Try.underlying22 infoSl (by rfl) c m capc (hs.map hvv) (by rfl) (ho.1.up (HC.alloc HC.size _)) _ 1 1 [.slice aC nC cC] (by rfl) (Vals.lit wC [.slice aC nC cC] _ (by simp)) oneSlice k1 k2 (Nat.le_trans hB0a (Nat.le_trans hs0 (Nat.le_trans HC.size (by simp)))) ?_; intro a2 n2 cap2 w2 hn2 ho2 hg2 ha2))
          have hBr : B0 ≤ wr.heap.size := Nat.le_trans hB0a hs0
          go_wp2
          refine ⟨⟨k + 1, a2, n2, cap2, hs ++ [(aC, nC, cC)], by omega, by go_num, rfl, ?_, ho.grewBelow hg2.after_alloc (hb.trans (HC.mono hBr)) (Nat.le_trans hBr HC.size)⟩, by simp [intOf]; omega⟩
          rw [cmtR_succ hp.o hq.o]
          exact ho.snoc HC (hoC.mono HE.size) hBr (j := 1) hg2.after_alloc ho2 (by have := ha2.o; simpa using this)
        · obtain rfl : k = i := by omega
          rw [cmtR_full] at ho
          go_wp2
          exact ⟨⟨k + 1, c, m, capc, hs, by omega, by go_num, rfl, ho, hb⟩, by simp [intOf]; omega⟩
    · obtain rfl : i = n := by omega
      have ho1 : OwnH wr B0 c m capc hs (cmts xss xss.length) := by rw [hln.o]; exact ho
      clear ho
      have hs0 := hb.size
      have hBr : B0 ≤ wr.heap.size := Nat.le_trans hB0a hs0
      go_wp2_with fail
      refine specEmpty2_c (fun b => fpI c b) B0 d _ h1 h2 hBr (fun b ⟨off, s, e⟩ => ho1.1.lt e) ?_
      intro w2 r2 cp gb tb gc tc rb gh2 hb2 hC2 hr2
      have hLQ2 : LQ w2 r2 B0 c m capc (cmts xss xss.length) := by
        have h3 := ho1.up hb2
        refine ⟨hs, h3.1, h3.length, fun b hb => ?_, fun j x g e e' => ?_⟩
        · have h4 : b < wr.heap.size := by obtain ⟨off, s, e⟩ := hb; exact (ho1.1.lt e).2
          rw [hr2.o b h4]; exact if_pos hb
        · have h4 := ho1.2.row j x g e e'
          refine ⟨⟨(h4.up hb2).ints, fun b _ hb => ?_⟩, h4.cap⟩
          have h5 := ho1.2.off x (List.mem_of_getElem? e)
          have h6 : b < wr.heap.size := by obtain ⟨off, s, e⟩ := hb; exact (h4.1.lt e).2
          show r2 b = 0
          rw [hr2.o b h6]
          refine if_neg fun ⟨off, s, e⟩ => ?_
          obtain ⟨off', s', e'⟩ := hb
          exact h5 b off' s' off s e' e
      have hSj0 := Hd.i (Sj.start hgs.o)
      have hD0 : Hd ((cmts xss xss.length).length ≤ 64 + 8 * ([] : List (List Int)).length) := by
        have h4 := cmts_length xss xss.length
        have h5 : xss.length * xss.length ≤ 8 * 8 := Nat.mul_le_mul (by have := hln.o; omega) (by have := hln.o; omega)
        show _ ≤ _
        simp
        omega
      have hbW : Below B0 w1 w2 := hb.trans (hb2.mono hBr)
      have hBu0 : Hd (Built d [] (R0 d) (fun _ => []) ∧ ([] : List (List Int)).length ≤ pot d (R0 d) 0) := ⟨built_zero h1 h2, Nat.zero_le _⟩
      clear hb ho1 hr2 hb2 hs0 hBr
      go_wp2
      go_loopw [5, 9] (fun v iv wr => ∃ (t : Nat) (D L : List (List Int)) (r : Role) (gh : Nat → Hdr) (R : Tr) (G : Nat → List (List Int)) (la : Option Addr) (m lcap : Nat), t ≤ m ∧ iv = .int .i64 t ∧ v = .slice la m lcap ∧ Ch wr r B0 d 2 1 cp gb tb gc tc rb gh R G ∧ Hd (Built d L R G ∧ L.length ≤ pot d R 0) ∧ LQ wr r B0 la m lcap D ∧ Hd (Sj d xss L D t) ∧ Hd (D.length ≤ 64 + 8 * L.length) ∧ Below B0 w1 wr) (fun _ iv _ => 4000 - (intOf iv).toNat)
      case atStart => exact ⟨0, _, [], r2, gh2, _, _, c, m, capc, Nat.zero_le _, rfl, rfl, hC2, hBu0, hLQ2, hSj0, hD0, hbW⟩
      case round =>
        clear hC2 hLQ2 hbW hD0 hSj0 hBu0
        obtain ⟨t, D, L, r, gh, R1, G1, la, m, lcap, ht, rfl, rfl, hC, hBu, hLQ, hSj, hDl, hb⟩ := hrel
        have hmD := Hd.i hLQ.length
        have hm32 : m ≤ 3264 := by
          have e1 := hBu.o.2
          have e2 := pot_le d R1 0
          have e3 := Nat.mul_le_mul h2 h2
          have e4 := hDl.o
          have e5 := hmD.o
          omega
        have hBr : B0 ≤ wr.heap.size := Nat.le_trans hB0a hb.size
        have hCS : CS wr cp d L := ⟨r, B0, gb, tb, gc, tc, rb, gh, R1, G1, hC, Hd.i hBu.o.1⟩
        by_cases hlt : t < m
        · obtain ⟨b3, a5, n5, c5, g, rfl, hb3l, hcell3, hgk, hgI, hcap5⟩ := hLQ.at hlt
          have hgm := Hd.i (hSj.o.dnc g (List.mem_of_getElem? hgk.o)).1
          have hgI1 := hgI.1
          cases hmem : memB d L g with
          | true =>
            have hSj2 := Hd.i (hSj.o.old' hgk.o (memB_iff.1 hmem))
            go_wp2_with fail
            refine specHas0_c d cp L _ _ _ g _ hCS hgI1 hgm ?_
            rw [hmem]
            intro w3 hb3
            go_wp2
            exact ⟨⟨t + 1, D, L, r, gh, R1, G1, _, m, lcap, by omega, by go_num, rfl, hC.up hb3, hBu, hLQ.up hb3, hSj2, hDl, hb.trans (hb3.mono hBr)⟩, by simp [intOf]; omega⟩
          | false =>
            have hns : Hd (¬ Sf d R1 0 g) := fun h => by
              have := memB_iff.2 ((hBu.o.1.mem h1 h2 hgm.o).1 h)
              rw [hmem] at this
              cases this
            have hgl : Hd (Gs d L) := fun p hp => (hSj.o.nc p hp).1
            have hSj3 := Hd.i (hSj.o.new h1 h2 hgs.o hgk.o)
            go_wp2_with fail
            refine specHas0_c d cp L _ _ _ g _ hCS hgI1 hgm ?_
            rw [hmem]
            intro w3 hb3
            have hC3 := hC.up hb3
            have hLQ3 := hLQ.up hb3
            have hcell33 := keep1 hcell3 hb3
            have hgI3 := hgI.kept (.of_below hb3)
            have hbW3 : Below B0 w1 w3 := hb.trans (hb3.mono hBr)
            clear hcell3 hgI hgI1 hCS hC hLQ hb hb3l hBr
            go_wp2_with fail
            refine specGen_c d B0 cp gb tb gc tc rb 0 (Nat.zero_le _) _ r gh R1 G1 _ n5 c5 g _ hC3 (Hd.i hBu.o.1.1) hgI3 hcap5 ⟨hgm.o, fx_zero g⟩ ?_
            intro w9 r9 gh9 R9 G9 hE9 hC9 _ hpost9
            have hBu9 : Hd (Built d (L ++ [g]) R9 G9 ∧ (L ++ [g]).length ≤ pot d R9 0) := by
              refine ⟨hBu.o.1.step h1 h2 hgl.o hgm.o hpost9.o, ?_⟩
              have e1 := pot_lt hpost9.o.mon (fun i y hs h1 h2 => hpost9.o.ok.row hs h1 h2) hns.o hpost9.o.has
              have e2 := hBu.o.2
              rw [List.length_append, List.length_singleton]
              omega
            have hLQ9 : LQ w9 r9 B0 (some ⟨b3, 0, none⟩) m lcap (D ++ cjR xss g 0) := by
              have := hLQ3.ev hE9
              simpa [cjR] using this
            have hbW9 : Below B0 w1 w9 := hbW3.trans hE9.below
            clear hcell33 hgI3 hC3 hLQ3 hbW3 hE9 hpost9
            go_wp2
            go_loopw [5, 10] (fun v kv wr => ∃ (k : Nat) (la : Option Addr) (m lcap : Nat) (r : Role), k ≤ i ∧ kv = .int .i64 k ∧ v = .slice la m lcap ∧ Ch wr r B0 d 2 1 cp gb tb gc tc rb gh9 R9 G9 ∧ LQ wr r B0 la m lcap (D ++ cjR xss g k) ∧ Below B0 w1 wr) (fun _ kv _ => i - (intOf kv).toNat)
            case atStart => exact ⟨0, _, m, lcap, r9, Nat.zero_le _, rfl, rfl, hC9, hLQ9, hbW9⟩
            case round =>
              clear hC9 hLQ9 hbW9
              obtain ⟨k, la, m4, lcap4, r, hk, rfl, rfl, hC, hLQ, hb⟩ := hrel
              have hmD4 := hLQ.length
              have hcl := cjR_length (xss := xss) (g := g) (k := k) (by rw [hln.o]; exact hk)
              rw [List.length_append, hcl, hmD.o] at hmD4
              by_cases hltk : k < i
              · have hbu : Below w1.heap.size w1 wr := hb.mono hB0b
                obtain ⟨b2, off2, a4, n4, c4, x, rfl, hbb2, hcell2', hx, hxI1, _⟩ := hm1.at hltk
                have hcell2 := keep1 hcell2' hbu
                have hxI := hxI1.up hbu
                have hxx := Hd.i (hgs.o x (List.mem_of_getElem? hx.o))
                have hn4 := Hd.i (show n4 = d by rw [← hxI1.length]; exact hxx.o.2)
                have htm : t < m4 := by omega
                obtain ⟨b3, a5, n5, c5, g', rfl, hb3l, hcell3, hgk', hgI', _⟩ := hLQ.at htm
                obtain rfl : g' = g := by
                  have e1 := hgk'.o
                  rw [List.getElem?_append_left (by rw [hmD.o]; exact hlt), hgk.o] at e1
                  cases e1; rfl
                obtain ⟨hs4, q1, q2, q3, q4⟩ := id hLQ
                have hl4 := Hd.i (show hs4.length = m4 by simpa using q1.length)
                have hvi : Hd ((hs4.map hvv)[t]? = some (.slice a5 n5 c5)) := by
                  obtain ⟨b5, v, e1, _, _, e2, _, e3⟩ := q1.at htm
                  cases e1
                  rw [hcell3] at e2
                  cases e2
                  exact e3
                replace q3 := Hd.i q3
                replace q4 := Hd.i q4
                replace q2 := Hd.i q2
                have hgI2 := hgI'.1
                have hn5 := Hd.i (show n5 = d by rw [← hgI2.length]; exact hgm.o.2)
                have hm42 : m4 ≤ 3300 := by omega
                have k1 : (m4 + 1) * 24 ≤ 140737488355328 := by omega
                have k2 : m4 + 1 ≤ 281474976710656 := by omega
                have hs0 := hb.size
                have hBr : B0 ≤ wr.heap.size := Nat.le_trans hB0a hs0
                have hge := Hd.i (show ∀ b off s, (some (⟨b3, 0, none⟩ : Addr)) = some ⟨b, off, s⟩ → w1.heap.size ≤ b from fun b off s e => by cases e; exact Nat.le_trans hB0b (hLQ.lt ⟨0, none, rfl⟩).1)
                have HD := (Drew.refl wr).one.below wr.heap.size
                have hr1 : Hd (∀ y ∈ inv x, 0 ≤ y ∧ y < (n5 : Int)) := hxx.o.inv.rngN hn5.o
                have hr2 : Hd (∀ y ∈ comp (inv x) g', 0 ≤ y ∧ y < (n4 : Int)) := (hxx.o.inv.comp hgm.o).rngN hn4.o
                have hxp := hxx.o.1
                have hkn : (k : Int) < (i : Int) := by omega
                have htm2 : (t : Int) < (m4 : Int) := by omega
                go_wp2
                go_region_held3 (fun w' => w'.cell? ⟨b2, off2 + k, none⟩ = some (.slice a4 n4 c4) ∧ w'.cell? ⟨b3, t, none⟩ = some (.slice a5 n5 c5))
                  (first | exact keep2c hcell2 hcell3 HD | exact ⟨hcell2, hcell3⟩ | exact keep2c hcell2 hcell3 HI | exact keep2c hcell2 hcell3 HA | exact keep2c hcell2 hcell3 HC | exact keep2c hcell2 hcell3 (HC.alloc HC.size _) | exact ⟨far1 hg2 hge.o hcell2' (keep1 hcell2 (HC.alloc HC.size _)), hk2 t _ hvi.o⟩)
                  (first
                    | (go_at_call 59; refine specInverse_c _ _ _ x _ (hxI.up HD) hxp ?_; intro aI nI cI wI hbI hoI; have HI := below_on (w0 := wr) HD hbI; have hnI : Hd (nI = d) := (by have := hoI.length; rw [hxx.o.inv.2] at this; exact this.symm))
                    | (go_at_call 58; refine specCompose_c _ _ _ (inv x) _ _ _ g' _ hoI.ints (hgI2.up HI) (by have := hnI.o; omega) hr1 ?_; intro aA nA cA wA hbA hoA; have HA := below_on (w0 := wr) HI hbA; have hnA : Hd (nA = d) := (by have := hoA.length; rw [(hxx.o.inv.comp hgm.o).2] at this; exact this.symm))
                    | (go_at_call 58; refine specCompose_c _ _ _ (comp (inv x) g') _ _ _ x _ hoA.ints (hxI.up HA) (by have := hnA.o; omega) hr2 ?_; intro aC nC cC wC hbC hoC; have HC := below_on (w0 := wr) HA hbC)
                    | (refine step_appendK (by rfl) _ _ _ (by rfl) B0 23 (.slice none 0 0) 24 Try.underlying22 infoSl (by rfl) b3 m4 lcap4 (hs4.map hvv) (by rfl) (q1.up (HC.alloc HC.size _)) _ 1 1 [.slice aC nC cC] (by rfl) (by decide) (Vals.lit wC [.slice aC nC cC] _ (by simp)) oneSlice k1 k2 (Nat.le_trans hBr (Nat.le_trans HC.size (by simp))) ?_; intro a2 n2 cap2 w2 hn2 ho2 hg2 ha2 hk2))
                obtain ⟨g2, rfl⟩ : ∃ g2, a2 = some ⟨g2, 0, none⟩ := by
                  have := hn2.o
                  rcases ho2.addr with ⟨_, h, _⟩ | ⟨g, h, _⟩
                  · omega
                  · exact ⟨g, h⟩
                obtain ⟨hC10, he10, hk10, hb10⟩ := (hC.up HC).listV hg2.after_alloc q3.o (j := 1) (by have := ha2.o; simpa using this) (ho2.lt rfl)
                have hL10 := (hLQ.up HC).snoc (fun j x g e e' => ⟨(q4.o j x g e e').1.kept (.of_below HC), (q4.o j x g e e').2⟩) hl4.o (.of_own hoC fun b hb => hC.new (Nat.le_trans HA.size hb)) hoC.cap ho2 hk10 he10
                go_wp2
                refine ⟨⟨k + 1, some ⟨g2, 0, none⟩, n2, cap2, roleS r g2 200, by omega, by go_num, rfl, hC10, ?_, (hb.trans (HC.mono hBr)).trans hb10⟩, by simp [intOf]; omega⟩
                rw [cjR_succ hx.o, ← List.append_assoc]
                exact hL10
              · obtain rfl : k = i := by omega
                have hSj4 : Hd (Sj d xss (L ++ [g]) (D ++ cjR xss g k) (t + 1)) := by rw [← hln.o]; exact hSj3.o
                have hDl4 : Hd ((D ++ cjR xss g k).length ≤ 64 + 8 * (L ++ [g]).length) := by
                  have e1 := hDl.o
                  show _ ≤ _
                  rw [List.length_append, hcl, List.length_append, List.length_singleton]
                  omega
                go_wp2
                exact ⟨⟨t + 1, D ++ cjR xss g k, L ++ [g], r, gh9, R9, G9, la, m4, lcap4, by omega, by go_num, rfl, hC, hBu9, hLQ, hSj4, hDl4, hb⟩, by simp [intOf]; omega⟩
        · obtain rfl : t = m := by omega
          have hder := Hd.i (show Der d xss L by have := hSj.o; rw [← hmD.o] at this; exact this.der h1 h2 hgs.o)
          have hgl := Hd.i hder.o.gs
          have hord := Hd.i (derO_eq h1 h2 hder.o)
          go_wp2_with fail
          refine specOrder_c d cp L _ hCS hgl ?_
          intro w11 hb11
          have hb1 := hd1.below w.heap.size
          have hf := H'.o w11 ((hb1.trans (hb.mono (Nat.le_trans hb1.size hB0b))).trans (hb11.mono (Nat.le_trans hb1.size hb.size)))
          rw [hval.o, hord.o] at hf
          go_wp2
          exact hf
end Go.Proofs.Ytpijnjhheikmcaa
