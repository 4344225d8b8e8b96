/- IsNormalSubgroup. -/
import Derived.Test.YtpijnjhheikmcaaChainTop5
namespace Go.Proofs.Ytpijnjhheikmcaa
open Go.RowKit

noncomputable def pIsNormal (z : Int) (xss yss : List (List Int)) : Bool := if pIsSubgroup z xss yss = true then xss.all (fun p => yss.all fun q => memB z.toNat xss (conj p q)) else false
theorem normal_false {d : Nat} {xss yss : List (List Int)} {i k : Nat} {p q : List Int} (hp : xss[i]? = some p) (hq : yss[k]? = some q) (hn : memB d xss (conj p q) = false) : (xss.all fun p => yss.all fun q => memB d xss (conj p q)) = false := by
  rw [List.all_eq_false]
  refine ⟨p, List.mem_of_getElem? hp, ?_⟩
  rw [Bool.not_eq_true, List.all_eq_false]
  exact ⟨q, List.mem_of_getElem? hq, by simp [hn]⟩
def NormTo (d : Nat) (xss yss : List (List Int)) (i : Nat) : Prop := ∀ (j : Nat) (p : List Int), j < i → xss[j]? = some p → ∀ q ∈ yss, memB d xss (conj p q) = true
def NormOf (d : Nat) (xss yss : List (List Int)) (p : List Int) (k : Nat) : Prop := ∀ (j : Nat) (q : List Int), j < k → yss[j]? = some q → memB d xss (conj p q) = true
theorem NormTo.all {d : Nat} {xss yss : List (List Int)} (h : NormTo d xss yss xss.length) : (xss.all fun p => yss.all fun q => memB d xss (conj p q)) = true := by
  rw [List.all_eq_true]
  intro p hp
  rw [List.all_eq_true]
  intro q hq
  obtain ⟨i, hi, e⟩ := List.mem_iff_getElem.1 hp
  exact h i p hi (by rw [List.getElem?_eq_getElem hi, e]) q hq
theorem NormOf.step {d : Nat} {xss yss : List (List Int)} {p q : List Int} {k : Nat} (h : NormOf d xss yss p k) (hq : yss[k]? = some q) (hm : memB d xss (conj p q) = true) : NormOf d xss yss p (k + 1) := fun j r hj e => by
  by_cases hjk : j = k
  · subst hjk; rw [hq] at e; cases e; exact hm
  · exact h j r (by omega) e
theorem NormTo.step {d : Nat} {xss yss : List (List Int)} {p : List Int} {i : Nat} (h : NormTo d xss yss i) (hp : xss[i]? = some p) (ho : NormOf d xss yss p yss.length) : NormTo d xss yss (i + 1) := fun j r hj e q hq => by
  by_cases hji : j = i
  · subst hji
    rw [hp] at e; cases e
    obtain ⟨k, hk, e⟩ := List.mem_iff_getElem.1 hq
    exact ho k q hk (by rw [List.getElem?_eq_getElem hk, e])
  · exact h j r (by omega) e q hq
theorem Pm.pair {d : Nat} {p q : List Int} (hp : Pm d p) (hq : Pm d q) : PermPair p q := ⟨by rw [hp.2, hq.2], hp.1, hq.1⟩
theorem Pm.conj {d : Nat} {p q : List Int} (hp : Pm d p) (hq : Pm d q) : Pm d (Go.Proofs.Ytpijnjhheikmcaa.conj p q) := (hq.inv.comp hp).comp hq

set_option maxHeartbeats 4000000 in
theorem topImplIsNormalSubgroup {R : Ending → World → Prop} {B B' : Nat} (z : Int) (a : Option Addr) (n cap : Nat) (hs : List Hdr) (xss : List (List Int)) (b : Option Addr) (m capb : Nat) (hs' : List Hdr) (yss : List (List Int)) (w : World) (_ : -9223372036854775808 ≤ z ∧ z ≤ 9223372036854775807) (hx : OwnH w B a n cap hs xss) (hy : OwnH w B' b m capb hs' yss)
    (H : Gives R w (.bool (pIsNormal z xss yss))) : Calls Try.prog 36 #[.int .i64 z, .slice a n cap, .slice b m capb] w R := by
  have H' := Hd.i H; clear H
  have hmx := hx.rows
  have hmy := hy.rows
  clear hx hy
  cases hs : pIsSubgroup z xss yss with
  | true =>
    obtain ⟨hgx, hgy⟩ := pIsSubgroup_gen hs
    obtain ⟨d, rfl⟩ := genSet_d hgx
    have e := Hd.i (show pIsNormal (d : Int) xss yss = (xss.all fun p => yss.all fun q => memB d xss (conj p q)) by simp [pIsNormal, hs])
    have hn := genSet_n hgx hmx
    have hm := genSet_n hgy hmy
    have hgsx := Hd.i (gs_of hgx)
    have hgsy := Hd.i (gs_of hgy)
    have hlx := Hd.i hmx.length
    have hly := Hd.i hmy.length
    replace hgx := Hd.i hgx
    replace hgy := Hd.i hgy
    replace hs := Hd.i hs
    go_enter Try.func36, Try.ntmps36
    go_wp2_with fail
    refine implIsSubgroup_c (d : Int) _ _ _ xss _ _ _ yss _ hmx hmy ?_
    intro w1 hb1
    rw [hs.o]
    go_wp2_with fail
    refine implChain_c d _ _ _ xss _ (hmx.up hb1) hgx ?_
    intro w2 cp hb2 hC
    have hb12 := below_ups hb1 hb2 hb1.size
    go_wp2
    go_loopw [22] (fun iv wr => ∃ i : Nat, i ≤ n ∧ iv = .int .i64 i ∧ Hd (NormTo d xss yss i) ∧ Below w2.heap.size w2 wr) (fun iv _ => n - (intOf iv).toNat)
    case atStart => exact ⟨0, Nat.zero_le _, rfl, fun j p hj => by omega, Below.refl _ _⟩
    case round =>
      obtain ⟨i, hi, rfl, hto, hb⟩ := hrel
      by_cases hlt : i < n
      · obtain ⟨b1, off1, a3, n3, c3, p, rfl, hbb, hcell, hp, hpI, hpc⟩ := ((hmx.up hb12).up hb).at hlt
        go_wp2
        go_loopw [28] (fun kv wk => ∃ k : Nat, k ≤ m ∧ kv = .int .i64 k ∧ Hd (NormOf d xss yss p k) ∧ Below w2.heap.size w2 wk ∧ Ints wk a3 n3 p) (fun kv _ => m - (intOf kv).toNat)
        case atStart => exact ⟨0, Nat.zero_le _, rfl, fun j p hj => by omega, hb, hpI⟩
        case round =>
          clear hb hpI hcell hbb
          obtain ⟨k, hk, rfl, hof, hb, hpI⟩ := hrel
          by_cases hltk : k < m
          · obtain ⟨b2, off2, a4, n4, c4, q, rfl, hbb2, hcell2, hq, hqI, hqc⟩ := ((hmy.up hb12).up hb).at hltk
            have hpp := hgsx.o p (List.mem_of_getElem? hp.o)
            have hqq := hgsy.o q (List.mem_of_getElem? hq.o)
            have hpair := hpp.pair hqq
            have hcj := Hd.i (hpp.conj hqq)
            replace hpp := Hd.i hpp
            replace hqq := Hd.i hqq
            cases hmem : memB d xss (conj p q) with
            | true =>
              have hof2 := Hd.i (hof.o.step hq.o hmem)
              go_wp2_with fail
              refine implConjugate_c _ _ _ p _ _ _ q _ hpI hqI hpair ?_
              intro a5 n5 c5 w5 hb5 ho5
              go_wp2_with fail
              refine implHas0_c d cp xss _ _ _ (conj p q) _ ((hC.up hb).up hb5) ho5.ints hcj ?_
              rw [hmem]
              intro w6 hb6
              go_wp2
              exact ⟨⟨k + 1, by omega, by go_num, hof2.o, (hb.trans (hb5.mono hb.size)).trans (hb6.mono (Nat.le_trans hb.size hb5.size)), (hpI.up hb5).up hb6⟩, by simp [intOf]; omega⟩
            | false =>
              have hf := Hd.i (normal_false hp.o hq.o hmem)
              go_wp2_with fail
              refine implConjugate_c _ _ _ p _ _ _ q _ hpI hqI hpair ?_
              intro a5 n5 c5 w5 hb5 ho5
              go_wp2_with fail
              refine implHas0_c d cp xss _ _ _ (conj p q) _ ((hC.up hb).up hb5) ho5.ints hcj ?_
              rw [hmem]
              intro w6 hb6
              go_wp2
              exact retB (H'.o _ (below_ups hb12 ((hb.trans (hb5.mono hb.size)).trans (hb6.mono (Nat.le_trans hb.size hb5.size))) hb12.size)) (by rw [e.o, hf.o])
          · obtain rfl : k = m := by omega
            have hto2 := Hd.i (hto.o.step hp.o (by rw [hly.o]; exact hof.o))
            go_wp2
            exact ⟨⟨i + 1, by omega, by go_num, hto2.o, hb⟩, by simp [intOf]; omega⟩
      · obtain rfl : i = n := by omega
        have hall := Hd.i (NormTo.all (d := d) (xss := xss) (yss := yss) (by rw [hlx.o]; exact hto.o))
        go_wp2
        exact retB (H'.o _ (below_ups hb12 hb hb12.size)) (by rw [e.o, hall.o])
  | false =>
    have e := Hd.i (show pIsNormal z xss yss = false by simp [pIsNormal, hs])
    replace hs := Hd.i hs
    go_enter Try.func36, Try.ntmps36
    go_wp2_with fail
    refine implIsSubgroup_c z _ _ _ xss _ _ _ yss _ hmx hmy ?_
    intro w1 hb1
    rw [hs.o]
    go_wp2
    exact retB (H'.o _ hb1) e.o

theorem keepB {w w' : World} {p q : Addr} {v u : Value} (hp : w.cell? p = some v) (hq : w.cell? q = some u) (hb : Below w.heap.size w w') : w'.cell? p = some v ∧ w'.cell? q = some u ∧ Below w.heap.size w w' :=
  ⟨(hb.cell (p := p) (World.block_lt_of_cell? w p hp)).trans hp, (hb.cell (p := q) (World.block_lt_of_cell? w q hq)).trans hq, hb⟩

set_option maxHeartbeats 4000000 in
theorem topSpecIsNormalSubgroup {R : Ending → World → Prop} {B B' : Nat} (z : Int) (a : Option Addr) (n cap : Nat) (hs : List Hdr) (xss : List (List Int)) (b : Option Addr) (m capb : Nat) (hs' : List Hdr) (yss : List (List Int)) (w : World) (_ : -9223372036854775808 ≤ z ∧ z ≤ 9223372036854775807) (hx : OwnH w B a n cap hs xss) (hy : OwnH w B' b m capb hs' yss)
    (H : Gives R w (.bool (pIsNormal z xss yss))) : Calls Try.prog 35 #[.int .i64 z, .slice a n cap, .slice b m capb] w R := by
  have H' := Hd.i H; clear H
  have hmx := hx.rows
  have hmy := hy.rows
  clear hx hy
  cases hs : pIsSubgroup z xss yss with
  | true =>
    obtain ⟨hgx, hgy⟩ := pIsSubgroup_gen hs
    obtain ⟨d, rfl⟩ := genSet_d hgx
    have e := Hd.i (show pIsNormal (d : Int) xss yss = (xss.all fun p => yss.all fun q => memB d xss (conj p q)) by simp [pIsNormal, hs])
    have hn := genSet_n hgx hmx
    have hm := genSet_n hgy hmy
    have hgsx := Hd.i (gs_of hgx)
    have hgsy := Hd.i (gs_of hgy)
    have hlx := Hd.i hmx.length
    have hly := Hd.i hmy.length
    replace hgx := Hd.i hgx
    replace hgy := Hd.i hgy
    replace hs := Hd.i hs
    go_enter Try.func35, Try.ntmps35
    go_wp2_with fail
    refine specIsSubgroup_c (d : Int) _ _ _ xss _ _ _ yss _ hmx hmy ?_
    intro w1 hb1
    rw [hs.o]
    go_wp2_with fail
    refine specBuild_c d _ _ _ xss _ (hmx.up hb1) hgx ?_
    intro w2 cp hb2 hC
    have hb12 := below_ups hb1 hb2 hb1.size
    go_wp2
    go_loopw [8] (fun iv wr => ∃ i : Nat, i ≤ n ∧ iv = .int .i64 i ∧ Hd (NormTo d xss yss i) ∧ Below w2.heap.size w2 wr) (fun iv _ => n - (intOf iv).toNat)
    case atStart => exact ⟨0, Nat.zero_le _, rfl, fun j p hj => by omega, Below.refl _ _⟩
    case round =>
      obtain ⟨i, hi, rfl, hto, hb⟩ := hrel
      by_cases hlt : i < n
      · have hp' : ∃ p, xss[i]? = some p := ⟨_, List.getElem?_eq_getElem (by have := hlx.o; omega)⟩
        obtain ⟨p, hp⟩ := hp'
        replace hp := Hd.i hp
        go_wp2
        go_loopw [9] (fun kv wk => ∃ k : Nat, k ≤ m ∧ kv = .int .i64 k ∧ Hd (NormOf d xss yss p k) ∧ Below w2.heap.size w2 wk) (fun kv _ => m - (intOf kv).toNat)
        case atStart => exact ⟨0, Nat.zero_le _, rfl, fun j p hj => by omega, hb⟩
        case round =>
          clear hb
          obtain ⟨k, hk, rfl, hof, hb⟩ := hrel
          by_cases hltk : k < m
          · obtain ⟨b1, off1, a3, n3, c3, p', rfl, hbb, hcell, hpe, hpI, hpc⟩ := ((hmx.up hb12).up hb).at hlt
            obtain rfl : p' = p := by have h1 := hp.o; rw [hpe.o] at h1; cases h1; rfl
            obtain ⟨b2, off2, a4, n4, c4, q, rfl, hbb2, hcell2, hq, hqI, hqc⟩ := ((hmy.up hb12).up hb).at hltk
            have hpp := hgsx.o p' (List.mem_of_getElem? hp.o)
            have hqq := hgsy.o q (List.mem_of_getElem? hq.o)
            have hcj := Hd.i (hpp.conj hqq)
            have hqperm := hqq.1
            have hn3 : n3 = d := by rw [← hpI.length]; exact hpp.2
            have hn4 : n4 = d := by rw [← hqI.length]; exact hqq.2
            have hd20 : d ≤ 20 := by have := hqperm.2.1; have := hqq.2; omega
            have hr1 : Hd (∀ x ∈ inv q, 0 ≤ x ∧ x < n3) := fun x hx => by have := hqq.inv.1.range x hx; rw [hqq.inv.2] at this; rw [hn3]; exact this
            have hr2 : Hd (∀ x ∈ comp (inv q) p', 0 ≤ x ∧ x < n4) := fun x hx => by have := (hqq.inv.comp hpp).1.range x hx; rw [(hqq.inv.comp hpp).2] at this; rw [hn4]; exact this
            replace hn3 := Hd.i hn3
            replace hn4 := Hd.i hn4
            replace hpp := Hd.i hpp
            replace hqq := Hd.i hqq
            have hCk := hC.up hb
            cases hmem : memB d xss (conj p' q) with
            | true =>
              have hof2 := Hd.i (hof.o.step hq.o hmem)
              go_wp2
              go_region_held3 (fun w' => w'.cell? ⟨b2, off2 + k, none⟩ = some (.slice a4 n4 c4) ∧ w'.cell? ⟨b1, off1 + i, none⟩ = some (.slice a3 n3 c3) ∧ Below wr.heap.size wr w')
                (first | exact keepB hcell2 hcell ((Drew.refl _).one.below _) | assumption | exact keepB hcell2 hcell HI | exact keepB hcell2 hcell HA | exact keepB hcell2 hcell HC | exact keepB hcell2 hcell HE)
                (first
                  | (go_at_call 59; refine specInverse_c _ _ _ q _ (hqI.up (by first | assumption | (apply And.right; apply And.right; assumption) | exact (Drew.refl _).one.below _ | exact Below.refl _ _)) hqperm ?_; intro aI nI cI wI hbI hoI; have HI := below_on (w0 := wr) (by first | assumption | (apply And.right; apply And.right; assumption) | exact (Drew.refl _).one.below _ | exact Below.refl _ _) hbI; have hnI : nI ≤ 1000000 := (by have := hoI.length; rw [inv_length] at this; have := hqq.o.2; omega))
                  | (go_at_call 58; refine specCompose_c _ _ _ (inv q) _ _ _ p' _ hoI.ints (hpI.up (by first | assumption | (apply And.right; apply And.right; assumption) | exact (Drew.refl _).one.below _ | exact Below.refl _ _)) hnI hr1 ?_; intro aA nA cA wA hbA hoA; have HA := below_on (w0 := wr) (by first | assumption | (apply And.right; apply And.right; assumption) | exact (Drew.refl _).one.below _ | exact Below.refl _ _) hbA; have hnA : nA ≤ 1000000 := (by have := hoA.length; rw [comp_length, inv_length] at this; have := hqq.o.2; omega))
                  | (go_at_call 58; refine specCompose_c _ _ _ (comp (inv q) p') _ _ _ q _ hoA.ints (hqI.up (by first | assumption | (apply And.right; apply And.right; assumption) | exact (Drew.refl _).one.below _ | exact Below.refl _ _)) hnA hr2 ?_; intro aC nC cC wC hbC hoC; have HC := below_on (w0 := wr) (by first | assumption | (apply And.right; apply And.right; assumption) | exact (Drew.refl _).one.below _ | exact Below.refl _ _) hbC)
                  | (go_at_call 50; refine specHas0_c d cp xss _ _ _ (conj p' q) _ (hCk.up HC) hoC.ints hcj ?_; rw [hmem]; intro wE hbE; have HE := below_on (w0 := wr) HC hbE))
              all_goals
                go_wp2
                exact ⟨⟨k + 1, by omega, by go_num, hof2.o, hb.trans (HE.mono hb.size)⟩, by simp [intOf]; omega⟩
            | false =>
              have hf := Hd.i (normal_false hp.o hq.o hmem)
              go_wp2
              go_region_held3 (fun w' => w'.cell? ⟨b2, off2 + k, none⟩ = some (.slice a4 n4 c4) ∧ w'.cell? ⟨b1, off1 + i, none⟩ = some (.slice a3 n3 c3) ∧ Below wr.heap.size wr w')
                (first | exact keepB hcell2 hcell ((Drew.refl _).one.below _) | assumption | exact keepB hcell2 hcell HI | exact keepB hcell2 hcell HA | exact keepB hcell2 hcell HC | exact keepB hcell2 hcell HE)
                (first
                  | (go_at_call 59; refine specInverse_c _ _ _ q _ (hqI.up (by first | assumption | (apply And.right; apply And.right; assumption) | exact (Drew.refl _).one.below _ | exact Below.refl _ _)) hqperm ?_; intro aI nI cI wI hbI hoI; have HI := below_on (w0 := wr) (by first | assumption | (apply And.right; apply And.right; assumption) | exact (Drew.refl _).one.below _ | exact Below.refl _ _) hbI; have hnI : nI ≤ 1000000 := (by have := hoI.length; rw [inv_length] at this; have := hqq.o.2; omega))
                  | (go_at_call 58; refine specCompose_c _ _ _ (inv q) _ _ _ p' _ hoI.ints (hpI.up (by first | assumption | (apply And.right; apply And.right; assumption) | exact (Drew.refl _).one.below _ | exact Below.refl _ _)) hnI hr1 ?_; intro aA nA cA wA hbA hoA; have HA := below_on (w0 := wr) (by first | assumption | (apply And.right; apply And.right; assumption) | exact (Drew.refl _).one.below _ | exact Below.refl _ _) hbA; have hnA : nA ≤ 1000000 := (by have := hoA.length; rw [comp_length, inv_length] at this; have := hqq.o.2; omega))
                  | (go_at_call 58; refine specCompose_c _ _ _ (comp (inv q) p') _ _ _ q _ hoA.ints (hqI.up (by first | assumption | (apply And.right; apply And.right; assumption) | exact (Drew.refl _).one.below _ | exact Below.refl _ _)) hnA hr2 ?_; intro aC nC cC wC hbC hoC; have HC := below_on (w0 := wr) (by first | assumption | (apply And.right; apply And.right; assumption) | exact (Drew.refl _).one.below _ | exact Below.refl _ _) hbC)
                  | (go_at_call 50; refine specHas0_c d cp xss _ _ _ (conj p' q) _ (hCk.up HC) hoC.ints hcj ?_; rw [hmem]; intro wE hbE; have HE := below_on (w0 := wr) HC hbE))
              all_goals
                go_wp2
                exact retB (H'.o _ (below_ups hb12 (hb.trans (HE.mono hb.size)) hb12.size)) (by rw [e.o, hf.o])
          · obtain rfl : k = m := by omega
            have hto2 := Hd.i (hto.o.step hp.o (by rw [hly.o]; exact hof.o))
            go_wp2
            exact ⟨⟨i + 1, by omega, by go_num, hto2.o, hb⟩, by simp [intOf]; omega⟩
      · obtain rfl : i = n := by omega
        have hall := Hd.i (NormTo.all (d := d) (xss := xss) (yss := yss) (by rw [hlx.o]; exact hto.o))
        go_wp2
        exact retB (H'.o _ (below_ups hb12 hb hb12.size)) (by rw [e.o, hall.o])
  | false =>
    have e := Hd.i (show pIsNormal z xss yss = false by simp [pIsNormal, hs])
    replace hs := Hd.i hs
    go_enter Try.func35, Try.ntmps35
    go_wp2_with fail
    refine specIsSubgroup_c z _ _ _ xss _ _ _ yss _ hmx hmy ?_
    intro w1 hb1
    rw [hs.o]
    go_wp2
    exact retB (H'.o _ hb1) e.o
end Go.Proofs.Ytpijnjhheikmcaa
