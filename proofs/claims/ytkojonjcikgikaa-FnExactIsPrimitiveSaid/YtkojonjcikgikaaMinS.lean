/- Minimal block systems: the reference's labels. -/
import Derived.Test.YtkojonjcikgikaaPureMin
import Derived.Test.YtkojonjcikgikaaOrbitS
import Derived.Test.YtkojonjcikgikaaPut
namespace Go.Proofs.Ytkojonjcikgikaa
open Go.RowKit

theorem mrg_take_succ {L : List Int} {a b v : Int} {k : Nat} (h : L[k]? = some v) : (mrg L a b).take (k + 1) = (mrg L a b).take k ++ [if v = b then a else v] := by
  refine take_succ_some ?_
  unfold mrg
  rw [List.getElem?_map, h]; rfl
theorem mrg_put {L : List Int} {a b v : Int} {k : Nat} (h : L[k]? = some v) : ((mrg L a b).take k ++ L.drop k).set k (if v = b then a else v) = (mrg L a b).take (k + 1) ++ L.drop (k + 1) := by
  have hk := (List.getElem?_eq_some_iff.1 h).1
  rw [set_front _ _ _ _ (by rw [List.length_take, mrg_length]; omega) hk, mrg_take_succ h]
theorem mrg_same {L : List Int} {a b v : Int} {k : Nat} (h : L[k]? = some v) (hv : v ≠ b) : (mrg L a b).take k ++ L.drop k = (mrg L a b).take (k + 1) ++ L.drop (k + 1) := by
  rw [mrg_take_succ h, if_neg hv, drop_some h, List.append_assoc]
  rfl
theorem mrg_rng {L : List Int} {a b : Int} (ha : -9223372036854775808 ≤ a ∧ a ≤ 9223372036854775807) (h : ∀ x ∈ L, -9223372036854775808 ≤ x ∧ x ≤ 9223372036854775807) : ∀ x ∈ mrg L a b, -9223372036854775808 ≤ x ∧ x ≤ 9223372036854775807 := by
  intro x hx
  unfold mrg at hx
  obtain ⟨v, hv, rfl⟩ := List.mem_map.1 hx
  split
  · exact ha
  · exact h v hv
/-- Of a row half merged the next label. -/
theorem half_get {L M : List Int} {k : Nat} {v : Int} (hM : M.length = k) (h : L[k]? = some v) : (M ++ L.drop k)[k]? = some v := by
  rw [List.getElem?_append_right (by omega), hM, Nat.sub_self, List.getElem?_drop]
  simpa using h

set_option maxHeartbeats 2000000 in
theorem specMerge_c {K : Ending → World → Prop} (al : Option Addr) (n cap : Nat) (L : List Int) (a b : Int) (w : World) (hx : Ints w al n L) (hn : n ≤ 1000000) (ha : -9223372036854775808 ≤ a ∧ a ≤ 9223372036854775807) (H : MakesI K w (mrg L a b)) :
    Calls Try.prog 75 #[.slice al n cap, .int .i64 a, .int .i64 b] w K := by
  have H' := Hd.i H; clear H
  have hln := Hd.i hx.length
  go_enter Try.func75, Try.ntmps75
  go_wp2_with fail
  refine copyInts_c _ _ _ L _ hx hn ?_
  intro g m1 c1 w1 hb1 ho1
  obtain rfl : m1 = n := by rw [← ho1.length]; exact hln.o
  go_wp2
  go_loopw [8] (fun iv wr => ∃ k : Nat, k ≤ m1 ∧ iv = .int .i64 k ∧ OwnI wr w.heap.size (some ⟨g, 0, none⟩) m1 c1 ((mrg L a b).take k ++ L.drop k) ∧ Below w.heap.size w wr) (fun iv _ => m1 - (intOf iv).toNat)
  case atStart => exact ⟨0, Nat.zero_le _, rfl, by simpa using ho1, hb1⟩
  case round =>
    have hgB := (ho1.1.lt rfl).1
    clear ho1 hb1
    obtain ⟨k, hk, rfl, ho, hb⟩ := hrel
    by_cases hlt : k < m1
    · obtain ⟨v, hc, hf, hv, hv1, hv2⟩ := ho.at' hlt
      obtain ⟨u, hu⟩ : ∃ u, L[k]? = some u := ⟨_, List.getElem?_eq_getElem (by have := hln.o; omega)⟩
      have he : v = u := by
        have h2 := half_get (M := (mrg L a b).take k) (by rw [List.length_take, mrg_length]; have := hln.o; omega) hu
        rw [hv.o] at h2; exact Option.some.inj h2
      subst he
      by_cases hvb : v = b
      · subst hvb
        have ho2 := ho.put (k := k) (x := a) ha.1 ha.2
        have e2 := mrg_put (a := a) (b := v) hu
        rw [if_pos rfl] at e2
        rw [e2] at ho2
        replace e2 := Hd.i e2
        replace hu := Hd.i hu
        have hb2 := hb.setCell (p := ⟨g, k, none⟩) hgB (.int .i64 a)
        go_wp2
        exact ⟨⟨k + 1, by omega, by go_num, ho2, hb2⟩, by simp [intOf]; omega⟩
      · rw [mrg_same hu hvb] at ho
        have hbe : (v == b) = false := by simpa using hvb
        replace hvb := Hd.i hvb
        replace hu := Hd.i hu
        go_wp2
        exact ⟨⟨k + 1, by omega, by go_num, ho, hb⟩, by simp [intOf]; omega⟩
    · obtain rfl : k = m1 := by omega
      rw [List.take_of_length_le (by rw [mrg_length]; have := hln.o; omega), List.drop_of_length_le (by have := hln.o; omega), List.append_nil] at ho
      go_wp2
      exact H'.o _ _ _ _ hb ho

theorem blks_old {K : Int → Int → Prop} {k n : Nat} (h : ∃ y : Int, 0 ≤ y ∧ y < (k : Int) ∧ K y k) : blks K (k + 1) n = blks K k n := by unfold blks; rw [fstP_old h]
theorem blks_new {K : Int → Int → Prop} {k n : Nat} (h : ∀ y : Int, 0 ≤ y → y < (k : Int) → ¬ K y k) : blks K (k + 1) n = blks K k n ++ [blkP K n k] := by unfold blks; rw [fstP_new h, List.map_append]; rfl
theorem fstP_le (K : Int → Int → Prop) (k : Nat) : (fstP K k).length ≤ k := by
  unfold fstP
  refine Nat.le_trans (List.length_filter_le _ _) ?_
  rw [idl_length]; exact Nat.le_refl _
theorem blks_le (K : Int → Int → Prop) (k n : Nat) : (blks K k n).length ≤ k := by unfold blks; rw [List.length_map]; exact fstP_le K k
theorem blkP_le (K : Int → Int → Prop) (k : Nat) (x : Int) : (blkP K k x).length ≤ k := by
  unfold blkP
  refine Nat.le_trans (List.length_filter_le _ _) ?_
  rw [idl_length]; exact Nat.le_refl _
open Classical in
theorem blkP_none {K : Int → Int → Prop} {k : Nat} {x : Int} (h : ∀ y : Int, 0 ≤ y → y < (k : Int) → ¬ K x y) : blkP K k x = [] := by
  unfold blkP
  rw [List.filter_eq_nil_iff]
  intro y hy
  have := mem_idl.1 hy
  simpa using h y this.1 this.2
theorem blkP_in {K : Int → Int → Prop} {k : Nat} {x : Int} (h : K x k) : blkP K (k + 1) x = blkP K k x ++ [(k : Int)] := by rw [blkP_succ, if_pos h]
theorem blkP_out {K : Int → Int → Prop} {k : Nat} {x : Int} (h : ¬ K x k) : blkP K (k + 1) x = blkP K k x := by rw [blkP_succ, if_neg h, List.append_nil]
open Classical in
theorem blkP_rng {K : Int → Int → Prop} {k : Nat} {x y : Int} (h : y ∈ blkP K k x) : 0 ≤ y ∧ y < k := by
  unfold blkP at h
  exact mem_idl.1 (List.mem_filter.1 h).1
theorem kerL_mem {L : List Int} {k : Nat} {v : Int} (hk : L[k]? = some v) : (L.take k).contains v = true ↔ ∃ y : Int, 0 ≤ y ∧ y < (k : Int) ∧ KerL L y k := by
  have hv : at0 L k = v := by unfold at0; rw [Int.toNat_natCast, hk]; rfl
  have hkl := (List.getElem?_eq_some_iff.1 hk).1
  rw [List.contains_iff_mem, List.mem_take_iff_getElem]
  constructor
  · rintro ⟨j, hj, e⟩
    refine ⟨(j : Int), by omega, by omega, ?_⟩
    show at0 L j = at0 L k
    rw [hv]
    unfold at0
    rw [Int.toNat_natCast, List.getElem?_eq_getElem (by omega), e]; rfl
  · rintro ⟨y, y0, hy, e⟩
    refine ⟨y.toNat, by omega, ?_⟩
    have e : at0 L y = at0 L k := e
    rw [hv] at e
    unfold at0 at e
    rw [List.getElem?_eq_getElem (by omega)] at e
    exact e

set_option maxRecDepth 100000 in
set_option maxHeartbeats 4000000 in
theorem specLabels_c {K : Ending → World → Prop} (al : Option Addr) (n cap : Nat) (L : List Int) (w : World) (hx : Ints w al n L) (hn : n ≤ 20) (H : MakesR K w (blks (KerL L) n n)) :
    Calls Try.prog 77 #[.slice al n cap] w K := by
  have H' := Hd.i H; clear H
  have hln := Hd.i hx.length
  go_enter Try.func77, Try.ntmps77
  go_wp2
  go_loopw [3, 4, 5] (fun v u i wr => ∃ (k : Nat) (c : Option Addr) (m capc : Nat) (hs : List Hdr) (s : Option Addr) (ns caps : Nat) (ds : List Int), k ≤ n ∧ i = .int .i64 k ∧ v = .slice c m capc ∧ u = .slice s ns caps ∧ OwnH wr w.heap.size c m capc hs (blks (KerL L) k n) ∧ OwnI wr w.heap.size s ns caps ds ∧ Hd (Apart c s) ∧ Hd (∀ x ∈ hs, Apart x.1 s) ∧ Hd (∀ v, v ∈ ds ↔ v ∈ L.take k) ∧ Hd (ds.length ≤ k) ∧ Below w.heap.size w wr)
    (fun _ _ i _ => n - (intOf i).toNat)
  case atStart =>
    refine ⟨0, some ⟨w.heap.size, 0, none⟩, 0, 0, [], some ⟨w.heap.size + 1, 0, none⟩, 0, 0, [], Nat.zero_le _, rfl, rfl, by simp, ?_, ?_, ?_, by simp [Hd], by simp [Hd], by simp [Hd], ?_⟩
    · exact (OwnH.emptyLit w (Nat.le_refl _)).up ((Below.refl _ _).alloc (Nat.le_refl _) _)
    · have := OwnI.emptyLit (w.alloc (.cells #[] 22)) (B := w.heap.size) (by simp)
      simpa using this
    · intro b off s off' s' e e'; cases e; simp at e'
    · exact ((Below.refl _ _).alloc (Nat.le_refl _) _).alloc (by simp) _
  case round =>
    obtain ⟨k, c, m, capc, hs, s, ns, caps, ds, hk, rfl, rfl, rfl, ho, hse, hac, hax, hds, hdl, hb⟩ := hrel
    by_cases hlt : k < n
    · obtain ⟨b, off, v, rfl, hbb, hcell0, hv, hv1, hv2⟩ := hx.at hlt
      have hcell := keep1 hcell0 hb
      have hmk : m ≤ k := by rw [← ho.length]; exact blks_le _ _ _
      have hnsk : ns ≤ k := by rw [← hse.length]; exact hdl.o
      have hmem := kerL_mem hv.o
      cases hcon : (L.take k).contains v with
      | true =>
        have hcd := Hd.i (show ds.contains v = true by rw [List.contains_iff_mem] at hcon ⊢; exact (hds.o v).2 hcon)
        have el := Hd.i (blks_old (n := n) (hmem.1 hcon))
        have hds2 : Hd (∀ u, u ∈ ds ↔ u ∈ L.take (k + 1)) := fun u => by
          rw [take_succ_some hv.o, List.mem_append, List.mem_singleton, hds.o u]
          refine ⟨.inl, fun h => h.elim id fun e => ?_⟩
          rw [e]; rw [List.contains_iff_mem] at hcon; exact hcon
        replace hmem := Hd.i hmem
        replace hcon := Hd.i hcon
        go_wp2_with fail
        refine containsInt_c _ _ _ ds v _ hse.ints ?_
        rw [hcd.o]
        go_wp2
        exact ⟨⟨k + 1, c, m, capc, hs, s, ns, caps, ds, by omega, by go_num, rfl, rfl, by rw [el.o]; exact ho, hse, hac, hax, hds2, by have := hdl.o; show ds.length ≤ k + 1; omega, hb⟩, by simp [intOf]; omega⟩
      | false =>
        have hcd := Hd.i (show ds.contains v = false by
          refine Bool.eq_false_iff.2 fun h => ?_
          rw [List.contains_iff_mem] at h
          have := (hds.o v).1 h
          rw [← List.contains_iff_mem, hcon] at this; cases this)
        have hnew : ∀ y : Int, 0 ≤ y → y < (k : Int) → ¬ KerL L y k := fun y y0 hy hK => by
          have := hmem.2 ⟨y, y0, hy, hK⟩; rw [hcon] at this; cases this
        have el := Hd.i (blks_new (n := n) hnew)
        have hbk0 := Hd.i (blkP_none (K := KerL L) (k := k) (x := (k : Int)) fun y y0 hy hK => hnew y y0 hy hK.symm)
        replace hmem := Hd.i hmem
        replace hcon := Hd.i hcon
        replace hnew := Hd.i hnew
        have k1 : (ns + 1) * 8 ≤ 140737488355328 := by omega
        have k2 : ns + 1 ≤ 281474976710656 := by omega
        have hsw := hb.size
        have hvk : Hd (at0 L k = v) := by show at0 L k = v; unfold at0; rw [Int.toNat_natCast, hv.o]; rfl
        obtain ⟨wo, rfl⟩ : ∃ wo, wo = wr := ⟨wr, rfl⟩
        go_wp2_with fail
        refine containsInt_c _ _ _ ds v _ hse.ints ?_
        rw [hcd.o]
        go_wp2_with (at_builtin; refine appendL_c rfl _ _ _ rfl w.heap.size 2 (.int .i64 0) 8 Try.underlying22 infoInt rfl _ _ _ _ rfl hse.1 [.int .i64 v] 1 rfl rfl oneInt k1 k2 hsw ?_; intro s2 ns2 caps2 w1 hns2 hos2 hgs2 has2)
        have hse1 : OwnI w1 w.heap.size s2 ns2 caps2 (ds ++ [v]) := OwnI.snoc hos2 hse.2 hv1 hv2
        have ho1 := ho.grew hgs2 hac.o hax.o
        have hb1 := hse.grewBelow hgs2 hb hsw
        have hac1 := Hd.i (Apart.grown hac.o ho.1.abelow has2.o)
        have hax1 : Hd (∀ x ∈ hs, Apart x.1 s2) := fun x hx => by
          obtain ⟨ys, hr⟩ := ho.2.at hx
          exact Apart.grown (hax.o x hx) hr.abelow has2.o
        have hds1 : Hd (∀ u, u ∈ ds ++ [v] ↔ u ∈ L.take (k + 1)) := fun u => by
          rw [take_succ_some hv.o, List.mem_append, List.mem_append, hds.o u]
        have hdl1 := Hd.i (show (ds ++ [v]).length ≤ k + 1 by have := hdl.o; simp; omega)
        have hns1 : ns2 ≤ k + 1 := by rw [hns2.o]; omega
        have hpo := OwnI.emptyLit w1 (B := w1.heap.size) (Nat.le_refl _)
        have hpb := (Below.refl w1.heap.size w1).alloc (Nat.le_refl _) (.cells #[] 2)
        clear hos2 hgs2 has2 hns2 ho hse hac hax hds hdl
        go_loopw [6, 7] (fun bv yv wk => ∃ (y : Nat) (p : Option Addr) (mp capp : Nat), k ≤ y ∧ y ≤ n ∧ yv = .int .i64 y ∧ bv = .slice p mp capp ∧ OwnI wk w1.heap.size p mp capp (blkP (KerL L) y k) ∧ Below w1.heap.size w1 wk) (fun _ yv _ => n - (intOf yv).toNat)
        case atStart => exact ⟨k, _, 0, 0, Nat.le_refl _, by omega, rfl, rfl, by rw [hbk0.o]; exact hpo, hpb⟩
        case round =>
          clear hpo hpb
          obtain ⟨y, p, mp, capp, hky, hy, rfl, rfl, hpo, hpb⟩ := hrel
          have hbk := below_ups hb1 hpb hb1.size
          have hcx := keep1 hcell0 hbk
          have hmp : mp ≤ y := by rw [← hpo.length]; exact blkP_le _ _ _
          by_cases hlty : y < n
          · obtain ⟨b', off', u, e', _, hcu0, hu, hu1, hu2⟩ := hx.at hlty
            cases e'
            have hcu := keep1 hcu0 hbk
            have hyu : at0 L y = u := by unfold at0; rw [Int.toNat_natCast, hu.o]; rfl
            by_cases huv : u = v
            · have eb := Hd.i (blkP_in (K := KerL L) (k := y) (x := (k : Int)) (by show at0 L k = at0 L y; rw [hvk.o, hyu, huv]))
              subst huv
              replace hyu := Hd.i hyu
              have k3 : (mp + 1) * 8 ≤ 140737488355328 := by omega
              have k4 : mp + 1 ≤ 281474976710656 := by omega
              have hsp := hpb.size
              go_wp2
              go_quiet (fail)
              go_wp2_with (at_builtin; refine appendL_c rfl _ _ _ rfl w1.heap.size 2 (.int .i64 0) 8 Try.underlying22 infoInt rfl _ _ _ _ rfl (hpo.1.drewN nq) [.int .i64 y] 1 rfl rfl oneInt k3 k4 hsp ?_; intro a2 n2 cap2 w2 hn2 ho2 hg2 ha2)
              exact ⟨⟨y + 1, a2, n2, cap2, by omega, by omega, by go_num, rfl, by rw [eb.o]; exact OwnI.snoc ho2 hpo.2 (by omega) (by omega), (hpo.drewN nq).grewBelow hg2 (hpb.trans (((Drew.refl _).step nq).below _)) hsp⟩, by simp [intOf]; omega⟩
            · have eb := Hd.i (blkP_out (K := KerL L) (k := y) (x := (k : Int)) (by show ¬ at0 L k = at0 L y; rw [hvk.o, hyu]; exact fun e => huv e.symm))
              have hbe : (u == v) = false := by simpa using huv
              replace huv := Hd.i huv
              replace hyu := Hd.i hyu
              go_wp2
              go_quiet (fail)
              go_wp2
              exact ⟨⟨y + 1, p, mp, capp, by omega, by omega, by go_num, rfl, by rw [eb.o]; exact hpo.drewN nq, hpb.trans (((Drew.refl _).step nq).below _)⟩, by simp [intOf]; omega⟩
          · obtain rfl : y = n := by omega
            have k3 : (m + 1) * 24 ≤ 140737488355328 := by omega
            have k4 : m + 1 ≤ 281474976710656 := by omega
            have hown := ho1.1.up hpb
            have hs1 := hbk.size
            go_wp2_with (at_builtin; refine appendL_c rfl _ _ _ rfl w.heap.size 22 (.slice none 0 0) 24 Try.underlying36 infoSl rfl _ _ _ _ rfl hown [.slice p mp capp] 1 rfl rfl oneSlice k3 k4 hs1 ?_; intro a2 n2 cap2 w2 hn2 ho2 hg2 ha2)
            have hnewO := ho1.snoc hpb hpo hb1.size hg2 ho2 ha2.o
            rw [← el.o] at hnewO
            have hse2 := hg2.ownI (hse1.up hpb) (hac1.o.symm)
            have hap2 : Apart s2 p := Apart.of_lt hse1.abelow hpo.ge
            refine ⟨⟨k + 1, a2, n2, cap2, hs ++ [(p, mp, capp)], s2, ns2, caps2, ds ++ [v], by omega, by go_num, rfl, rfl, hnewO, hse2, (Apart.grown hac1.o.symm (hse1.up hpb).abelow ha2.o).symm, fun x hx => ?_, hds1, hdl1, ho1.grewBelow hg2 hbk hs1⟩, by simp [intOf]; omega⟩
            rcases List.mem_append.1 hx with hx | hx
            · exact hax1.o x hx
            · obtain rfl := List.mem_singleton.1 hx; exact hap2.symm
    · obtain rfl : k = n := by omega
      go_wp2
      exact H'.o _ _ _ _ _ hb ho
end Go.Proofs.Ytkojonjcikgikaa
