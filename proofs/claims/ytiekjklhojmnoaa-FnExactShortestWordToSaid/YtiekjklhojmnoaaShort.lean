/- ShortestWordTo, by both. -/
import Derived.Test.YtiekjklhojmnoaaOrbTop2
import Derived.Deep.RegionWith
namespace Go.Proofs.Ytiekjklhojmnoaa
open Go.RowKit

def ShortOk (z : Int) (xss : List (List Int)) (x y : Int) : Prop := GenSet z xss ∧ (0 ≤ x ∧ x < z) ∧ 0 ≤ y ∧ y < z
instance (z : Int) (xss : List (List Int)) (x y : Int) : Decidable (ShortOk z xss x y) := inferInstanceAs (Decidable (_ ∧ _))
def pShort (z : Int) (xss : List (List Int)) (x y : Int) : List Int := if ShortOk z xss x y then (wordAt (bfs z.toNat xss x) y).getD [] else []
def pShortOk (z : Int) (xss : List (List Int)) (x y : Int) : Bool := decide (ShortOk z xss x y) && (wordAt (bfs z.toNat xss x) y).isSome

theorem letterAt_c {R : Ending → World → Prop} (k : Nat) (w : World) (hk : k ≤ 1000) (H : R (.returned (.int .i64 (ltr k))) w) : Calls Try.prog 61 #[.int .i64 k] w R := by
  have H' := Hd.i H; clear H
  by_cases h : k % 2 = 1
  · have hb : ((k : Int) % 2 == 1) = true := by simp; omega
    have e := Hd.i (show ltr k = -((k / 2 : Nat) + 1) from if_pos h)
    go_enter Try.func61, Try.ntmps61
    go_wp2
    exact retI H' (by rw [e.o]; omega)
  · have hb : ((k : Int) % 2 == 1) = false := by simp; omega
    have e := Hd.i (show ltr k = (k / 2 : Nat) + 1 from if_neg h)
    go_enter Try.func61, Try.ntmps61
    go_wp2
    exact retI H' (by rw [e.o]; omega)

def vals (fw : FW) : List (List Int) := fw.map (·.2)
theorem vals_length (fw : FW) : (vals fw).length = fw.length := by simp [vals]
theorem vals_snoc (fw : FW) (z : Int) (w : List Int) : vals (fw ++ [(z, w)]) = vals fw ++ [w] := by simp [vals]
theorem vals_get {fw : FW} {i : Nat} {y : Int} {w : List Int} (h : fw[i]? = some (y, w)) : (vals fw)[i]? = some w := by simp [vals, h]

theorem keepS {w0 wA w2 : World} {p : Addr} {v : Value} (hb : Below wA.heap.size wA w2) (h : wA.cell? p = some v ∧ Below w0.heap.size w0 wA) : w2.cell? p = some v ∧ Below w0.heap.size w0 w2 :=
  ⟨(hb.cell (World.block_lt_of_cell? wA _ h.1)).trans h.1, below_ups h.2 hb h.2.size⟩

set_option maxHeartbeats 4000000 in
theorem specShort_c {R : Ending → World → Prop} (d : Nat) (a : Option Addr) (n cap : Nat) (xss : List (List Int)) (x y : Int) (w : World) (hm : Mat w a n xss) (hg : Hd (GenSet (d : Int) xss)) (hx : Hd (0 ≤ x ∧ x < d)) (hy : Hd (0 ≤ y ∧ y < d))
    (H : MakesIB R w ((wordAt (bfs d xss x) y).getD []) (wordAt (bfs d xss x) y).isSome) :
    Calls Try.prog 25 #[.int .i64 d, .slice a n cap, .int .i64 x, .int .i64 y] w R := by
  have H' := Hd.i H; clear H
  have hdec := Hd.i (decide_eq_true hg.o)
  have hdx := Hd.i (decide_eq_true hx.o)
  have hdy := Hd.i (decide_eq_true hy.o)
  have hln := Hd.i hm.length
  have hn8 : n ≤ 8 := by have := hg.o.2.2.1; have := hln.o; omega
  have hd1 : 1 ≤ d := by have := hg.o.1; omega
  have hd20 : d ≤ 20 := by have := hg.o.2.1; omega
  have hgs := Hd.i (genSet_gens hg.o)
  have hx0 : -9223372036854775808 ≤ x := by have := hx.o; omega
  have hx1 : x ≤ 9223372036854775807 := by have := hx.o; omega
  go_enter Try.func25, Try.ntmps25
  go_wp2_with fail
  refine specGenSet_c (d : Int) _ _ _ xss _ hm ?_
  intro w1 hd
  rw [hdec.o]
  have hb1 := hd.below w.heap.size
  go_wp2_with fail
  refine specPoint_c d x _ hd1 hd20 ?_
  rw [hdx.o]
  go_wp2_with fail
  refine specPoint_c d y _ hd1 hd20 ?_
  rw [hdy.o]
  have hf0 : OwnI (w1.alloc (.cells #[.int .i64 x] 2)) w.heap.size (some ⟨w1.heap.size, 0, none⟩) 1 1 (keys (st xss x 0)) := ⟨Own.lit w1 [.int .i64 x] _ (by simp) hb1.size, by intro u hu; simp [keys, st] at hu; omega⟩
  have hbA := hb1.alloc hb1.size (.cells #[.int .i64 x] 2)
  have hA := (Below.refl (w1.alloc (.cells #[.int .i64 x] 2)).heap.size (w1.alloc (.cells #[.int .i64 x] 2))).alloc (Nat.le_refl _) (.cells #[] 2)
  have hr0 := OwnI.emptyLit (w1.alloc (.cells #[.int .i64 x] 2)) (B := w.heap.size) hbA.size
  have hbB := hbA.alloc hbA.size (.cells #[] 2)
  have hC := fun o => (Below.refl ((w1.alloc (.cells #[.int .i64 x] 2)).alloc (.cells #[] 2)).heap.size _).alloc (Nat.le_refl _) o
  have hw0 := Own.lit ((w1.alloc (.cells #[.int .i64 x] 2)).alloc (.cells #[] 2)) [.slice (some ⟨w1.heap.size + 1, 0, none⟩) 0 0] 23 (by simp) hbB.size
  have hf3 := (hf0.up hA).up (hC (.cells #[.slice (some ⟨w1.heap.size + 1, 0, none⟩) 0 0] 23))
  have hr3 := hr0.up (hC (.cells #[.slice (some ⟨w1.heap.size + 1, 0, none⟩) 0 0] 23))
  have hb3 := hbB.alloc hbB.size (.cells #[.slice (some ⟨w1.heap.size + 1, 0, none⟩) 0 0] 23)
  have hw3 : OwnH (((w1.alloc (.cells #[.int .i64 x] 2)).alloc (.cells #[] 2)).alloc (.cells #[.slice (some ⟨w1.heap.size + 1, 0, none⟩) 0 0] 23)) w.heap.size (some ⟨w1.heap.size + 1 + 1, 0, none⟩) 1 1 [(some ⟨w1.heap.size + 1, 0, none⟩, 0, 0)] (vals (st xss x 0)) := by
    refine ⟨by simpa [hvv] using hw0, by simp [vals, st], fun j h xs e e' => ?_, fun h hh => ?_, by simp⟩
    · cases j with
      | zero => simp [vals, st] at e e'; subst e; subst e'; simpa using hr3
      | succ j => simp at e
    · obtain rfl := List.mem_singleton.1 hh
      intro b off s off' s' e e'; cases e; simp at e'
  clear hd hdx hdy hdec hA hr0 hbB hC hw0 hr3 hf0 hbA
  go_wp2
  go_loopw [10, 11, 12] (fun v uu iv wr => ∃ (i : Nat) (c : Option Addr) (m capc : Nat) (wa : Option Addr) (wm wcap : Nat) (hs : List Hdr), i ≤ m ∧ iv = .int .i64 i ∧ v = .slice c m capc ∧ uu = .slice wa wm wcap ∧ OwnI wr w.heap.size c m capc (keys (st xss x i)) ∧ OwnH wr w.heap.size wa wm wcap hs (vals (st xss x i)) ∧
      Hd (Apart wa c) ∧ Hd (∀ h ∈ hs, Apart h.1 c) ∧ Hd (∀ j u, j < i → (keys (st xss x i))[j]? = some u → u ≠ y) ∧ Below w.heap.size w wr) (fun _ _ iv _ => 20 - (intOf iv).toNat)
  case atStart =>
    refine ⟨0, _, 1, 1, _, 1, 1, _, by omega, rfl, rfl, rfl, hf3, hw3, ?_, ?_, fun j u h => by omega, hb3⟩
    · intro b off s off' s' e e'; cases e; simp at e'
    · intro h hh; obtain rfl := List.mem_singleton.1 hh; intro b off s off' s' e e'; cases e; simp at e'
  case round =>
    clear hf3 hw3 hb3 hb1
    obtain ⟨i, c, m, capc, wa, wm, wcap, hs, hi, rfl, rfl, rfl, hfo, hwo, hac, hax, hno, hb⟩ := hrel
    have hok := Hd.i (okF_st hgs.o hx.o i)
    have hml : m = (st xss x i).length := by rw [← hfo.length, keys_length]
    have hwl : wm = (st xss x i).length := by rw [← hwo.length, vals_length]
    have hmd : m ≤ d := by rw [hml]; exact hok.o.len hgs.o hx.o
    by_cases hlt : i < m
    · obtain ⟨u, wu, hu⟩ : ∃ u wu, Hd ((st xss x i)[i]? = some (u, wu)) := ⟨_, _, List.getElem?_eq_getElem (by omega)⟩
      have hlw : i < wm := by omega
      obtain ⟨gf, u', rfl, hgB, hgl, hcu, _, hu'⟩ := hfo.look hlt
      obtain rfl : u' = u := Option.some.inj (hu'.o.symm.trans (get_keys hu.o))
      replace hml := Hd.i hml
      replace hwl := Hd.i hwl
      by_cases huy : u' = y
      · subst huy
        obtain ⟨bw, a1, n1, c1, ys, rfl, _, hbl, hcw, _, hys, hrow⟩ := hwo.head hlw
        have hword : Hd (wordAt (bfs d xss x) u' = some wu) := wordAt_some (okF_bfs hgs.o hx.o).1 (prefix_get (bfs_prefix hgs.o hx.o i) hu.o)
        obtain rfl : ys = wu := Option.some.inj (hys.o.symm.trans (vals_get hu.o))
        clear hys hu' hwo
        go_wp2
        have h := H'.o
        rw [hword.o] at h
        exact h _ _ _ _ hb hrow
      · have hne : (u' == y) = false := by simpa using huy
        have hw1 := hwo
        have hf1 := hfo
        clear hu'
        obtain ⟨wo, rfl⟩ : ∃ wo, wo = wr := ⟨wr, rfl⟩
        go_wp2
        go_loopw [10, 11, 13] (fun v uu jv wr => ∃ (j : Nat) (fw : FW) (c : Option Addr) (m capc : Nat) (wa : Option Addr) (wm wcap : Nat) (hs : List Hdr), j ≤ 2 * n ∧ jv = .int .i64 j ∧ v = .slice c m capc ∧ uu = .slice wa wm wcap ∧ Hd (FwAt d xss x i u' wu j fw) ∧ OwnI wr w.heap.size c m capc (keys fw) ∧ OwnH wr w.heap.size wa wm wcap hs (vals fw) ∧
            Hd (Apart wa c) ∧ Hd (∀ h ∈ hs, Apart h.1 c) ∧ Below w.heap.size w wr) (fun _ _ jv _ => 2 * n - (intOf jv).toNat)
        case atStart => exact ⟨0, st xss x i, _, m, capc, wa, wm, wcap, hs, Nat.zero_le _, rfl, rfl, rfl, fwAt hgs.o hx.o hu.o (Nat.zero_le _), hf1, hw1, hac, hax, hb⟩
        case round =>
          clear hf1 hw1 hac hax hb hfo hwo hml hwl hmd hlw hcu hgl hgB hi hlt hok
          obtain ⟨j, fw, c, m, capc, wa, wm, wcap, hs, hj, rfl, rfl, rfl, hF, hfo, hwo, hac, hax, hb⟩ := hrel
          obtain ⟨hu0, hscan, hok, hui, hur, hid, hlen⟩ := hF.o
          have hml : m = fw.length := by rw [← hfo.length, keys_length]
          have hwl : wm = fw.length := by rw [← hwo.length, vals_length]
          have hil : i < fw.length := (List.getElem?_eq_some_iff.1 hui).1
          by_cases hlt : j < 2 * n
          · have him : i < m := by omega
            have hiw : i < wm := by omega
            obtain ⟨gf, u2, rfl, hgB, hgl, hcu, _, hu2⟩ := hfo.look him
            obtain rfl : u2 = u' := Option.some.inj (hu2.o.symm.trans (get_keys hui))
            clear hu2
            have hlet := Hd.i (isLet_ltr (xss := xss) (k := j) (by have := hln.o; omega))
            have hlp := Hd.i (letP_of hgs.o hlet.o).1
            have hst := scan_succ xss u2 wu (st xss x i) j
            rw [← hscan] at hst
            obtain ⟨hur0, hur1⟩ := hur
            have hmr := hm.up hb
            replace hu0 := Hd.i hu0
            replace hscan := Hd.i hscan
            replace hok := Hd.i hok
            replace hui := Hd.i hui
            replace hst := Hd.i hst
            replace hml := Hd.i hml
            replace hwl := Hd.i hwl
            go_wp2
            go_region_with (first | (go_at_call 61; refine letterAt_c j _ (by omega) ?_) | (go_at_call 60; refine specLetter_c _ _ _ xss (ltr j) _ ((Drew.refl _).one.rows hmr) d hg hlet ?_; intro a2 n2 c2 w2 hb2 hi2; have hn2 : n2 = d := hi2.length.symm.trans hlp.o.2; have hu2n : u2 < n2 := (by omega); obtain ⟨bz, offz, z, rfl, hbz, hcz, hpz, hz1, hz2⟩ := hi2.at (k := u2.toNat) (by omega); replace hn2 := Hd.i hn2; have hcu2 : w2.cell? ⟨gf, i, none⟩ = some (.int .i64 u2) := (hb2.cell (p := ⟨gf, i, none⟩) hgl).trans hcu))
            all_goals
              have hb2' : Below wr.heap.size wr w2 := ((Drew.refl wr).one.below _).trans hb2
              have hfo2 := hfo.up hb2'
              have hwo2 := hwo.up hb2'
              have hbw := below_ups hb hb2' hb.size
              have hze := Hd.i (at0_of hpz.o).symm
              clear hb2 hb2' hcz hcu2 hbz hi2 hfo hwo hb hmr hgl hcu
              by_cases hmem : z ∈ keys fw
              · have hcon := Hd.i (show (keys fw).contains z = true by simpa using hmem)
                have hnx : FwAt d xss x i u2 wu (j + 1) fw := by
                  have h := fwAt hgs.o hx.o hu.o (j := j + 1) (by have := hln.o; omega)
                  have e : scan xss u2 wu (st xss x i) (j + 1) = fw := by rw [hst.o, scanStep, if_pos (by rw [← hze.o]; exact hmem)]
                  rwa [e] at h
                replace hnx := Hd.i hnx
                go_wp2_with fail
                refine containsInt_c _ _ _ (keys fw) z _ hfo2.ints ?_
                rw [hcon.o]
                go_wp2
                exact ⟨⟨j + 1, fw, _, m, capc, wa, wm, wcap, hs, by omega, by go_num, rfl, rfl, hnx.o, hfo2, hwo2, hac, hax, hbw⟩, by simp [intOf]; omega⟩
              · have hcon := Hd.i (show (keys fw).contains z = false by simpa using hmem)
                have hnx : FwAt d xss x i u2 wu (j + 1) (fw ++ [(z, wu ++ [ltr j])]) := by
                  have h := fwAt hgs.o hx.o hu.o (j := j + 1) (by have := hln.o; omega)
                  have e : scan xss u2 wu (st xss x i) (j + 1) = fw ++ [(z, wu ++ [ltr j])] := by rw [hst.o, scanStep, if_neg (by rw [← hze.o]; exact hmem), ← hze.o]
                  rwa [e] at h
                replace hnx := Hd.i hnx
                have c1 : (m + 1) * 8 ≤ 140737488355328 := by have := hml.o; omega
                have c2 : m + 1 ≤ 281474976710656 := by have := hml.o; omega
                have hs2 := hbw.size
                have hwl20 : (wu.length + 1) * 8 ≤ 1000 := by have := (hok.o.2.2 i u2 wu hui.o).1; omega
                replace hwl20 := Hd.i hwl20
                go_wp2_with fail
                refine containsInt_c _ _ _ (keys fw) z _ hfo2.ints ?_
                rw [hcon.o]
                go_wp2_with (at_builtin; refine appendL_c rfl _ _ _ rfl w.heap.size 2 (.int .i64 0) 8 Try.underlying23 infoInt rfl _ _ _ _ rfl hfo2.1 [.int .i64 z] 1 rfl rfl oneInt c1 c2 hs2 ?_; intro a3 n3 cap3 w3 hn3 ho3 hg3 ha3; have hwo3 := hwo2.grew hg3 hac.o hax.o; have hb3 := hfo2.grewBelow hg3 hbw hs2; obtain ⟨bw, aw, nw, cw, ys, rfl, _, hblw, hcw, _, hys, hrow⟩ := hwo3.head hiw)
                have hfo3 : OwnI w3 w.heap.size a3 n3 cap3 (keys (fw ++ [(z, wu ++ [ltr j])])) := by rw [keys_snoc]; exact OwnI.snoc ho3 hfo2.2 hz1 hz2
                have hac3 : Apart (some ⟨bw, 0, none⟩) a3 := Apart.grown hac.o hwo2.1.abelow ha3.o
                have hax3 : ∀ h ∈ hs, Apart h.1 a3 := fun h hh => by
                  obtain ⟨xs, hr⟩ := hwo2.2.at hh
                  exact Apart.grown (hax.o h hh) hr.abelow ha3.o
                obtain rfl : ys = wu := Option.some.inj (hys.o.symm.trans (vals_get hui.o))
                have hnw : nw ≤ 1000 := by rw [← hrow.length]; have := hwl20.o; omega
                clear hys ho3 hg3 hfo2 hwo2 hbw ha3
                replace hac3 := Hd.i hac3
                replace hax3 := Hd.i hax3
                refine copyInts_c _ _ _ ys _ hrow.ints (by omega) ?_
                intro g4 m4 c4 w4 hb4 ho4
                have hm4 : (m4 + 1) * 8 ≤ 140737488355328 := by have := ho4.length; have := hwl20.o; omega
                have hm4' : m4 + 1 ≤ 281474976710656 := by omega
                have hs4 := hb4.size
                have hwm1 : (wm + 1) * 24 ≤ 140737488355328 := by have := hwl.o; omega
                have hwm2 : wm + 1 ≤ 281474976710656 := by have := hwl.o; omega
                have hwo4 := Hd.i (fun (w5 : World) (h : Below w3.heap.size w3 w5) => (hwo3.up h).1)
                have hb35 := Hd.i (fun (w5 : World) (h : Below w3.heap.size w3 w5) => (below_ups hb3 h hb3.size))
                go_wp2_with fail
                refine letterAt_c j _ (by omega) ?_
                go_wp2_with (first | (at_builtin; refine appendL_c rfl _ _ _ rfl w3.heap.size 2 (.int .i64 0) 8 Try.underlying23 infoInt rfl _ _ _ _ rfl ho4.1 [.int .i64 (ltr j)] 1 rfl rfl oneInt hm4 hm4' hs4 ?_; intro a5 n5 cap5 w5 hn5 ho5 hg5 ha5; have hb5 := ho4.grewBelow hg5 hb4 hs4; have hown5 := hwo4.o w5 hb5; have hbw5 := hb35.o w5 hb5; have hs5 := hbw5.size) | (at_builtin; refine appendL_c rfl _ _ _ rfl w.heap.size 23 (.slice none 0 0) 24 Try.underlying22 infoSl rfl _ _ _ _ rfl hown5 [.slice a5 n5 cap5] 1 rfl rfl oneSlice hwm1 hwm2 hs5 ?_; intro a6 n6 cap6 w6 hn6 ho6 hg6 ha6))
                have hlb := ltrs_bd (m := 1000) (x := ltr j)
                have hr5 : OwnI w5 w3.heap.size a5 n5 cap5 (ys ++ [ltr j]) := OwnI.snoc ho5 ho4.2 (by unfold ltr; split <;> omega) (by unfold ltr; split <;> omega)
                have hnew := hwo3.snoc hb5 hr5 hb3.size hg6 ho6 ha6.o
                have hfo6 := hg6.ownI (hfo3.up hb5) hac3.o.symm
                refine ⟨⟨j + 1, _, a3, n3, cap3, a6, n6, cap6, hs ++ [(a5, n5, cap5)], by omega, by go_num, rfl, rfl, hnx.o, hfo6, by rw [vals_snoc]; exact hnew, ?_, ?_, hbw5.trans (hg6.below hs5 fun b off s e => (hown5.lt e).1)⟩, by simp [intOf]; omega⟩
                · exact (Apart.grown hac3.o.symm (hfo3.up hb5).abelow ha6.o).symm
                · intro h hh
                  rcases List.mem_append.1 hh with hh | hh
                  · exact hax3.o h hh
                  · obtain rfl := List.mem_singleton.1 hh
                    intro b off s off' s' e e'
                    have := (hr5.1.lt e).1
                    have := (hfo3.1.lt e').2
                    omega
          · obtain rfl : j = 2 * n := by omega
            have hst' : fw = st xss x (i + 1) := by
              have h1 := hscan
              rw [← hln.o, ← st_some hu0] at h1
              exact h1
            have hno' : Hd (∀ j u, j < i + 1 → (keys fw)[j]? = some u → u ≠ y) := by
              intro j u hj e
              by_cases hji : j = i
              · subst hji; rw [get_keys hui] at e; cases e; exact huy
              · have e2 : (keys (st xss x i))[j]? = some u := by
                  have h3 := (List.getElem?_eq_some_iff.1 hu0).1
                  have h4 : (keys (st xss x i))[j]? = some ((keys (st xss x i))[j]'(by rw [keys_length]; omega)) := List.getElem?_eq_getElem _
                  obtain ⟨ww, h5⟩ := keys_get h4
                  have h6 := get_keys (prefix_get (st_prefix xss x i) h5)
                  rw [← hst', e] at h6
                  rw [h4]; exact h6.symm
                exact hno.o j u (by omega) e2
            have hnj : ¬ ((2 * n : Nat) : Int) < 2 * (n : Int) := by omega
            have hi1 : i + 1 ≤ m := by omega
            have hi20 : i < 20 := by omega
            rw [hst'] at hfo hwo hno'
            clear hu0 hscan hok hui hur hid hlen hml hwl hil
            replace hst' := Hd.i hst'
            go_wp2
            exact ⟨⟨i + 1, c, m, capc, wa, wm, wcap, hs, hi1, by go_num, rfl, rfl, hfo, hwo, hac, hax, hno', hb⟩, by simp [intOf]; omega⟩
    · obtain rfl : i = m := by omega
      have hfin : st xss x i = bfs d xss x := bfs_of hgs.o hx.o (by omega)
      have hnone : Hd (wordAt (bfs d xss x) y = none) := wordAt_none fun hm => by
        rw [← hfin] at hm
        obtain ⟨j, hj⟩ := List.getElem?_of_mem hm
        exact hno.o j y (by have := (List.getElem?_eq_some_iff.1 hj).1; rw [keys_length] at this; omega) hj rfl
      replace hml := Hd.i hml
      replace hwl := Hd.i hwl
      replace hfin := Hd.i hfin
      go_wp2
      have h := H'.o
      rw [hnone.o] at h
      exact h _ _ _ _ (hb.alloc hb.size _) (OwnI.emptyLit _ hb.size)
end Go.Proofs.Ytiekjklhojmnoaa
