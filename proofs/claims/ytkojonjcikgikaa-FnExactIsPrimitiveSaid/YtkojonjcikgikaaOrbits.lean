/- All orbits: the reference's and the program's; the contracts of Orbit, Orbits, IsTransitive, FixedPoints. -/
import Derived.Test.YtkojonjcikgikaaOrbitS
import Derived.Test.YtkojonjcikgikaaWordsW
namespace Go.Proofs.Ytkojonjcikgikaa
open Go.RowKit

theorem flat_seen {d : Nat} {xss : List (List Int)} (hg : Gens d xss) : ∀ k, k ≤ d → ∀ y, y ∈ (orbsTo d xss k).flatten ↔ SeenO xss k y
  | 0, _, y => by simp [orbsTo, idl, SeenO]
  | k + 1, hk, y => by
    rw [orbsTo_succ, List.flatten_append, List.mem_append, flat_seen hg k (by omega)]
    by_cases h : LeadO xss k
    · rw [if_pos h, seenO_succ]
      simp [mem_orb hg (x := (k : Int)) (by omega)]
    · rw [if_neg h, seenO_old hg (by omega) h]
      simp
theorem flat_le (d : Nat) (xss : List (List Int)) : ∀ k, (orbsTo d xss k).flatten.length ≤ k * d
  | 0 => by simp [orbsTo, idl]
  | k + 1 => by
    have ih := flat_le d xss k
    have := orb_le d xss k
    rw [orbsTo_succ, List.flatten_append, List.length_append, Nat.succ_mul]
    split
    · simp only [List.flatten_cons, List.flatten_nil, List.append_nil]; omega
    · simp only [List.flatten_nil, List.length_nil]; omega
theorem seenO_dec {d : Nat} {xss : List (List Int)} (hg : Gens d xss) {k : Nat} (hk : k < d) {l : List Int} (h : ∀ y, y ∈ l ↔ SeenO xss k y) : l.contains (k : Int) = true ↔ ¬ LeadO xss k := by
  rw [← seenO_self hg hk, ← h]
  simp

set_option maxHeartbeats 1000000 in
theorem allOrbits_c {R : Ending → World → Prop} (d : Nat) (a : Option Addr) (n cap : Nat) (xss : List (List Int)) (w : World) (hm : Mat w a n xss) (hg : Hd (GenSet (d : Int) xss)) (H : MakesR R w (orbs d xss)) :
    Calls Try.prog 74 #[.int .i64 d, .slice a n cap] w R := by
  have H' := Hd.i H; clear H
  have hd1 : 1 ≤ d := by have := hg.o.1; omega
  have hd20 : d ≤ 20 := by have := hg.o.2.1; omega
  have hgs := Hd.i (genSet_gens hg.o)
  go_enter Try.func74, Try.ntmps74
  go_wp2
  go_loopw [5, 6, 7] (fun v u i wr => ∃ (k : Nat) (c : Option Addr) (m capc : Nat) (hs : List Hdr) (s : Option Addr) (ns caps : Nat), k ≤ d ∧ i = .int .i64 k ∧ v = .slice c m capc ∧ u = .slice s ns caps ∧ OwnH wr w.heap.size c m capc hs (orbsTo d xss k) ∧ OwnI wr w.heap.size s ns caps (orbsTo d xss k).flatten ∧ Hd (Apart c s) ∧ Hd (∀ x ∈ hs, Apart x.1 s) ∧ Below w.heap.size w wr)
    (fun _ _ i _ => d - (intOf i).toNat)
  case atStart =>
    refine ⟨0, some ⟨w.heap.size, 0, none⟩, 0, 0, [], some ⟨w.heap.size + 1, 0, none⟩, 0, 0, Nat.zero_le _, rfl, rfl, by simp, ?_, ?_, ?_, by simp [Hd], ?_⟩
    · exact (OwnH.emptyLit w (Nat.le_refl _)).up ((Below.refl _ _).alloc (Nat.le_refl _) _)
    · have := OwnI.emptyLit (w.alloc (.cells #[] 22)) (B := w.heap.size) (by simp)
      simpa [orbsTo, idl] using this
    · intro b off s off' s' e e'; cases e; simp at e'
    · exact ((Below.refl _ _).alloc (Nat.le_refl _) _).alloc (by simp) _
  case round =>
    obtain ⟨k, c, m, capc, hs, s, ns, caps, hk, rfl, rfl, rfl, ho, hse, hac, hax, hb⟩ := hrel
    by_cases hlt : k < d
    · have hkr := Hd.i (show 0 ≤ (k : Int) ∧ (k : Int) < d by omega)
      have hdec := seenO_dec hgs.o hlt (flat_seen hgs.o k hk)
      have hmk : m ≤ k := by rw [← ho.length]; exact orbsTo_le d xss k
      have hns : ns ≤ 400 := by rw [← hse.length]; have := flat_le d xss k; have : k * d ≤ 20 * 20 := Nat.mul_le_mul (by omega) hd20; omega
      by_cases hL : LeadO xss k
      · have hcon := Hd.i (show ((orbsTo d xss k).flatten).contains (k : Int) = false from Bool.eq_false_iff.2 fun e => hdec.1 e hL)
        have el := Hd.i (show orbsTo d xss (k + 1) = orbsTo d xss k ++ [orb d xss k] by rw [orbsTo_succ, if_pos hL])
        clear hdec
        have c1 : (m + 1) * 24 ≤ 140737488355328 := by omega
        have c2 : m + 1 ≤ 281474976710656 := by omega
        go_wp2_with fail
        refine containsInt_c _ _ _ (orbsTo d xss k).flatten (k : Int) _ hse.ints ?_
        rw [hcon.o]
        go_wp2_with fail
        refine orbitOf_c d _ _ _ xss (k : Int) _ (hm.up hb) hgs hd20 hkr ?_
        intro a1 m1 d1 os w1 hos hb1 ho1
        have hso := Hd.i (sortI_orb hgs.o hkr.o hos.o)
        have hol := found_le hgs.o hkr.o hos.o
        have hm1 : m1 ≤ 1000 := by rw [← ho1.length]; omega
        replace hol := Hd.i hol
        go_wp2_with fail
        refine sortedInts_c _ _ _ os _ ho1.ints hm1 hos.o.1 ?_
        intro a2 m2 d2 w2 hb2 ho2
        rw [hso.o] at ho2
        have hb12 := below_ups hb1 hb2 hb1.size
        have ho12 : OwnI w2 wr.heap.size a2 m2 d2 (orb d xss k) := ho2.mono hb1.size
        have hbw := below_ups hb hb12 hb.size
        have hsw := hbw.size
        have hm2 : m2 ≤ 20 := by rw [← ho2.length]; have := orb_le d xss k; omega
        have hown := ho.1.up hb12
        have hse2 := hse.up hb12
        have c3 : (ns + m2) * 8 ≤ 140737488355328 := by omega
        have c4 : ns + m2 ≤ 281474976710656 := by omega
        have hsa : Apart s c := hac.o.symm
        have hsx : ∀ x ∈ hs, Apart x.1 s := hax.o
        have hs2 : Apart a2 s := by intro b off s1 off' s' e e'; have := (ho12.1.lt e).1; have := (hse.1.lt e').2; omega
        have ha2c : Apart a2 c := by intro b off s1 off' s' e e'; have := (ho12.1.lt e).1; have := (ho.1.lt e').2; omega
        replace hsa := Hd.i hsa
        replace hsx := Hd.i hsx
        replace hs2 := Hd.i hs2
        replace ha2c := Hd.i ha2c
        clear hb1 ho1 hb2 ho2
        go_wp2_with (first | (at_builtin; refine appendL_c rfl _ _ _ rfl w.heap.size 22 (.slice none 0 0) 24 Try.underlying36 infoSl rfl _ _ _ _ rfl hown [.slice a2 m2 d2] 1 rfl rfl oneSlice c1 c2 hsw ?_; intro a3 n3 cap3 w3 hn3 ho3 hg3 ha3; have hse3 := hg3.ownI hse2 hsa.o; have hr3 := hg3.ownI ho12 ha2c.o; have hb3 := ho.grewBelow hg3 hbw hsw; have hsw3 := hb3.size) | (at_builtin; refine append_c rfl _ _ _ rfl w.heap.size 2 (.int .i64 0) 8 Try.underlying22 infoInt rfl _ _ _ _ rfl hse3.1 _ _ _ ((orb d xss k).map (Value.int .i64)) rfl hr3.ints.1 oneInts c3 c4 hsw3 ?_; intro a4 n4 cap4 w4 hn4 ho4 hg4 ha4))
        have hnew := ho.snoc hb12 ho12 hb.size hg3 ho3 ha3.o
        have hap3 : Apart a3 s := (Apart.grown (hsa.o) hse2.abelow ha3.o).symm
        have hx3 : ∀ x ∈ hs ++ [(a2, m2, d2)], Apart x.1 s := by
          intro x hx
          rcases List.mem_append.1 hx with hx | hx
          · exact hsx.o x hx
          · obtain rfl := List.mem_singleton.1 hx; exact hs2.o
        have hnew4 := hnew.grew hg4 hap3 hx3
        have hse4 : OwnI w4 w.heap.size a4 n4 cap4 (orbsTo d xss (k + 1)).flatten := by
          rw [el.o, List.flatten_append]
          refine ⟨by simpa using ho4, fun y hy => ?_⟩
          rcases List.mem_append.1 hy with hy | hy
          · exact hse.2 y hy
          · simp at hy; have := orb_range hy; omega
        rw [← el.o] at hnew4
        refine ⟨⟨k + 1, a3, n3, cap3, hs ++ [(a2, m2, d2)], a4, n4, cap4, by omega, by go_num, rfl, rfl, hnew4, hse4, ?_, ?_, hb3.trans (hg4.below hsw3 (fun b off s1 e => (hse3.1.lt e).1))⟩, by simp [intOf]; omega⟩
        · exact Apart.grown (j := 0) hap3 hnew.1.abelow ha4.o
        · intro x hx
          obtain ⟨xs, hr⟩ := hnew.2.at hx
          exact Apart.grown (j := 0) (hx3 x hx) hr.abelow ha4.o
      · have hcon := Hd.i (show ((orbsTo d xss k).flatten).contains (k : Int) = true from hdec.2 hL)
        have el := Hd.i (show orbsTo d xss (k + 1) = orbsTo d xss k by rw [orbsTo_succ, if_neg hL, List.append_nil])
        clear hdec
        go_wp2_with fail
        refine containsInt_c _ _ _ (orbsTo d xss k).flatten (k : Int) _ hse.ints ?_
        rw [hcon.o]
        go_wp2
        exact ⟨⟨k + 1, c, m, capc, hs, s, ns, caps, by omega, by go_num, rfl, rfl, by rw [el.o]; exact ho, by rw [el.o]; exact hse, hac, hax, hb⟩, by simp [intOf]; omega⟩
    · obtain rfl : k = d := by omega
      go_wp2
      exact H'.o _ _ _ _ _ hb ho

open Classical in
/-- Of the orbit the points below k. -/
noncomputable def orbTo (xss : List (List Int)) (x : Int) (k : Nat) : List Int := (idl k).filter fun y => decide (Reach xss x y)
open Classical in
theorem orbTo_succ (xss : List (List Int)) (x : Int) (k : Nat) : orbTo xss x (k + 1) = orbTo xss x k ++ (if Reach xss x k then [(k : Int)] else []) := by
  unfold orbTo
  rw [idl_succ, List.filter_append]
  congr 1
  by_cases h1 : Reach xss x k <;> simp [h1]
theorem orbTo_le (xss : List (List Int)) (x : Int) (k : Nat) : (orbTo xss x k).length ≤ k := by
  unfold orbTo
  refine Nat.le_trans (List.length_filter_le _ _) ?_
  rw [idl_length]; exact Nat.le_refl _

set_option maxHeartbeats 1000000 in
theorem implOrb_c {R : Ending → World → Prop} (d : Nat) (a : Option Addr) (n cap : Nat) (xss : List (List Int)) (x : Nat) (w : World) (hm : Mat w a n xss) (hg : Hd (GenSet (d : Int) xss)) (hx : x < d) (H : MakesI R w (orb d xss x)) :
    Calls Try.prog 102 #[.int .i64 d, .slice a n cap, .int .i64 x] w R := by
  have H' := Hd.i H; clear H
  have hd20 : d ≤ 20 := by have := hg.o.2.1; omega
  have hgs := Hd.i (genSet_gens hg.o)
  have hxr := Hd.i (show 0 ≤ (x : Int) ∧ (x : Int) < d by omega)
  have hne := neNil
  go_enter Try.func102, Try.ntmps102
  go_wp2_with fail
  refine wordsFrom_c d _ _ _ xss x _ hm hg hx ?_
  intro w1 hb1 hW
  go_wp2
  go_loopw [7, 15] (fun v i wr => ∃ (k : Nat) (c : Option Addr) (m capc : Nat), k ≤ d ∧ i = .int .i64 k ∧ v = .slice c m capc ∧ OwnI wr w1.heap.size c m capc (orbTo xss x k) ∧ Below w1.heap.size w1 wr) (fun _ i _ => d - (intOf i).toNat)
  case atStart => exact ⟨0, none, 0, 0, Nat.zero_le _, rfl, rfl, by simpa [orbTo, idl] using OwnI.nil w1 _, Below.refl _ _⟩
  case round =>
    obtain ⟨k, c, m, capc, hk, rfl, rfl, ho, hb⟩ := hrel
    by_cases hlt : k < d
    · obtain ⟨wa, wn, wc, hcw, hfw, hwno, hwso⟩ := (hW.up hb).at hlt
      have hmk : m ≤ k := by rw [← ho.length]; exact orbTo_le xss x k
      have hmem := mem_bfs hgs.o hxr.o (k : Int)
      by_cases hr : Reach xss x k
      · obtain ⟨ws, hws⟩ := Option.isSome_iff_exists.1 ((wordAt_isSome (okF_bfs hgs.o hxr.o).1 (k : Int)).2 (hmem.2 hr))
        obtain ⟨ad, rfl⟩ : ∃ ad, wa = some ad := Option.ne_none_iff_exists'.1 (hwso.o ws hws).1
        have el := Hd.i (show orbTo xss x (k + 1) = orbTo xss x k ++ [(k : Int)] by rw [orbTo_succ, if_pos hr])
        clear hwso hwno hws hmem
        have c1 : (m + 1) * 8 ≤ 140737488355328 := by omega
        have c2 : m + 1 ≤ 281474976710656 := by omega
        have hs := hb.size
        go_wp2_with (at_builtin; refine appendL_c rfl _ _ _ rfl w1.heap.size 2 (.int .i64 0) 8 Try.underlying22 infoInt rfl _ _ _ _ rfl ho.1 [.int .i64 k] 1 rfl rfl oneInt c1 c2 hs ?_; intro a2 n2 cap2 w2 hn2 ho2 hg2 ha2)
        exact ⟨⟨k + 1, a2, n2, cap2, by omega, by go_num, rfl, by rw [el.o]; exact OwnI.snoc ho2 ho.2 (by omega) (by omega), ho.grewBelow hg2 hb hs⟩, by simp [intOf]; omega⟩
      · have hnil := hwno.o (wordAt_none (fun h => hr (hmem.1 h)))
        simp only [Prod.mk.injEq] at hnil
        obtain ⟨rfl, rfl, rfl⟩ := hnil
        have el := Hd.i (show orbTo xss x (k + 1) = orbTo xss x k by rw [orbTo_succ, if_neg hr, List.append_nil])
        clear hwso hwno hmem
        go_wp2
        exact ⟨⟨k + 1, c, m, capc, by omega, by go_num, rfl, by rw [el.o]; exact ho, hb⟩, by simp [intOf]; omega⟩
    · obtain rfl : k = d := by omega
      go_wp2
      exact H'.o _ _ _ _ (below_ups hb1 hb hb1.size) (ho.mono hb1.size)
end Go.Proofs.Ytkojonjcikgikaa
