/- ParseCycles of the reference: one cycle. -/
import Derived.Test.YtkojonjcikgikaaDoorSplitC
import Derived.Test.YtkojonjcikgikaaDoorPurePC
import Derived.Test.YtkojonjcikgikaaDoorPut
import Derived.Test.YtkojonjcikgikaaDoorQue
import Derived.Test.YtkojonjcikgikaaDoorParseI
namespace Go.Proofs.YtkojonjcikgikaaDoor
open Go.RowKit

theorem rdS_ok {q : List Int} (hq : IsPerm q) : ∀ c ∈ longC q, rdS q.length (txt c) c := by
  intro c hc
  have hs := longC_small hq hc
  have hne := longC_ne hq hc
  refine ⟨?_, (vals_txt hs hne).symm, (longC_cyc hq c hc).2⟩
  rw [wsplit_txt hs hne]
  intro y hy
  rw [List.mem_map] at hy
  obtain ⟨x, hx, rfl⟩ := hy
  exact (num_dig (hs x hx).1 (hs x hx).2).1
theorem putTo_step {p c : List Int} {k : Nat} {i : Nat} {v : Int} (h1 : c[k]? = some (i : Int)) (h2 : c[(k + 1) % c.length]? = some v) : putTo p c (k + 1) = (putTo p c k).set i v := by
  rw [putTo]
  have e1 : at0 c (k : Int) = i := by unfold at0; rw [Int.toNat_natCast, h1]; rfl
  have e2 : at0 c (((k + 1) % c.length : Nat) : Int) = v := by unfold at0; rw [Int.toNat_natCast, h2]; rfl
  rw [e1, e2, Int.toNat_natCast]

theorem Grew.thenG {a : Option Addr} {w w1 w2 : World} (h : Grew a w w1) (k : Grew a w1 w2) : Grew a w w2 :=
  ⟨k.os.trans h.os, k.tape.trans h.tape, k.output.trans h.output, Nat.le_trans h.size k.size, fun j hj hne => (k.block j (Nat.lt_of_lt_of_le hj h.size) hne).trans (h.block j hj hne)⟩

set_option maxHeartbeats 1000000 in
set_option maxRecDepth 100000 in
theorem parseCycle_c {R : Ending → World → Prop} (B g n cap : Nat) (p : List Int) (l : List UInt8) (w : World) (ho : OwnI w B (some ⟨g, 0, none⟩) n cap p) (hl : Hd (l.length ≤ 200))
    (H1 : ∀ c w', Hd (rdS n l c) → Grew (some ⟨g, 0, none⟩) w w' → OwnI w' B (some ⟨g, 0, none⟩) n cap (putC p c) → R (.returned (.bool true)) w')
    (H0 : ∀ w', Hd (∀ c, ¬ rdS n l c) → Below w.heap.size w w' → R (.returned (.bool false)) w') :
    Calls Tryd.prog 27 #[.slice (some ⟨g, 0, none⟩) n cap, .string (S l)] w R := by
  replace H1 := Hd.i H1
  replace H0 := Hd.i H0
  have hpl := Hd.i ho.length
  have hgl : g < w.heap.size := (ho.1.lt rfl).2
  have hwl := Hd.i (wsplit_len (c := 32) l)
  go_enter Tryd.func27, Tryd.ntmps27
  go_wp2_with (first | (go_at_call 19; refine splitText_c l _ hl.o ?_; intro a1 n1 c1 w1 hb1 ho1))
  have hn1 := Hd.i (show (wsplit 32 l).length = n1 by have := ho1.length; simpa [strs] using this)
  have hn201 : n1 ≤ 201 := by have := hwl.o.1; have := hn1.o; have := hl.o; omega
  have hs1 := hb1.size
  have hv := ho1.vals
  go_loopw [6, 7] (fun v i wr => ∃ (k : Nat) (c : Option Addr) (m capc : Nat), k ≤ n1 ∧ i = .int .i64 k ∧ v = .slice c m capc ∧ OwnI wr w1.heap.size c m capc (((wsplit 32 l).take k).map (valD 0)) ∧ Hd (∀ y ∈ (wsplit 32 l).take k, numOk y) ∧ Hd (InR n (((wsplit 32 l).take k).map (valD 0))) ∧ Below w1.heap.size w1 wr) (fun _ i _ => n1 - (intOf i).toNat)
  case atStart => exact ⟨0, _, 0, 0, Nat.zero_le _, rfl, rfl, OwnI.emptyLit _ (Nat.le_refl _), by simp [Hd], by simp [Hd, InR], (Below.refl _ _).alloc (Nat.le_refl _) _⟩
  case round =>
    obtain ⟨k, c, m, capc, hk, rfl, rfl, hoc, hnum, hin, hb⟩ := hrel
    have hsz := hb.size
    by_cases hlt : k < n1
    · obtain ⟨b, off, v, rfl, hbl, hcell, hvk⟩ := (hv.up hb).at hlt
      have hvk' := hvk.o
      rw [strs, List.getElem?_map, Option.map_eq_some_iff] at hvk'
      obtain ⟨y, hy, rfl⟩ := hvk'
      have hyl := Hd.i (Nat.le_trans (hwl.o.2 y (List.mem_of_getElem? hy)) hl.o)
      have hmem := Hd.i (List.mem_of_getElem? hy)
      have etk := Hd.i (take_succ_some hy)
      clear hvk
      replace hy := Hd.i hy
      by_cases hok : numOk y
      · have hvr := valD_lt _ y rfl hok.2.2
        have hvb : valD 0 y < 1000000000 := by
          have h6 : (10 : Int) ^ y.length ≤ 10 ^ 9 := by
            have : (10 : Nat) ^ y.length ≤ 10 ^ 9 := Nat.pow_le_pow_right (by omega) hok.1.2
            exact_mod_cast this
          omega
        have hv0 := hvr.1
        have hmk : m ≤ k := by have := hoc.length; rw [List.length_map, List.length_take] at this; omega
        have c1' : (m + 1) * 8 ≤ 140737488355328 := by omega
        have c2' : m + 1 ≤ 281474976710656 := by omega
        have hdec := Hd.i (decide_eq_true hok)
        have hif := Hd.i (show (if numOk y then valD 0 y else 0) = valD 0 y from if_pos hok)
        have hnum' : Hd (∀ z ∈ (wsplit 32 l).take (k + 1), numOk z) := by
          intro z hz
          rw [etk.o, List.mem_append] at hz
          rcases hz with hz | hz
          · exact hnum.o z hz
          · rw [List.mem_singleton] at hz; rw [hz]; exact hok
        clear hok hvr
        by_cases hxn : valD 0 y < n
        · have hxn2 : ¬ ((n : Int) ≤ valD 0 y) := by omega
          have hin' : Hd (InR n (((wsplit 32 l).take (k + 1)).map (valD 0))) := by
            intro z hz
            rw [etk.o, List.map_append, List.mem_append] at hz
            rcases hz with hz | hz
            · exact hin.o z hz
            · simp at hz; rw [hz]; exact ⟨hv0, hxn⟩
          go_wp2_with (first | (go_at_call 20; refine parseInt_c y _ hyl.o ?_; rw [hdec.o, hif.o]) | (at_builtin; refine appendL_c rfl _ _ _ rfl w1.heap.size 2 (.int .i64 0) 8 Tryd.underlying22 infoInt rfl _ _ _ _ rfl hoc.1 [.int .i64 (valD 0 y)] 1 rfl rfl oneInt c1' c2' hsz ?_; intro a2 n2 cap2 w2 hn2 ho2 hg2 ha2))
          refine ⟨⟨k + 1, a2, n2, cap2, by omega, by go_num, rfl, ?_, hnum', hin', hoc.grewBelow hg2 hb hsz⟩, by simp [intOf]; omega⟩
          rw [etk.o, List.map_append]
          exact OwnI.snoc ho2 hoc.2 (by omega) (by omega)
        · have hxn2 : (n : Int) ≤ valD 0 y := by omega
          have hno : Hd (∀ c, ¬ rdS n l c) := fun c hc => by
            have h1 := hc.2.2 (valD 0 y) (by rw [hc.2.1]; exact List.mem_map.2 ⟨y, hmem.o, rfl⟩)
            exact hxn h1.2
          go_wp2_with (first | (go_at_call 20; refine parseInt_c y _ hyl.o ?_; rw [hdec.o, hif.o]))
          exact H0.o _ hno (below_ups hb1 hb hs1)
      · have hdec := Hd.i (decide_eq_false hok)
        have hif := Hd.i (show (if numOk y then valD 0 y else 0) = 0 from if_neg hok)
        have hno : Hd (∀ c, ¬ rdS n l c) := fun c hc => hok (hc.1 y hmem.o)
        clear hok
        go_wp2_with (first | (go_at_call 20; refine parseInt_c y _ hyl.o ?_; rw [hdec.o, hif.o]))
        exact H0.o _ hno (below_ups hb1 hb hs1)
    · obtain rfl : k = n1 := by omega
      rw [List.take_of_length_le (by have := hn1.o; omega)] at hoc hnum hin
      obtain ⟨C, hC⟩ : ∃ C, C = (wsplit 32 l).map (valD 0) := ⟨_, rfl⟩
      rw [← hC] at hoc hin
      have hrd : Hd (rdS n l C) := ⟨hnum.o, hC, hin.o⟩
      have hcl := Hd.i hoc.length
      have hm48 := hoc.le
      have hbw := below_ups hb1 hb hs1
      have how := ho.up hbw
      have hgw : g < wr.heap.size := by omega
      have hapc : Apart (some (⟨g, 0, none⟩ : Addr)) c := by
        intro b o s o' s' e e'
        cases e
        have := (hoc.1.lt e').1
        omega
      replace hapc := Hd.i hapc
      clear ho hv ho1 hnum
      replace hC := Hd.i hC
      obtain ⟨wo, hwo⟩ : ∃ wo, wo = wr := ⟨wr, rfl⟩
      rw [← hwo] at hoc how hbw hgw
      have hoc0 := hoc
      go_wp2
      go_loopw [10] (fun i wr' => ∃ j : Nat, j ≤ m ∧ i = .int .i64 j ∧ OwnI wr' B (some ⟨g, 0, none⟩) n cap (putTo p C j) ∧ OwnI wr' w1.heap.size c m capc C ∧ Grew (some ⟨g, 0, none⟩) wo wr') (fun i _ => m - (intOf i).toNat)
      case atStart => exact ⟨0, Nat.zero_le _, rfl, by rw [← hwo]; exact how, by rw [← hwo]; exact hoc, by rw [← hwo]; exact Grew.refl _ _⟩
      case round =>
        clear how hoc hoc0
        obtain ⟨j, hj, rfl, hop, hoc, hgr⟩ := hrel
        by_cases hlt2 : j < m
        · obtain ⟨gc, x, rfl, hgc1, hgc2, hx1, hx2, hx3⟩ := hoc.look hlt2
          obtain ⟨j', hj'⟩ : ∃ j', j' = (j + 1) % m := ⟨_, rfl⟩
          have hj'm : j' < m := by rw [hj']; exact Nat.mod_lt _ (by omega)
          obtain ⟨y, hy1, hy2, hy3, hy4, hy5⟩ := hoc.at' hj'm
          have hxr := hin.o x (List.mem_of_getElem? hx3.o)
          obtain ⟨i, rfl⟩ : ∃ i : Nat, x = i := ⟨x.toNat, by omega⟩
          have hi : i < n := by omega
          obtain ⟨u, hu1, hu2, _, _, _⟩ := hop.at' hi
          have hm0 : ¬ m = 0 := by omega
          have hmod : Int.tmod (wrap64 ((j : Int) + 1)) (m : Int) = (j' : Int) := by rw [IntWalk.wrap64_in ((j : Int) + 1) (by omega), Int.tmod_eq_emod_of_nonneg (by omega), hj']; simp
          have hmod2 : Int.tmod (IntKind.i64.wrap ((j : Int) + 1)) (m : Int) = (j' : Int) := by rw [IntWalk.i64_left]; exact hmod
          have est := Hd.i (putTo_step (p := p) hx3.o (by rw [hcl.o, ← hj']; exact hy3.o))
          have hop2 := hop.put (k := i) (x := y) hy4 hy5
          rw [← est.o] at hop2
          have hoc2 := hoc.store_other (g := g) (off := 0) (s := none) i (.int .i64 y) hapc.o
          have hgr2 := Hd.i (hgr.then_store i (.int .i64 y))
          replace hj' := Hd.i hj'
          go_wp2
          go_region
          all_goals go_wp2
          all_goals exact ⟨⟨j + 1, by omega, by go_num, hop2.drew, hoc2.drew, hgr2.o.then_drew (Drew.refl _).one⟩, by simp [intOf]; omega⟩
        · obtain rfl : j = m := by omega
          have e : putTo p C j = putC p C := by unfold putC; rw [hcl.o]
          rw [e] at hop
          go_wp2
          exact H1.o C _ hrd ((Grew.of_below hbw).thenG hgr) hop
end Go.Proofs.YtkojonjcikgikaaDoor
