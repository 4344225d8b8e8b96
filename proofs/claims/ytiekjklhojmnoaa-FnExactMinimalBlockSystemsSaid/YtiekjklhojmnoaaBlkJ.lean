/- IsBlockSystem, BlockAction. -/
import Derived.Test.YtiekjklhojmnoaaBlkI
import Derived.Test.YtiekjklhojmnoaaBlkT
namespace Go.Proofs.Ytiekjklhojmnoaa
open Go.RowKit

def MakesRB (R : Ending → World → Prop) (w : World) (yss : List (List Int)) (b : Bool) : Prop :=
  ∀ a n cap hs w', Below w.heap.size w w' → OwnH w' w.heap.size a n cap hs yss → R (.returned (.tuple #[.slice a n cap, .bool b])) w'
open Classical in
noncomputable def sysB (z : Int) (xss bs : List (List Int)) : Bool := decide (BlockSys z xss bs)
open Classical in
theorem sysB_true {z : Int} {xss bs : List (List Int)} (h : BlockSys z xss bs) : sysB z xss bs = true := by unfold sysB; exact decide_eq_true h
open Classical in
theorem sysB_false {z : Int} {xss bs : List (List Int)} (h : ¬ BlockSys z xss bs) : sysB z xss bs = false := by unfold sysB; exact decide_eq_false h
open Classical in
noncomputable def pBlkAct (z : Int) (xss bs : List (List Int)) : List (List Int) := if BlockSys z xss bs then xss.map (act bs) else []
theorem pBlkAct_cells (z : Int) (xss bs : List (List Int)) : cells (pBlkAct z xss bs) ≤ 160 := by
  unfold pBlkAct
  split
  · rename_i h
    have h8 := h.1.2.2.1
    have h20 : bs.length ≤ 20 := by have := h.2.1.le; have := h.1.2.1; omega
    unfold cells
    have key : ∀ l : List (List Int), ((l.map (act bs)).map List.length).sum = l.length * bs.length := by
      intro l
      induction l with
      | nil => simp
      | cons a t ih => rw [List.map_cons, List.map_cons, List.sum_cons, ih, act_length, List.length_cons, Nat.add_mul]; omega
    rw [key]
    exact Nat.le_trans (Nat.mul_le_mul h8 h20) (by omega)
  · simp [cells]
theorem gsB {d : Nat} {xss : List (List Int)} (h : GenSet (d : Int) xss) : ∀ g ∈ xss, Pm d g := fun g hg => by
  have := h.2.2.2 g hg
  exact ⟨this.2, by have := this.1; omega⟩
theorem genD {z : Int} {xss : List (List Int)} (h : GenSet z xss) : ∃ d : Nat, z = d := ⟨z.toNat, by have := h.1; omega⟩
def SysTo (bs xss : List (List Int)) (i : Nat) : Prop := ∀ (j : Nat) (g : List Int), j < i → xss[j]? = some g → Resp bs g ∧ Resp bs (inv g)
theorem SysTo.step {bs xss : List (List Int)} {i : Nat} {g : List Int} (h : SysTo bs xss i) (hg : xss[i]? = some g) (hr : Resp bs g) (hi : Resp bs (inv g)) : SysTo bs xss (i + 1) := fun j x hj e => by
  by_cases hji : j = i
  · subst hji; rw [hg] at e; cases e; exact ⟨hr, hi⟩
  · exact h j x (by omega) e
theorem SysTo.all {bs xss : List (List Int)} (h : SysTo bs xss xss.length) : ∀ g ∈ xss, Resp bs g ∧ Resp bs (inv g) := fun g hg => by
  obtain ⟨j, hj, e⟩ := List.mem_iff_getElem.1 hg
  exact h j g hj (by rw [List.getElem?_eq_getElem hj, e])

set_option maxHeartbeats 4000000 in
theorem specSys_c {K : Ending → World → Prop} (z : Int) (a : Option Addr) (n cap : Nat) (xss : List (List Int)) (b : Option Addr) (m capb : Nat) (bs : List (List Int)) (w : World) (hm : Mat w a n xss) (hmb : Mat w b m bs)
    (H : Gives K w (.bool (sysB z xss bs))) : Calls Try.prog 40 #[.int .i64 z, .slice a n cap, .slice b m capb] w K := by
  have H' := Hd.i H; clear H
  by_cases hg : GenSet z xss
  · have hdec := Hd.i (decide_eq_true hg)
    obtain ⟨d, rfl⟩ := genD hg
    have h1 : 1 ≤ d := by have := hg.1; omega
    have h2 : d ≤ 20 := by have := hg.2.1; omega
    have hn8 : n ≤ 8 := by have := hg.2.2.1; have := hm.length; omega
    have hln := Hd.i hm.length
    have hgs := Hd.i (gsB hg)
    by_cases hP : Part d bs
    · have hpb := Hd.i (partB_true hP)
      replace hP := Hd.i hP
      have hys : Hd (SysTo bs xss xss.length → BlockSys (d : Int) xss bs) := fun h => ⟨hg, hP.o, h.all⟩
      replace hg := Hd.i hg
      go_enter Try.func40, Try.ntmps40
      go_wp2_with fail
      refine specGenSet_c (d : Int) _ _ _ xss _ hm ?_
      intro w1 hd1
      rw [hdec.o]
      have hb1 := hd1.below w.heap.size
      go_wp2_with fail
      refine specPart_c d _ _ _ bs _ h1 h2 (hmb.up hb1) ?_
      intro w2 hb2
      rw [hpb.o]
      have hb12 := below_ups hb1 hb2 hb1.size
      go_wp2_with fail
      refine specIndexes_c d _ _ _ bs _ h2 (hmb.up hb12) hP ?_
      intro a3 n3 c3 w3 hb3 ho3
      have hb13 := below_ups hb12 hb3 hb12.size
      go_wp2
      go_loopw [8] (fun iv wr => ∃ i : Nat, i ≤ n ∧ iv = .int .i64 i ∧ Hd (SysTo bs xss i) ∧ Below w3.heap.size w3 wr) (fun iv _ => n - (intOf iv).toNat)
      case atStart => exact ⟨0, Nat.zero_le _, rfl, fun j g hj => by omega, Below.refl _ _⟩
      case round =>
        obtain ⟨i, hi, rfl, hto, hb⟩ := hrel
        by_cases hlt : i < n
        · obtain ⟨b5, off5, a5, n5, c5, g, rfl, hbb, hcell0, hy, hI0, hc5⟩ := (hm.up hb13).at hlt
          have hcell := keep1 hcell0 hb
          have hgp := Hd.i (hgs.o g (List.mem_of_getElem? hy.o))
          have hgpi := Hd.i hgp.o.inv
          have hperm := hgp.o.1
          have hmr := (hmb.up hb13).up hb
          have hcI := ho3.ints.up hb
          have hgI := hI0.up hb
          by_cases hr : Resp bs g
          · have hrb := Hd.i (respB_true hr)
            by_cases hri : Resp bs (inv g)
            · have hrib := Hd.i (respB_true hri)
              have hto2 := Hd.i (hto.o.step hy.o hr hri)
              replace hr := Hd.i hr
              replace hri := Hd.i hri
              go_wp2_with fail
              refine specRespects_c d _ _ _ g _ _ _ bs _ _ _ _ hP h2 hgp hgI hmr hcI ?_
              intro w4 hd4
              rw [hrb.o]
              have hcell4 : w4.cell? ⟨b5, off5 + i, none⟩ = some (.slice a5 n5 c5) := keep1 hcell (hd4.below _)
              have hmr4 := hd4.rows hmr
              have hcI4 := hd4.ints hcI
              have hgI4 := hd4.ints hgI
              have hb4 := hb.trans (hd4.below _)
              go_wp2_with fail
              refine specInverse_c _ _ _ g _ hgI4 hperm ?_
              intro a6 n6 c6 w6 hb6 ho6
              have hb46 := below_ups hb4 hb6 hb4.size
              go_wp2_with fail
              refine specRespects_c d _ _ _ (inv g) _ _ _ bs _ _ _ _ hP h2 hgpi ho6.ints (hmr4.up hb6) (hcI4.up hb6) ?_
              intro w7 hd7
              rw [hrib.o]
              go_wp2
              exact ⟨⟨i + 1, by omega, by go_num, hto2.o, hd7.up hb46⟩, by simp [intOf]; omega⟩
            · have hrib := Hd.i (respB_false hri)
              have hf := Hd.i (sysB_false (z := (d : Int)) (xss := xss) (bs := bs) fun h => hri (h.2.2 g (List.mem_of_getElem? hy.o)).2)
              replace hr := Hd.i hr
              replace hri := Hd.i hri
              go_wp2_with fail
              refine specRespects_c d _ _ _ g _ _ _ bs _ _ _ _ hP h2 hgp hgI hmr hcI ?_
              intro w4 hd4
              rw [hrb.o]
              have hcell4 : w4.cell? ⟨b5, off5 + i, none⟩ = some (.slice a5 n5 c5) := keep1 hcell (hd4.below _)
              have hmr4 := hd4.rows hmr
              have hcI4 := hd4.ints hcI
              have hgI4 := hd4.ints hgI
              have hb4 := hb.trans (hd4.below _)
              go_wp2_with fail
              refine specInverse_c _ _ _ g _ hgI4 hperm ?_
              intro a6 n6 c6 w6 hb6 ho6
              have hb46 := below_ups hb4 hb6 hb4.size
              go_wp2_with fail
              refine specRespects_c d _ _ _ (inv g) _ _ _ bs _ _ _ _ hP h2 hgpi ho6.ints (hmr4.up hb6) (hcI4.up hb6) ?_
              intro w7 hd7
              rw [hrib.o]
              go_wp2
              exact retB (H'.o _ (below_ups hb13 (hd7.up hb46) hb13.size)) hf.o
          · have hrb := Hd.i (respB_false hr)
            have hf := Hd.i (sysB_false (z := (d : Int)) (xss := xss) (bs := bs) fun h => hr (h.2.2 g (List.mem_of_getElem? hy.o)).1)
            replace hr := Hd.i hr
            go_wp2_with fail
            refine specRespects_c d _ _ _ g _ _ _ bs _ _ _ _ hP h2 hgp hgI hmr hcI ?_
            intro w4 hd4
            rw [hrb.o]
            go_wp2
            exact retB (H'.o _ (below_ups hb13 (hd4.up hb) hb13.size)) hf.o
        · obtain rfl : i = n := by omega
          have ht := Hd.i (sysB_true (hys.o (by rw [hln.o]; exact hto.o)))
          go_wp2
          exact retB (H'.o _ (below_ups hb13 hb hb13.size)) ht.o
    · have hpb := Hd.i (partB_false hP)
      have hf := Hd.i (sysB_false (z := (d : Int)) (xss := xss) (bs := bs) fun h => hP (by have := h.2.1; rwa [Int.toNat_natCast] at this))
      replace hP := Hd.i hP
      replace hg := Hd.i hg
      go_enter Try.func40, Try.ntmps40
      go_wp2_with fail
      refine specGenSet_c (d : Int) _ _ _ xss _ hm ?_
      intro w1 hd1
      rw [hdec.o]
      have hb1 := hd1.below w.heap.size
      go_wp2_with fail
      refine specPart_c d _ _ _ bs _ h1 h2 (hmb.up hb1) ?_
      intro w2 hb2
      rw [hpb.o]
      go_wp2
      exact retB (H'.o _ (below_ups hb1 hb2 hb1.size)) hf.o
  · have hdec := Hd.i (decide_eq_false hg)
    have hf := Hd.i (sysB_false (z := z) (xss := xss) (bs := bs) fun h => hg h.1)
    replace hg := Hd.i hg
    go_enter Try.func40, Try.ntmps40
    go_wp2_with fail
    refine specGenSet_c z _ _ _ xss _ hm ?_
    intro w1 hd1
    rw [hdec.o]
    go_wp2
    exact retB (H'.o _ (hd1.below _)) hf.o

theorem act_take_succ {bs : List (List Int)} {g b : List Int} {i : Nat} (hb : bs[i]? = some b) : (act bs g).take (i + 1) = (act bs g).take i ++ [((ixB bs (at0 g (at0 b 0)) : Nat) : Int)] := take_succ_some (act_get hb)

set_option maxHeartbeats 4000000 in
theorem implAction_c {K : Ending → World → Prop} (d : Nat) (ag : Option Addr) (ng capg : Nat) (g : List Int) (a : Option Addr) (n cap : Nat) (bs : List (List Int)) (ac : Option Addr) (nc capc : Nat) (w : World) (hP : Hd (Part d bs)) (h2 : d ≤ 20) (hg : Hd (Pm d g)) (hgI : Ints w ag ng g) (hm : Mat w a n bs) (hcI : Ints w ac nc (cls d bs))
    (H : Resp bs g → MakesIB K w (act bs g) (decide (IsPerm (act bs g)))) (H0 : ¬ Resp bs g → ∀ a n c w', Below w.heap.size w w' → K (.returned (.tuple #[.slice a n c, .bool false])) w') :
    Calls Try.prog 88 #[.slice ag ng capg, .slice a n cap, .slice ac nc capc] w K := by
  have H' := Hd.i H; clear H
  have H0' := Hd.i H0; clear H0
  have hln := Hd.i hm.length
  have hle := hm.le
  have hn20 : n ≤ 20 := by have := hP.o.le; have := hln.o; omega
  go_enter Try.func88, Try.ntmps88
  go_wp2
  go_loopw [8, 16] (fun v iv wr => ∃ (i : Nat) (c : Option Addr) (m capc : Nat), i ≤ n ∧ iv = .int .i64 i ∧ v = .slice c m capc ∧ OwnI wr w.heap.size c m capc ((act bs g).take i) ∧ Below w.heap.size w wr ∧ Hd (RespTo bs g i)) (fun _ iv _ => n - (intOf iv).toNat)
  case atStart => exact ⟨0, none, 0, 0, Nat.zero_le _, rfl, rfl, OwnI.nil _ _, Below.refl _ _, fun j b hj => by omega⟩
  case round =>
    obtain ⟨i, c, m, capc', hi, rfl, rfl, ho, hb, hto⟩ := hrel
    by_cases hlt : i < n
    · obtain ⟨b, off, a5, n5, c5, blk, rfl, hbb, hcell0, hy, hI0, hc5⟩ := hm.at hlt
      have hcell := keep1 hcell0 hb
      have hps := Hd.i (hP.o.set blk (List.mem_of_getElem? hy.o))
      have hne := Hd.i (hP.o.ne blk (List.mem_of_getElem? hy.o))
      have hl5 := Hd.i hI0.length
      have hn5p : 0 < n5 := by have := List.length_pos_iff.2 hne.o; have := hl5.o; omega
      have hle5 := hI0.le
      obtain ⟨bh, offh, x0, rfl, _, hch0, hx0, hx01, hx02⟩ := hI0.at hn5p
      have hx0r := hps.o.2 x0 (List.mem_of_getElem? hx0.o)
      have hx0e := Hd.i (show at0 blk 0 = x0 from at0_of (by simpa using hx0.o))
      obtain ⟨bg, offg, bc, offc, y0, rfl, rfl, hg0, hc0, hy0, hy01, hy02, hnn, hixl⟩ := look3 hP.o hg.o hgI hcI hx0r
      have hng := hnn.o.1
      have hnc := hnn.o.2
      subst hng
      subst hnc
      have f3 : wr.cell? ⟨bh, offh, none⟩ = some (.int .i64 x0) := by simpa using keep1 hch0 hb
      have f5 := keep1 hg0 hb
      have f7 := keep1 hc0 hb
      obtain ⟨u, hu⟩ : ∃ u, ixB bs (at0 g x0) = u := ⟨_, rfl⟩
      rw [hu] at f7 hc0
      have hul : u ≤ 20 := by have := hixl.o; rw [hu] at this; have := hln.o; omega
      replace hu := Hd.i hu
      have hmi : m ≤ 20 := by have := ho.length; rw [List.length_take, act_length] at this; have := hln.o; omega
      go_wp2
      go_loop [31] (fun kv => ∃ k : Nat, k ≤ n5 ∧ kv = .int .i64 k ∧ Hd (RespIn bs g blk k)) (fun kv => n5 - (intOf kv).toNat)
      case atStart => exact ⟨0, Nat.zero_le _, rfl, fun j x hj => by omega⟩
      case round =>
        obtain ⟨k, hk, rfl, hin⟩ := hrel
        by_cases hltk : k < n5
        · obtain ⟨b5, off5, x, e5, _, hcx0, hx, hx1, hx2⟩ := hI0.at hltk
          cases e5
          have hxr := hps.o.2 x (List.mem_of_getElem? hx.o)
          obtain ⟨bg2, offg2, bc2, offc2, y, eg, ec, hg1, hc1, hy1, hy11, hy12, _, _⟩ := look3 hP.o hg.o hgI hcI hxr
          cases eg
          cases ec
          have f2 := keep1 hcx0 hb
          have f4 := keep1 hg1 hb
          have f6 := keep1 hc1 hb
          clear hcx0 hg1 hc1
          by_cases heq : ixB bs (at0 g x) = u
          · have hin2 := Hd.i (hin.o.step hx.o (by rw [hx0e.o, hu.o]; exact heq))
            rw [heq] at f6
            replace heq := Hd.i heq
            go_wp2
            exact ⟨⟨k + 1, by omega, by go_num, hin2.o⟩, by simp [intOf]; omega⟩
          · have hf := Hd.i (show ¬ Resp bs g from fun hR => heq (by have := hR blk (List.mem_of_getElem? hy.o) x (List.mem_of_getElem? hx.o); rwa [hx0e.o, hu.o] at this))
            obtain ⟨v, hv⟩ : ∃ v, ixB bs (at0 g x) = v := ⟨_, rfl⟩
            rw [hv] at f6 heq
            replace hv := Hd.i hv
            have hbne : ((v : Int) == (u : Int)) = false := by simp; omega
            have hbne2 : ((v : Int) != (u : Int)) = true := by simp; omega
            go_wp2
            exact H0'.o hf.o _ _ _ _ hb
        · obtain rfl : k = n5 := by omega
          have hto2 := Hd.i (hto.o.step hy.o (by rw [hl5.o]; exact hin.o))
          have k1 : (m + 1) * 8 ≤ 140737488355328 := by omega
          have k2 : m + 1 ≤ 281474976710656 := by omega
          have hs := hb.size
          go_wp2_with (at_builtin; refine appendL_c rfl _ _ _ rfl w.heap.size 2 (.int .i64 0) 8 Try.underlying23 infoInt rfl _ _ _ _ rfl ho.1 [.int .i64 (u : Nat)] 1 rfl rfl oneInt k1 k2 hs ?_; intro a2 n2 cap2 w2 hn2 ho2 hg2 ha2)
          refine ⟨⟨i + 1, a2, n2, cap2, by omega, by go_num, rfl, ?_, ho.grewBelow hg2 hb hs, hto2.o⟩, by simp [intOf]; omega⟩
          rw [act_take_succ hy.o, hx0e.o, hu.o]
          exact OwnI.snoc ho2 ho.2 (by omega) (by omega)
    · obtain rfl : i = n := by omega
      have hR := Hd.i (show Resp bs g by have := hto.o; rw [← hln.o] at this; exact this.all)
      rw [List.take_of_length_le (by rw [act_length]; have := hln.o; omega)] at ho
      go_wp2_with fail
      refine implIsPerm_c _ _ _ (act bs g) _ ho.ints ?_
      go_wp2
      exact H'.o hR.o _ _ _ _ hb ho
end Go.Proofs.Ytiekjklhojmnoaa
