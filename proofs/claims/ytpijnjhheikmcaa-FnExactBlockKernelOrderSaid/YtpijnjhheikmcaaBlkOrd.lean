/- BlockActionOrder, BlockKernelOrder. -/
import Derived.Test.YtpijnjhheikmcaaBlkK
import Derived.Test.YtpijnjhheikmcaaChainTop3
namespace Go.Proofs.Ytpijnjhheikmcaa
open Go.RowKit

theorem lengthR_c {R : Ending → World → Prop} (a : Option Addr) (len cap : Nat) (w : World) (H : R (.returned (.int .i64 len)) w) :
    Calls Try.prog 80 #[.slice a len cap] w R := by
  have H' := Hd.i H; clear H
  go_enter Try.func80, Try.ntmps80
  go_wp2
  exact H'.o

open Classical in
noncomputable def pActOrd (z : Int) (xss bs : List (List Int)) : Int := if BlockSys z xss bs then pGroupOrder (bs.length : Int) (xss.map (act bs)) else 0
open Classical in
noncomputable def pKerOrd (z : Int) (xss bs : List (List Int)) : Int := if BlockSys z xss bs then pGroupOrder z xss / pActOrd z xss bs else 0
theorem genSet_act {z : Int} {xss bs : List (List Int)} (h : BlockSys z xss bs) : GenSet (bs.length : Int) (xss.map (act bs)) := by
  obtain ⟨hg, hP, hr⟩ := h
  obtain ⟨d, rfl⟩ := genD hg
  rw [Int.toNat_natCast] at hP
  have h1 : 1 ≤ d := by have := hg.1; omega
  have h2 : d ≤ 20 := by have := hg.2.1; omega
  have h3 := hP.pos h1
  have h4 := hP.le
  refine ⟨by omega, by omega, by rw [List.length_map]; exact hg.2.2.1, fun p hp => ?_⟩
  obtain ⟨g, hgm, rfl⟩ := List.mem_map.1 hp
  exact ⟨by rw [act_length], (hP.resp_iff h1 h2 (gsB hg g hgm) (hr g hgm).1).1 (hr g hgm).2⟩
theorem pActOrd_nat (z : Int) (xss bs : List (List Int)) : ∃ x : Nat, pActOrd z xss bs = (x : Int) ∧ x ≤ 2432902008176640000 ∧ (BlockSys z xss bs → 1 ≤ x) ∧ (¬ BlockSys z xss bs → x = 0) := by
  by_cases h : BlockSys z xss bs
  · obtain ⟨x, h1, h2, h3⟩ := pGroupOrder_nat (bs.length : Int) (xss.map (act bs))
    exact ⟨x, by simp [pActOrd, h, h1], h2, fun _ => h3 (genSet_act h), fun hn => absurd h hn⟩
  · exact ⟨0, by simp [pActOrd, h], by omega, fun hn => absurd hn h, fun _ => rfl⟩

theorem specActOrd_c {R : Ending → World → Prop} (z : Int) (a : Option Addr) (n cap : Nat) (xss : List (List Int)) (b : Option Addr) (m capb : Nat) (bs : List (List Int)) (w : World) (hm : Mat w a n xss) (hmb : Mat w b m bs)
    (H : Gives R w (.int .i64 (pActOrd z xss bs))) : Calls Try.prog 43 #[.int .i64 z, .slice a n cap, .slice b m capb] w R := by
  have H' := Hd.i H; clear H
  have hlm := Hd.i hmb.length
  by_cases hS : BlockSys z xss bs
  · have e := Hd.i (show pActOrd z xss bs = pGroupOrder (bs.length : Int) (xss.map (act bs)) by simp [pActOrd, hS])
    have ea := Hd.i (show pBlkAct z xss bs = xss.map (act bs) by simp [pBlkAct, hS])
    have hsb := Hd.i (sysB_true hS)
    replace hS := Hd.i hS
    go_enter Try.func43, Try.ntmps43
    go_wp2_with fail
    refine specBlkAct_c z a n cap xss b m capb bs w hm hmb ?_
    intro a3 n3 c3 hs3 w3 hb3 ho3
    rw [hsb.o]
    rw [ea.o] at ho3
    go_wp2_with fail
    refine specGroupOrder_c (m : Int) _ _ _ (xss.map (act bs)) _ ho3.rows ?_
    intro w4 hb4
    go_wp2
    exact retI (H'.o _ (below_ups hb3 hb4 hb3.size)) (by rw [e.o, hlm.o])
  · have e := Hd.i (show pActOrd z xss bs = 0 by simp [pActOrd, hS])
    have hsb := Hd.i (sysB_false hS)
    replace hS := Hd.i hS
    go_enter Try.func43, Try.ntmps43
    go_wp2_with fail
    refine specBlkAct_c z a n cap xss b m capb bs w hm hmb ?_
    intro a3 n3 c3 hs3 w3 hb3 ho3
    rw [hsb.o]
    go_wp2
    exact retI (H'.o _ hb3) e.o
theorem topSpecBlockActionOrder {R : Ending → World → Prop} {B B' : Nat} (z : Int) (a : Option Addr) (n cap : Nat) (hs : List Hdr) (xss : List (List Int)) (b : Option Addr) (m capb : Nat) (hs' : List Hdr) (bs : List (List Int)) (w : World) (_ : -9223372036854775808 ≤ z ∧ z ≤ 9223372036854775807) (hx : OwnH w B a n cap hs xss) (hy : OwnH w B' b m capb hs' bs)
    (H : Gives R w (.int .i64 (pActOrd z xss bs))) : Calls Try.prog 43 #[.int .i64 z, .slice a n cap, .slice b m capb] w R := specActOrd_c z a n cap xss b m capb bs w hx.rows hy.rows H
theorem topSpecBlockKernelOrder {R : Ending → World → Prop} {B B' : Nat} (z : Int) (a : Option Addr) (n cap : Nat) (hs : List Hdr) (xss : List (List Int)) (b : Option Addr) (m capb : Nat) (hs' : List Hdr) (bs : List (List Int)) (w : World) (_ : -9223372036854775808 ≤ z ∧ z ≤ 9223372036854775807) (hx : OwnH w B a n cap hs xss) (hy : OwnH w B' b m capb hs' bs)
    (H : Gives R w (.int .i64 (pKerOrd z xss bs))) : Calls Try.prog 45 #[.int .i64 z, .slice a n cap, .slice b m capb] w R := by
  have H' := Hd.i H; clear H
  have hmx := hx.rows
  have hmy := hy.rows
  clear hx hy
  obtain ⟨x, hx1, hx2, hx3, hx5⟩ := pActOrd_nat z xss bs
  obtain ⟨y, hy1, hy2, hy3⟩ := pGroupOrder_nat z xss
  by_cases hS : BlockSys z xss bs
  · have hx4 := hx3 hS
    have e := Hd.i (show pKerOrd z xss bs = (y : Int) / (x : Int) by simp [pKerOrd, hS, hx1, hy1])
    have hle : 0 ≤ (y : Int) / (x : Int) := Int.ediv_nonneg (by omega) (by omega)
    have hdv : (y : Int) / (x : Int) ≤ y := Int.ediv_le_self _ (by omega)
    have hq := Hd.i (IntWalk.wrap64_in ((y : Int) / (x : Int)) (by omega))
    have hx0 : ((x : Int) == 0) = false := by simp; omega
    replace hS := Hd.i hS
    replace hx1 := Hd.i hx1
    replace hy1 := Hd.i hy1
    clear hx3 hy3 hle hdv hx5
    go_enter Try.func45, Try.ntmps45
    go_wp2_with fail
    refine specActOrd_c z _ _ _ xss _ _ _ bs _ hmx hmy ?_
    intro w1 hb1
    rw [hx1.o]
    go_wp2_with fail
    refine specGroupOrder_c z _ _ _ xss _ (hmx.up hb1) ?_
    intro w2 hb2
    rw [hy1.o]
    go_wp2
    first | rw [hq.o] | skip
    exact retI (H'.o _ (below_ups hb1 hb2 hb1.size)) e.o
  · obtain rfl := hx5 hS
    have e := Hd.i (show pKerOrd z xss bs = 0 by simp [pKerOrd, hS])
    replace hS := Hd.i hS
    replace hx1 := Hd.i hx1
    clear hx3 hy3 hx5
    go_enter Try.func45, Try.ntmps45
    go_wp2_with fail
    refine specActOrd_c z _ _ _ xss _ _ _ bs _ hmx hmy ?_
    intro w1 hb1
    rw [hx1.o]
    go_wp2
    exact retI (H'.o _ hb1) e.o

theorem implActOrd_c {R : Ending → World → Prop} (z : Int) (a : Option Addr) (n cap : Nat) (xss : List (List Int)) (b : Option Addr) (m capb : Nat) (bs : List (List Int)) (w : World) (hm : Mat w a n xss) (hmb : Mat w b m bs)
    (H : Gives R w (.int .i64 (pActOrd z xss bs))) : Calls Try.prog 44 #[.int .i64 z, .slice a n cap, .slice b m capb] w R := by
  have H' := Hd.i H; clear H
  have hlm := Hd.i hmb.length
  by_cases hS : BlockSys z xss bs
  · have e := Hd.i (show pActOrd z xss bs = pGroupOrder (bs.length : Int) (xss.map (act bs)) by simp [pActOrd, hS])
    have ea := Hd.i (show pBlkAct z xss bs = xss.map (act bs) by simp [pBlkAct, hS])
    have hsb := Hd.i (sysB_true hS)
    replace hS := Hd.i hS
    go_enter Try.func44, Try.ntmps44
    go_wp2_with fail
    refine implBlkAct_c z a n cap xss b m capb bs w hm hmb ?_
    intro a3 n3 c3 hs3 w3 hb3 ho3
    rw [hsb.o]
    rw [ea.o] at ho3
    go_wp2_with (go_at_call 80; refine lengthR_c _ _ _ _ ?_)
    refine implGroupOrder_c (m : Int) _ _ _ (xss.map (act bs)) _ ho3.rows ?_
    intro w4 hb4
    go_wp2
    exact retI (H'.o _ (below_ups hb3 hb4 hb3.size)) (by rw [e.o, hlm.o])
  · have e := Hd.i (show pActOrd z xss bs = 0 by simp [pActOrd, hS])
    have hsb := Hd.i (sysB_false hS)
    replace hS := Hd.i hS
    go_enter Try.func44, Try.ntmps44
    go_wp2_with fail
    refine implBlkAct_c z a n cap xss b m capb bs w hm hmb ?_
    intro a3 n3 c3 hs3 w3 hb3 ho3
    rw [hsb.o]
    go_wp2
    exact retI (H'.o _ hb3) e.o
theorem topImplBlockActionOrder {R : Ending → World → Prop} {B B' : Nat} (z : Int) (a : Option Addr) (n cap : Nat) (hs : List Hdr) (xss : List (List Int)) (b : Option Addr) (m capb : Nat) (hs' : List Hdr) (bs : List (List Int)) (w : World) (_ : -9223372036854775808 ≤ z ∧ z ≤ 9223372036854775807) (hx : OwnH w B a n cap hs xss) (hy : OwnH w B' b m capb hs' bs)
    (H : Gives R w (.int .i64 (pActOrd z xss bs))) : Calls Try.prog 44 #[.int .i64 z, .slice a n cap, .slice b m capb] w R := implActOrd_c z a n cap xss b m capb bs w hx.rows hy.rows H
theorem topImplBlockKernelOrder {R : Ending → World → Prop} {B B' : Nat} (z : Int) (a : Option Addr) (n cap : Nat) (hs : List Hdr) (xss : List (List Int)) (b : Option Addr) (m capb : Nat) (hs' : List Hdr) (bs : List (List Int)) (w : World) (_ : -9223372036854775808 ≤ z ∧ z ≤ 9223372036854775807) (hx : OwnH w B a n cap hs xss) (hy : OwnH w B' b m capb hs' bs)
    (H : Gives R w (.int .i64 (pKerOrd z xss bs))) : Calls Try.prog 46 #[.int .i64 z, .slice a n cap, .slice b m capb] w R := by
  have H' := Hd.i H; clear H
  have hmx := hx.rows
  have hmy := hy.rows
  clear hx hy
  obtain ⟨x, hx1, hx2, hx3, hx5⟩ := pActOrd_nat z xss bs
  obtain ⟨y, hy1, hy2, hy3⟩ := pGroupOrder_nat z xss
  by_cases hS : BlockSys z xss bs
  · have hx4 := hx3 hS
    have e := Hd.i (show pKerOrd z xss bs = (y : Int) / (x : Int) by simp [pKerOrd, hS, hx1, hy1])
    have hle : 0 ≤ (y : Int) / (x : Int) := Int.ediv_nonneg (by omega) (by omega)
    have hdv : (y : Int) / (x : Int) ≤ y := Int.ediv_le_self _ (by omega)
    have hq := Hd.i (IntWalk.wrap64_in ((y : Int) / (x : Int)) (by omega))
    have hx0 : ((x : Int) == 0) = false := by simp; omega
    replace hS := Hd.i hS
    replace hx1 := Hd.i hx1
    replace hy1 := Hd.i hy1
    clear hx3 hy3 hle hdv hx5
    go_enter Try.func46, Try.ntmps46
    go_wp2_with fail
    refine implActOrd_c z _ _ _ xss _ _ _ bs _ hmx hmy ?_
    intro w1 hb1
    rw [hx1.o]
    go_wp2_with fail
    refine implGroupOrder_c z _ _ _ xss _ (hmx.up hb1) ?_
    intro w2 hb2
    rw [hy1.o]
    go_wp2
    first | rw [hq.o] | skip
    exact retI (H'.o _ (below_ups hb1 hb2 hb1.size)) e.o
  · obtain rfl := hx5 hS
    have e := Hd.i (show pKerOrd z xss bs = 0 by simp [pKerOrd, hS])
    replace hS := Hd.i hS
    replace hx1 := Hd.i hx1
    clear hx3 hy3 hx5
    go_enter Try.func46, Try.ntmps46
    go_wp2_with fail
    refine implActOrd_c z _ _ _ xss _ _ _ bs _ hmx hmy ?_
    intro w1 hb1
    rw [hx1.o]
    go_wp2
    exact retI (H'.o _ hb1) e.o
end Go.Proofs.Ytpijnjhheikmcaa
