/- JoinBlockSystems: the reference and the program. -/
import Derived.Test.YtiekjklhojmnoaaJoinB
import Derived.Test.YtiekjklhojmnoaaMinK
import Derived.Test.YtiekjklhojmnoaaRd
namespace Go.Proofs.Ytiekjklhojmnoaa
open Go.RowKit

theorem pJoinS_cells (z : Int) (xs ys : List (List Int)) : cells (pJoinS z xs ys) ≤ 400 := by
  unfold pJoinS
  split
  · rename_i h
    refine Nat.le_trans (blks_cells _ _) ?_
    have : z.toNat ≤ 20 := by have := h.1.2; omega
    exact Nat.mul_le_mul this this
  · simp [cells]
theorem Part.rows_le {d : Nat} {bs : List (List Int)} (h : Part d bs) : ∀ b ∈ bs, b.length ≤ d := fun b hb => (h.set b hb).length_le

theorem matJoinD {D : Nat → Prop} {w : World} {B : Nat} {c : Option Addr} {m capc : Nat} {h1 h2 : List Hdr} {xs ys : List (List Int)} (ho : Own w B 23 c m capc (h1.map hvv ++ h2.map hvv)) (hD : ∀ b, fpI c b → D b) (l1 : h1.length = xs.length) (l2 : h2.length = ys.length)
    (r1 : ∀ (j : Nat) (h : Hdr) (x : List Int), h1[j]? = some h → xs[j]? = some x → IntsD D w h.1 h.2.1 x ∧ h.2.1 ≤ h.2.2) (r2 : ∀ (j : Nat) (h : Hdr) (x : List Int), h2[j]? = some h → ys[j]? = some x → IntsD D w h.1 h.2.1 x ∧ h.2.1 ≤ h.2.2) : MatD D w c m (xs ++ ys) := by
  refine ⟨h1 ++ h2, by rw [List.map_append]; exact ho.vals, ?_, fun b _ e => hD b e, fun j h x e e' => ?_⟩
  · have := ho.length
    rw [List.length_append, List.length_map, List.length_map] at this
    rw [List.length_append]; omega
  · by_cases hj : j < h1.length
    · rw [List.getElem?_append_left hj] at e
      rw [List.getElem?_append_left (by omega)] at e'
      exact r1 j h x e e'
    · rw [List.getElem?_append_right (by omega)] at e
      rw [List.getElem?_append_right (by omega)] at e'
      rw [← l1] at e'
      exact r2 _ h x e e'

set_option maxRecDepth 100000 in
set_option maxHeartbeats 8000000 in
theorem topSpecJoinBlockSystems {R : Ending → World → Prop} {B B' : Nat} (z : Int) (a : Option Addr) (n cap : Nat) (hs0 : List Hdr) (xs : List (List Int)) (b : Option Addr) (m capb : Nat) (hs' : List Hdr) (ys : List (List Int)) (w : World) (_ : -9223372036854775808 ≤ z ∧ z ≤ 9223372036854775807) (hx : OwnH w B a n cap hs0 xs) (hy : OwnH w B' b m capb hs' ys)
    (H : MakesR R w (pJoinS z xs ys)) : Calls Try.prog 42 #[.int .i64 z, .slice a n cap, .slice b m capb] w R := by
  have H' := Hd.i H; clear H
  have hmx := hx.rows
  have hmy := hy.rows
  clear hx hy
  have hno : Hd (¬ JoinOkB z xs ys → MakesR R w []) := fun h => by
    have e : pJoinS z xs ys = [] := by simp [pJoinS, h]
    rw [← e]
    exact H'.o
  by_cases hz : 1 ≤ z ∧ z ≤ 20
  · obtain ⟨d, rfl⟩ : ∃ d : Nat, z = d := ⟨z.toNat, by omega⟩
    have h1 : 1 ≤ d := by omega
    have h2 : d ≤ 20 := by omega
    by_cases hPx : Part d xs
    · have hpx := Hd.i (partB_true hPx)
      by_cases hPy : Part d ys
      · have hpy := Hd.i (partB_true hPy)
        have hH : Hd (MakesR R w (pJoinB d (xs ++ ys))) := by
          have e : pJoinS (d : Int) xs ys = pJoinB d (xs ++ ys) := by unfold pJoinS; rw [if_pos ⟨hz, by rw [Int.toNat_natCast]; exact hPx, by rw [Int.toNat_natCast]; exact hPy⟩, Int.toNat_natCast]
          show MakesR R w (pJoinB d (xs ++ ys))
          rw [← e]; exact H'.o
        have hbs := Hd.i (hPx.bsOk.append hPy.bsOk)
        have hlx := hmx.length
        have hly := hmy.length
        have hn20 : n ≤ 20 := by have := hPx.le; omega
        have hm20 : m ≤ 20 := by have := hPy.le; omega
        have hrx : Hd (∀ x ∈ xs, x.length ≤ 1000) := fun x hx => by have := hPx.rows_le x hx; omega
        have hry : Hd (∀ x ∈ ys, x.length ≤ 1000) := fun x hx => by have := hPy.rows_le x hx; omega
        have hrl : Hd (∀ x ∈ xs ++ ys, x.length ≤ 20) := fun x hx => by
          rcases List.mem_append.1 hx with hx | hx
          · have := hPx.rows_le x hx; omega
          · have := hPy.rows_le x hx; omega
        replace hlx := Hd.i hlx
        replace hly := Hd.i hly
        replace hPx := Hd.i hPx
        replace hPy := Hd.i hPy
        replace hz := Hd.i hz
        go_enter Try.func42, Try.ntmps42
        go_wp2_with fail
        refine inRange_c _ _ _ _ (fun _ => ?_) (fun h => absurd ⟨by omega, by omega⟩ h)
        go_wp2_with fail
        refine specPart_c d _ _ _ xs _ h1 h2 hmx ?_
        intro w1 hb1
        rw [hpx.o]
        go_wp2_with fail
        refine specPart_c d _ _ _ ys _ h1 h2 (hmy.up hb1) ?_
        intro w2 hb2
        rw [hpy.o]
        have hb12 := below_ups hb1 hb2 hb1.size
        go_wp2_with fail
        refine specIdentity_c d _ (by omega) ?_
        intro a3 n3 c3 w3 hb3 ho3
        have hb13 := below_ups hb12 hb3 hb12.size
        go_wp2_with fail
        refine specCopyLists_c _ _ _ xs _ (hmx.up hb13) (by omega) hrx ?_
        intro a4 n4 c4 hs4 w4 hb4 ho4
        have hb14 := below_ups hb13 hb4 hb13.size
        go_wp2_with fail
        refine specCopyLists_c _ _ _ ys _ (hmy.up hb14) (by omega) hry ?_
        intro a5 n5 c5 hs5 w5 hb5 ho5
        have hb15 := below_ups hb14 hb5 hb14.size
        have ho4' := ho4.up hb5
        have hn4 : n4 ≤ 20 := by rw [← ho4.length, hlx.o]; exact hn20
        have hn5 : n5 ≤ 20 := by rw [← ho5.length, hly.o]; exact hm20
        have k1 : (n4 + n5) * 24 ≤ 140737488355328 := by omega
        have k2 : n4 + n5 ≤ 281474976710656 := by omega
        have hB5 : w3.heap.size ≤ w5.heap.size := Nat.le_trans hb4.size hb5.size
        go_wp2_with (at_builtin; refine append_c rfl _ _ _ rfl w3.heap.size 23 (.slice none 0 0) 24 Try.underlying22 infoSl rfl _ _ _ _ rfl ho4'.1 _ _ _ (hs5.map hvv) rfl ho5.1.vals oneHvv k1 k2 hB5 ?_; intro a6 n6 c6 w6 hn6 ho6 hg6 ha6)
        have hap5 : ∀ x ∈ hs5, Apart x.1 a4 := fun x hx => by
          obtain ⟨xs', hr⟩ := ho5.2.at hx
          exact (Apart.of_lt ho4.1.abelow hr.ge).symm
        have hmat : Mat w6 a6 n6 (xs ++ ys) := matJoin ho6 ho4'.2.len ho5.2.len
          (fun j h x e e' => by
            have hr := hg6.ownI (ho4'.2.row j h x e e') (ho4'.2.off h (List.mem_of_getElem? e))
            exact ⟨hr.ints, hr.cap⟩)
          (fun j h x e e' => by
            have hr := hg6.ownI (ho5.2.row j h x e e') (hap5 h (List.mem_of_getElem? e))
            exact ⟨hr.ints, hr.cap⟩)
        have hb56 := hg6.below hB5 (fun b o s e => (ho4'.1.lt e).1)
        have hb36 : Below w3.heap.size w3 w6 := (below_on hb4 hb5).trans hb56
        have hb16 : Below w.heap.size w w6 := below_ups hb13 hb36 hb13.size
        have hLa := ho3.up hb36
        have hln6 := hmat.length
        have hl6 : n6 ≤ 40 := by rw [hn6.o]; omega
        replace hln6 := Hd.i hln6
        clear ho4 ho5 ho4' hap5 hb56 hb36 ho3 hb3 hb4 hb5 hb1 hb2 hb12 hb13 hb14 hb15 ho6 hg6 ha6
        go_wp2
        go_loopw [7, 9] (fun lv iv wr => ∃ (i : Nat) (L : List Int) (c : Option Addr) (mm capc : Nat), i ≤ n6 ∧ iv = .int .i64 i ∧ lv = .slice c mm capc ∧ Ints wr c mm L ∧ Below w6.heap.size w6 wr ∧ Hd (LabJ d (xs ++ ys) L i)) (fun _ iv _ => n6 - (intOf iv).toNat)
        case atStart => exact ⟨0, _, _, _, _, Nat.zero_le _, rfl, rfl, hLa.ints, Below.refl _ _, LabJ.start⟩
        case round =>
          clear hLa
          obtain ⟨i, L, c, mm, capc, hi, rfl, rfl, hLI, hb, hJ⟩ := hrel
          by_cases hlt : i < n6
          · obtain ⟨bB, offB, a7, n7, c7, blk, rfl, hbb, hcell0, hyb, hBI, hc7⟩ := hmat.at hlt
            have hcell := keep1 hcell0 hb
            have hbm := List.mem_of_getElem? hyb.o
            have hbok := hbs.o blk hbm
            have hl7 := hBI.length
            have hn7 : 0 < n7 := by have := List.length_pos_iff.2 hbok.1; omega
            have hn7' : n7 ≤ 20 := by rw [← hl7]; exact hrl.o blk hbm
            obtain ⟨bh, offh, h0, rfl, _, hch0, hh0, _, _⟩ := hBI.at hn7
            have hh0e : at0 blk 0 = h0 := at0_of (by simpa using hh0.o)
            have hh0r := hbok.2 h0 (List.mem_of_getElem? hh0.o)
            have hch : w6.cell? ⟨bh, offh, none⟩ = some (.int .i64 h0) := by simpa using hch0
            replace hbm := Hd.i hbm
            replace hbok := Hd.i hbok
            replace hl7 := Hd.i hl7
            replace hh0e := Hd.i hh0e
            clear hch0
            go_wp2
            go_loopw [7, 10] (fun lv kv wr => ∃ (k : Nat) (L : List Int) (c : Option Addr) (mm capc : Nat), 1 ≤ k ∧ k ≤ n7 ∧ kv = .int .i64 k ∧ lv = .slice c mm capc ∧ Ints wr c mm L ∧ Below w6.heap.size w6 wr ∧ Hd (LabJ d (xs ++ ys) L i ∧ JIn L blk k)) (fun _ kv _ => n7 - (intOf kv).toNat)
            case atStart => exact ⟨1, L, c, mm, capc, Nat.le_refl _, hn7, rfl, rfl, hLI, hb, hJ.o, JIn.one hh0.o hh0e.o⟩
            case round =>
              clear hLI hb hJ hcell
              obtain ⟨k, L, c, mm, capc, hk1, hk, rfl, rfl, hLI, hb, hJ⟩ := hrel
              have hcell := keep1 hcell0 hb
              by_cases hltk : k < n7
              · obtain ⟨_, _, x, e1, _, hcx0, hxx, hx1, hx2⟩ := hBI.at hltk
                cases e1
                have hxr := hbok.o.2 x (List.mem_of_getElem? hxx.o)
                have hmd : mm = d := by rw [← hLI.length]; exact hJ.o.1.lab.len
                obtain ⟨bl, offl, A, rfl, _, hcA, hA, hA1, hA2⟩ := hLI.at (k := h0.toNat) (by omega)
                obtain ⟨_, _, Bv, e1, _, hcB, hB, hB1, hB2⟩ := hLI.at (k := x.toNat) (by omega)
                cases e1
                have hturn := hJ.o.1.turn hbs.o hyb.o hxx.o hJ.o.2 (lo := A) (hi := Bv) (.inl ⟨by rw [hh0e.o]; exact (at0_of hA.o).symm, (at0_of hB.o).symm⟩)
                have hturn' := Hd.i hturn
                have f2 := keep1 hch hb
                have f3 := keep1 hcx0 hb
                have HD := (Drew.refl wr).one.below wr.heap.size
                have hmm : mm ≤ 1000000 := by omega
                obtain ⟨p1, _⟩ := hh0r
                have p2 : h0 < (mm : Int) := by omega
                have p3 : x < (mm : Int) := by omega
                obtain ⟨p4, _⟩ := hxr
                have hAr : -9223372036854775808 ≤ A ∧ A ≤ 9223372036854775807 := ⟨hA1, hA2⟩
                replace hmd := Hd.i hmd
                clear hturn hcx0
                go_wp2
                go_region_held3 (fun w' => w'.cell? ⟨bB, offB + i, none⟩ = some (.slice (some ⟨bh, offh, none⟩) n7 c7) ∧ w'.cell? ⟨bh, offh, none⟩ = some (.int .i64 h0) ∧ w'.cell? ⟨bh, offh + k, none⟩ = some (.int .i64 x) ∧ w'.cell? ⟨bl, offl + h0.toNat, none⟩ = some (.int .i64 A) ∧ w'.cell? ⟨bl, offl + x.toNat, none⟩ = some (.int .i64 Bv))
                  (first | exact ⟨hcell, f2, f3, hcA, hcB⟩ | exact keep5 hcell f2 f3 hcA hcB (below_on HD hbM))
                  ((go_at_call 80; refine specMerge_c _ _ _ L A Bv _ hLI.drew hmm hAr ?_; intro aM nM cM wM hbM hoM))
                have hbM' := below_on HD hbM
                go_wp2
                exact ⟨⟨k + 1, _, aM, nM, cM, by omega, by omega, by go_num, rfl, hoM.ints, hb.trans (hbM'.mono hb.size), hturn'⟩, by simp [intOf]; omega⟩
              · obtain rfl : k = n7 := by omega
                have hJ2 := Hd.i (hJ.o.1.row hyb.o (by rw [hl7.o]; exact hJ.o.2))
                go_wp2
                exact ⟨⟨i + 1, L, c, mm, capc, by omega, by go_num, rfl, hLI, hb, hJ2⟩, by simp [intOf]; omega⟩
          · obtain rfl : i = n6 := by omega
            have hfin := LabJ.blks hbs.o (by rw [hln6.o]; exact hJ.o)
            have hmd : mm = d := by rw [← hLI.length]; exact hJ.o.lab.len
            subst hmd
            go_wp2_with fail
            refine specLabels_c _ _ _ L _ hLI h2 ?_
            intro a8 n8 c8 hs8 w8 hb8 ho8
            rw [hfin] at ho8
            replace hfin := Hd.i hfin
            have hbE := below_ups hb16 hb hb16.size
            go_wp2
            exact hH.o _ _ _ _ _ (below_ups hbE hb8 hbE.size) (ho8.mono hbE.size)
      · have hpy := Hd.i (partB_false hPy)
        have hf := Hd.i (hno.o fun h => hPy (by have := h.2.2; rwa [Int.toNat_natCast] at this))
        replace hPx := Hd.i hPx
        replace hPy := Hd.i hPy
        replace hz := Hd.i hz
        go_enter Try.func42, Try.ntmps42
        go_wp2_with fail
        refine inRange_c _ _ _ _ (fun _ => ?_) (fun h => absurd ⟨by omega, by omega⟩ h)
        go_wp2_with fail
        refine specPart_c d _ _ _ xs _ h1 h2 hmx ?_
        intro w1 hb1
        rw [hpx.o]
        go_wp2_with fail
        refine specPart_c d _ _ _ ys _ h1 h2 (hmy.up hb1) ?_
        intro w2 hb2
        rw [hpy.o]
        have hb12 := below_ups hb1 hb2 hb1.size
        go_wp2
        exact hf.o _ _ _ [] _ (hb12.alloc hb12.size _) (OwnH.emptyLit _ hb12.size)
    · have hpx := Hd.i (partB_false hPx)
      have hf := Hd.i (hno.o fun h => hPx (by have := h.2.1; rwa [Int.toNat_natCast] at this))
      replace hPx := Hd.i hPx
      replace hz := Hd.i hz
      go_enter Try.func42, Try.ntmps42
      go_wp2_with fail
      refine inRange_c _ _ _ _ (fun _ => ?_) (fun h => absurd ⟨by omega, by omega⟩ h)
      go_wp2_with fail
      refine specPart_c d _ _ _ xs _ h1 h2 hmx ?_
      intro w1 hb1
      rw [hpx.o]
      go_wp2
      exact hf.o _ _ _ [] _ (hb1.alloc hb1.size _) (OwnH.emptyLit _ hb1.size)
  · have hf := Hd.i (hno.o fun h => hz h.1)
    have hzh := Hd.i hz
    clear hz
    go_enter Try.func42, Try.ntmps42
    go_wp2_with fail
    refine inRange_c _ _ _ _ (fun h => absurd h hzh.o) (fun _ => ?_)
    go_wp2
    exact hf.o _ _ _ [] _ ((Below.refl _ _).alloc (Nat.le_refl _) _) (OwnH.emptyLit _ (Nat.le_refl _))

set_option maxRecDepth 100000 in
set_option maxHeartbeats 8000000 in
theorem topImplJoinBlockSystems {R : Ending → World → Prop} {B B' : Nat} (z : Int) (a : Option Addr) (n cap : Nat) (hs0 : List Hdr) (xs : List (List Int)) (b : Option Addr) (m capb : Nat) (hs' : List Hdr) (ys : List (List Int)) (w : World) (_ : -9223372036854775808 ≤ z ∧ z ≤ 9223372036854775807) (hx : OwnH w B a n cap hs0 xs) (hy : OwnH w B' b m capb hs' ys)
    (H : MakesR R w (pJoinS z xs ys)) : Calls Try.prog 43 #[.int .i64 z, .slice a n cap, .slice b m capb] w R := by
  have H' := Hd.i H; clear H
  have hmx := hx.rows
  have hmy := hy.rows
  have hno : Hd (¬ JoinOkB z xs ys → MakesR R w []) := fun h => by
    have e : pJoinS z xs ys = [] := by simp [pJoinS, h]
    rw [← e]
    exact H'.o
  by_cases hz : 1 ≤ z ∧ z ≤ 20
  · obtain ⟨d, rfl⟩ : ∃ d : Nat, z = d := ⟨z.toNat, by omega⟩
    have h1 : 1 ≤ d := by omega
    have h2 : d ≤ 20 := by omega
    by_cases hPx : Part d xs
    · by_cases hPy : Part d ys
      · have hH : Hd (MakesR R w (pJoinB d (xs ++ ys))) := by
          have e : pJoinS (d : Int) xs ys = pJoinB d (xs ++ ys) := by unfold pJoinS; rw [if_pos ⟨hz, by rw [Int.toNat_natCast]; exact hPx, by rw [Int.toNat_natCast]; exact hPy⟩, Int.toNat_natCast]
          show MakesR R w (pJoinB d (xs ++ ys))
          rw [← e]; exact H'.o
        have hbs := Hd.i (hPx.bsOk.append hPy.bsOk)
        have hlx := hmx.length
        have hly := hmy.length
        have hn20 : n ≤ 100000 := by have := hPx.le; omega
        have hm20 : m ≤ 100000 := by have := hPy.le; omega
        have hnm : n + m ≤ 40 := by have := hPx.le; have := hPy.le; omega
        have hrl : Hd (∀ x ∈ xs ++ ys, x.length ≤ 20) := fun x hx => by
          rcases List.mem_append.1 hx with hx | hx
          · have := hPx.rows_le x hx; omega
          · have := hPy.rows_le x hx; omega
        have hx2 := hx.2
        have hy2 := hy.2
        have hvx := hx.1.vals
        have hvy := hy.1.vals
        replace hlx := Hd.i hlx
        replace hly := Hd.i hly
        replace hPx := Hd.i hPx
        replace hPy := Hd.i hPy
        replace hz := Hd.i hz
        clear hx hy
        go_enter Try.func43, Try.ntmps43
        go_wp2_with fail
        refine within_c _ _ _ _ (fun _ => ?_) (fun h => absurd ⟨by omega, by omega⟩ h)
        go_wp2_with fail
        refine implClass_c d _ _ _ xs _ h1 h2 hmx (fun _ => ?_) (fun h => absurd hPx.o h)
        intro a1 n1 c1 w1 hb1 _
        go_wp2_with fail
        refine implClass_c d _ _ _ ys _ h1 h2 (hmy.up hb1) (fun _ => ?_) (fun h => absurd hPy.o h)
        intro a2 n2 c2 w2 hb2 _
        have hb12 := below_ups hb1 hb2 hb1.size
        go_wp2_with fail
        refine implIdentity_c d _ (by omega) ?_
        intro a3 n3 c3 w3 hb3 ho3
        have hb13 := below_ups hb12 hb3 hb12.size
        obtain rfl : n3 = d := by rw [← ho3.length, idl_length]
        obtain ⟨g, _, rfl, hgB, hgl, _, _, _⟩ := ho3.look (k := 0) (by omega)
        obtain ⟨wl, hwl⟩ : ∃ wl, w3.alloc (.cells #[.slice a n cap, .slice b m capb] 22) = wl := ⟨_, rfl⟩
        have hbl : Below w3.heap.size w3 wl := by rw [← hwl]; exact (Below.refl _ w3).alloc (Nat.le_refl _) _
        have hvl : Vals wl (some ⟨w3.heap.size, 0, none⟩) 2 [.slice a n cap, .slice b m capb] := by rw [← hwl]; exact Vals.lit w3 [.slice a n cap, .slice b m capb] _ (by simp)
        have hcl0 : wl.cell? ⟨w3.heap.size, 0, none⟩ = some (.slice a n cap) := by
          have := hvl.cells 0 (.slice a n cap) rfl
          simpa [Addr.add] using this
        have hcl1 : wl.cell? ⟨w3.heap.size, 1, none⟩ = some (.slice b m capb) := by
          have := hvl.cells 1 (.slice b m capb) rfl
          rwa [addr_add_lit] at this
        have hb1l := below_ups hb13 hbl hb13.size
        go_wp2_with fail
        refine concatR_c w3.heap.size a n cap hs0 b m capb hs' wl hcl0 hcl1 (hvx.up hb1l) (hvy.up hb1l) hn20 hm20 ?_
        intro a4 n4 c4 w4 hb4 ho4
        have hb14 := below_ups hb1l hb4 hb1l.size
        have hgs : g < w3.heap.size := hgl
        have hglt : g < wl.heap.size := Nat.lt_of_lt_of_le hgs hbl.size
        have hgge : w.heap.size ≤ g := Nat.le_trans hb12.size hgB
        have hdr : ∀ (hd : Hdr) (x : List Int), Ints w hd.1 hd.2.1 x → IntsD (fun b => b ≠ g) w4 hd.1 hd.2.1 x := fun hd x hI =>
          ((IntsD.of_ints hI).mono fun b _ hb => (by omega : b ≠ g)).kept (.of_below hb14)
        have hmat : MatD (fun b => b ≠ g) w4 a4 n4 (xs ++ ys) := matJoinD ho4 (fun b ⟨o, s, e⟩ => by have := (ho4.lt e).1; show b ≠ g; omega) hx2.len hy2.len
          (fun j h x e e' => ⟨hdr h x (hx2.row j h x e e').ints, (hx2.row j h x e e').cap⟩)
          (fun j h x e e' => ⟨hdr h x (hy2.row j h x e e').ints, (hy2.row j h x e e').cap⟩)
        have hbl4 : Below w3.heap.size w3 w4 := below_on hbl hb4
        have hLa := (ho3.up hbl4).mono hb12.size
        have hln4 := Hd.i hmat.length
        have hl4 : n4 ≤ 1000 := by have := hmat.length; rw [List.length_append] at this; have := hlx.o; have := hly.o; omega
        replace hdr := Hd.i hdr
        clear ho3 hb1 hb2 hb3 hb4 hb12 hb13 hbl hbl4 hb1l hcl0 hcl1 hvl ho4 hgB hgl hgs hglt hx2 hy2 hvx hvy hwl hdr
        go_wp2
        go_loopw [42] (fun iv wr => ∃ (i : Nat) (L : List Int), i ≤ n4 ∧ iv = .int .i64 i ∧ OwnI wr w.heap.size (some ⟨g, 0, none⟩) n3 c3 L ∧ Below w.heap.size w wr ∧ MatD (fun b => b ≠ g) wr a4 n4 (xs ++ ys) ∧ Hd (LabJ n3 (xs ++ ys) L i)) (fun iv _ => n4 - (intOf iv).toNat)
        case atStart => exact ⟨0, _, Nat.zero_le _, rfl, hLa, hb14, hmat, LabJ.start⟩
        case round =>
          clear hLa hb14 hmat
          obtain ⟨i, L, hi, rfl, ho, hb, hM, hJ⟩ := hrel
          by_cases hlt : i < n4
          · obtain ⟨bB, offB, a7, n7, c7, blk, rfl, hbb, hcell, hyb, hBI, hc7⟩ := hM.at hlt
            have hbm := List.mem_of_getElem? hyb.o
            have hbok := hbs.o blk hbm
            have hl7 := hBI.1.length
            have hn7 : 0 < n7 := by have := List.length_pos_iff.2 hbok.1; omega
            have hn7' : n7 ≤ 20 := by rw [← hl7]; exact hrl.o blk hbm
            obtain ⟨bh, offh, h0, rfl, _, _, hh0, _, _⟩ := hBI.1.at hn7
            have hh0e : at0 blk 0 = h0 := at0_of (by simpa using hh0.o)
            have hh0r := hbok.2 h0 (List.mem_of_getElem? hh0.o)
            replace hbm := Hd.i hbm
            replace hbok := Hd.i hbok
            replace hl7 := Hd.i hl7
            replace hh0e := Hd.i hh0e
            go_wp2
            go_loopw [48] (fun kv wr => ∃ (k : Nat) (L : List Int), k ≤ n7 ∧ kv = .int .i64 k ∧ OwnI wr w.heap.size (some ⟨g, 0, none⟩) n3 c3 L ∧ Below w.heap.size w wr ∧ MatD (fun b => b ≠ g) wr (some ⟨bB, offB, none⟩) n4 (xs ++ ys) ∧ IntsD (fun b => b ≠ g) wr (some ⟨bh, offh, none⟩) n7 blk ∧ Hd (LabJ n3 (xs ++ ys) L i ∧ JIn L blk k)) (fun kv _ => n7 - (intOf kv).toNat)
            case atStart => exact ⟨0, L, Nat.zero_le _, rfl, ho, hb, hM, hBI, hJ.o, JIn.zero _ _⟩
            case round =>
              clear ho hb hM hBI hJ hcell
              obtain ⟨k, L, hk, rfl, ho, hb, hM, hBI, hJ⟩ := hrel
              by_cases hltk : k < n7
              · obtain ⟨_, _, x, e1, _, hcx, hxx, hx1, hx2⟩ := hBI.1.at hltk
                cases e1
                obtain ⟨_, _, h0', e1, _, hch0, hh0', _, _⟩ := hBI.1.at hn7
                cases e1
                obtain rfl : h0' = h0 := by have h := hh0'.o; rw [hh0.o] at h; cases h; rfl
                have hch : wr.cell? ⟨bh, offh, none⟩ = some (.int .i64 h0') := by simpa using hch0
                have hxr := hbok.o.2 x (List.mem_of_getElem? hxx.o)
                obtain ⟨A, hcA, _, hA, hA1, hA2⟩ := ho.at' (k := h0'.toNat) (by omega)
                obtain ⟨Bv, hcB, _, hB, hB1, hB2⟩ := ho.at' (k := x.toNat) (by omega)
                have eA := at0_of hA.o
                have eB := at0_of hB.o
                have hturn := hJ.o.1.turn hbs.o hyb.o hxx.o hJ.o.2 (lo := mn A Bv) (hi := mx A Bv) (by
                  by_cases hle : A ≤ Bv
                  · left; unfold mn mx; rw [if_pos hle, if_pos hle, hh0e.o, eA, eB]; exact ⟨rfl, rfl⟩
                  · right; unfold mn mx; rw [if_neg hle, if_neg hle, hh0e.o, eA, eB]; exact ⟨rfl, rfl⟩)
                have hturn' := Hd.i hturn
                obtain ⟨p1, p2⟩ := hh0r
                obtain ⟨p4, p3⟩ := hxr
                have hAr : -9223372036854775808 ≤ A ∧ A ≤ 9223372036854775807 := ⟨hA1, hA2⟩
                have hBr : -9223372036854775808 ≤ Bv ∧ Bv ≤ 9223372036854775807 := ⟨hB1, hB2⟩
                replace eA := Hd.i eA
                replace eB := Hd.i eB
                clear hturn hch0 hh0'
                go_wp2
                go_region_with (go_at_call 86; refine implMerge_c w.heap.size g n3 c3 L A Bv _ ho.drew hAr hBr ?_; intro w8 hw8 ho8)
                all_goals
                  have hK : Kept (fun b => b ≠ g) wr w8 := fun b hb _ => hw8.block b fun o s e => (by cases e; exact hb rfl)
                  have hb8 := (hb.trans ((Drew.refl wr).one.below _)).trans (hw8.below (B := w.heap.size) fun b o s e => (by cases e; exact hgge))
                  go_wp2
                  exact ⟨⟨k + 1, _, by omega, by go_num, ho8, hb8, hM.kept hK, hBI.kept hK, hturn'⟩, by simp [intOf]; omega⟩
              · obtain rfl : k = n7 := by omega
                have hJ2 := Hd.i (hJ.o.1.row hyb.o (by rw [hl7.o]; exact hJ.o.2))
                go_wp2
                exact ⟨⟨i + 1, L, by omega, by go_num, ho, hb, hM, hJ2⟩, by simp [intOf]; omega⟩
          · obtain rfl : i = n4 := by omega
            have hfin := LabJ.blks hbs.o (by rw [hln4.o]; exact hJ.o)
            go_wp2_with fail
            refine implPartition_c _ _ _ L _ ho.ints h2 ?_
            intro a8 n8 c8 hs8 w8 hb8 ho8
            rw [hfin] at ho8
            replace hfin := Hd.i hfin
            go_wp2
            exact hH.o _ _ _ _ _ (below_ups hb hb8 hb.size) (ho8.mono hb.size)
      · have hf := Hd.i (hno.o fun h => hPy (by have := h.2.2; rwa [Int.toNat_natCast] at this))
        replace hPx := Hd.i hPx
        replace hPy := Hd.i hPy
        replace hz := Hd.i hz
        go_enter Try.func43, Try.ntmps43
        go_wp2_with fail
        refine within_c _ _ _ _ (fun _ => ?_) (fun h => absurd ⟨by omega, by omega⟩ h)
        go_wp2_with fail
        refine implClass_c d _ _ _ xs _ h1 h2 hmx (fun _ => ?_) (fun h => absurd hPx.o h)
        intro a1 n1 c1 w1 hb1 _
        go_wp2_with fail
        refine implClass_c d _ _ _ ys _ h1 h2 (hmy.up hb1) (fun h => absurd h hPy.o) (fun _ => ?_)
        intro a2 n2 c2 w2 hb2
        go_wp2
        exact hf.o _ _ _ [] _ (below_ups hb1 hb2 hb1.size) (OwnH.nil _ _)
    · have hf := Hd.i (hno.o fun h => hPx (by have := h.2.1; rwa [Int.toNat_natCast] at this))
      replace hPx := Hd.i hPx
      replace hz := Hd.i hz
      go_enter Try.func43, Try.ntmps43
      go_wp2_with fail
      refine within_c _ _ _ _ (fun _ => ?_) (fun h => absurd ⟨by omega, by omega⟩ h)
      go_wp2_with fail
      refine implClass_c d _ _ _ xs _ h1 h2 hmx (fun h => absurd h hPx.o) (fun _ => ?_)
      intro a1 n1 c1 w1 hb1
      go_wp2
      exact hf.o _ _ _ [] _ hb1 (OwnH.nil _ _)
  · have hf := Hd.i (hno.o fun h => hz h.1)
    have hzh := Hd.i hz
    clear hz
    go_enter Try.func43, Try.ntmps43
    go_wp2_with fail
    refine within_c _ _ _ _ (fun h => absurd h hzh.o) (fun _ => ?_)
    go_wp2
    exact hf.o _ _ _ [] _ (Below.refl _ _) (OwnH.nil _ _)
end Go.Proofs.Ytiekjklhojmnoaa
