/- ParseCycles of the reference. -/
import Derived.Test.YtkojonjcikgikaaDoorPcS
namespace Go.Proofs.YtkojonjcikgikaaDoor
open Go.RowKit

theorem longC_idl (d : Nat) (h1 : 1 ≤ d) (h2 : d ≤ 20) : IsPerm (idl d) ∧ longC (idl d) = [] := by
  have hp : IsPerm (idl d) := ⟨by rw [idl_length]; exact h1, by rw [idl_length]; exact h2, fun x hx => by rw [idl_length]; exact mem_idl.1 hx, idl_nodup d⟩
  refine ⟨hp, ?_⟩
  rw [List.eq_nil_iff_forall_not_mem]
  intro c hc
  obtain ⟨x, h0, hx, _, hper, _⟩ := mem_longC.1 hc
  have h := (per_spec hp ⟨h0, hx⟩).2.2.2 1 (Nat.le_refl _) hper
  rw [idl_length] at hx
  exact h (idl_at ⟨h0, hx⟩)
theorem PC.dash {d : Nat} (h1 : 1 ≤ d) (h2 : d ≤ 20) : PC (d : Int) [40, 41] (idl d) := by
  obtain ⟨hp, hl⟩ := longC_idl d h1 h2
  exact ⟨by simp, hp, by rw [idl_length], by unfold fmtC; rw [if_pos hl]⟩
theorem PC.shape {z : Int} {l : List UInt8} {q : List Int} (h : PC z l q) : (1 ≤ z ∧ z ≤ 20) ∧ 2 ≤ l.length ∧ l[0]? = some 40 ∧ l[l.length - 1]? = some 41 := by
  obtain ⟨_, h2, h3, rfl⟩ := h
  refine ⟨by have := h2.1; have := h2.2.1; omega, ?_⟩
  by_cases hne : longC q = []
  · unfold fmtC; rw [if_pos hne]; exact ⟨by simp, rfl, rfl⟩
  · rw [fmtC_inner hne]
    refine ⟨by simp, rfl, ?_⟩
    rw [List.length_cons, Nat.add_sub_cancel, List.length_append, List.length_singleton, List.getElem?_cons_succ]
    simp
theorem inner_take {l : List UInt8} {e : Nat} (h : l.length = e + 1) : (l.take e).drop 1 = inner l := by
  unfold inner
  rw [List.dropLast_eq_take, List.length_drop, h, List.drop_take]
  congr 1
theorem S_tail {y : List UInt8} : (S y).extract 1 (S y).size = S y.tail := by
  rw [S_extract, S_size, List.take_length]
  congr 1
  simp
theorem tail_len {y : List UInt8} : y.tail.length ≤ y.length := by simp

set_option maxHeartbeats 2000000 in
set_option maxRecDepth 100000 in
theorem specParseC_c {R : Ending → World → Prop} (z : Int) (l : List UInt8) (w : World) (H : MakesIB R w (pPC z l) (pPCok z l)) :
    Calls Tryd.prog 12 #[.int .i64 z, .string (S l)] w R := by
  have H' := Hd.i H; clear H
  have bad : Hd (¬ (∃ q, PC z l q)) → Hd (∀ w', Below w.heap.size w w' → R (.returned (.tuple #[.slice (some ⟨w'.heap.size, 0, none⟩) 0 0, .bool false])) (w'.alloc (.cells #[] 2))) := by
    intro h w' hb
    obtain ⟨e1, e2⟩ := pPC_no h.o
    have := H'.o _ 0 0 _ (hb.alloc hb.size _) (by rw [e1]; exact OwnI.emptyLit _ hb.size)
    rw [e2] at this
    exact this
  replace bad := Hd.i bad
  have good : ∀ q : List Int, Hd (PC z l q) → Hd (∀ a n cap w', Below w.heap.size w w' → OwnI w' w.heap.size a n cap q → R (.returned (.tuple #[.slice a n cap, .bool true])) w') := by
    intro q hq a n cap w' hb ho
    obtain ⟨e1, e2⟩ := pPC_yes hq.o
    have := H'.o a n cap w' hb (by rw [e1]; exact ho)
    rw [e2] at this
    exact this
  replace good := Hd.i good
  have hz := S_size l
  by_cases hr : 1 ≤ z ∧ z ≤ 20
  case neg =>
    have hno : Hd (¬ ∃ q, PC z l q) := fun ⟨q, hq⟩ => hr hq.shape.1
    go_enter Tryd.func12, Tryd.ntmps12
    go_wp2_with (first | (go_at_call 25; refine inRange_c _ _ _ _ (fun _ => ?_) (fun _ => ?_) <;> go_prune))
    exact (bad.o hno).o _ (Below.refl _ _)
  by_cases hl2 : 2 ≤ l.length
  case neg =>
    have hno : Hd (¬ ∃ q, PC z l q) := fun ⟨q, hq⟩ => hl2 hq.shape.2.1
    have hl3 : (S l).size < 2 := by omega
    obtain ⟨n, hn⟩ : ∃ n, n = (S l).size := ⟨_, rfl⟩
    rw [← hn] at hl3 hz
    have hzz := Hd.i hz
    have hn' := hn.symm
    clear hz hl2 hn
    go_enter Tryd.func12, Tryd.ntmps12
    go_wp2_with (first | (go_at_call 25; refine inRange_c _ _ _ _ (fun _ => ?_) (fun _ => ?_) <;> go_prune))
    exact (bad.o hno).o _ (Below.refl _ _)
  obtain ⟨e, he⟩ : ∃ e, l.length = e + 1 := ⟨l.length - 1, by omega⟩
  rw [he] at hz
  have he1 : 1 ≤ e := by omega
  clear hl2
  obtain ⟨b0, hb0⟩ : ∃ b, l[0]? = some b := ⟨l[0]'(by omega), List.getElem?_eq_getElem (by omega)⟩
  obtain ⟨b1, hb1⟩ : ∃ b, l[e]? = some b := ⟨l[e]'(by omega), List.getElem?_eq_getElem (by omega)⟩
  have hat0 : (S l)[0]'(by rw [hz]; omega) = b0 := S_at hb0 _
  have hat1 : (S l)[e]'(by rw [hz]; omega) = b1 := S_at hb1 _
  by_cases h200 : e + 1 ≤ 200
  case neg =>
    have hno : Hd (¬ ∃ q, PC z l q) := fun ⟨q, hq⟩ => by have := hq.1; omega
    replace he := Hd.i he
    replace hb0 := Hd.i hb0
    replace hb1 := Hd.i hb1
    go_enter Tryd.func12, Tryd.ntmps12
    go_wp2_with (first | (go_at_call 25; refine inRange_c _ _ _ _ (fun _ => ?_) (fun _ => ?_) <;> go_prune))
    exact (bad.o hno).o _ (Below.refl _ _)
  have t40 : (40 : UInt8).toNat = 40 := rfl
  have t41 : (41 : UInt8).toNat = 41 := rfl
  by_cases h40 : b0 = 40
  case neg =>
    have hno : Hd (¬ ∃ q, PC z l q) := fun ⟨q, hq⟩ => h40 (Option.some.inj (hb0.symm.trans hq.shape.2.2.1))
    have hne : ¬ (b0.toNat : Int) = 40 := by intro h; exact h40 (UInt8.toNat_inj.1 (by omega))
    replace he := Hd.i he
    replace hb0 := Hd.i hb0
    replace hb1 := Hd.i hb1
    clear h40 t40 t41
    go_enter Tryd.func12, Tryd.ntmps12
    go_wp2_with (first | (go_at_call 25; refine inRange_c _ _ _ _ (fun _ => ?_) (fun _ => ?_) <;> go_prune))
    exact (bad.o hno).o _ (Below.refl _ _)
  have hb40 : (b0.toNat : Int) = 40 := by rw [h40]; rfl
  by_cases h41 : b1 = 41
  case neg =>
    have hno : Hd (¬ ∃ q, PC z l q) := fun ⟨q, hq⟩ => h41 (by have h := hq.shape.2.2.2; rw [he, Nat.add_sub_cancel] at h; exact Option.some.inj (hb1.symm.trans h))
    have hne : ((b1.toNat : Int) != 41) = true := by rw [bne_iff_ne]; intro h; exact h41 (UInt8.toNat_inj.1 (by omega))
    replace he := Hd.i he
    replace hb0 := Hd.i hb0
    replace hb1 := Hd.i hb1
    clear h41 t40 t41
    replace h40 := Hd.i h40
    go_enter Tryd.func12, Tryd.ntmps12
    go_wp2_with (first | (go_at_call 25; refine inRange_c _ _ _ _ (fun _ => ?_) (fun _ => ?_) <;> go_prune))
    exact (bad.o hno).o _ (Below.refl _ _)
  have hb41 : ((b1.toNat : Int) != 41) = false := by rw [h41]; rfl
  obtain ⟨d, rfl⟩ : ∃ d : Nat, z = d := ⟨z.toNat, by omega⟩
  have hd1 : 1 ≤ d := by omega
  have hd2 : d ≤ 20 := by omega
  have hex : (S l).extract 1 e = S (inner l) := by rw [S_extract, inner_take he]
  have hil := Hd.i (show (inner l).length ≤ 200 by unfold inner; rw [List.length_dropLast, List.length_drop, he]; omega)
  replace he := Hd.i he
  replace hb0 := Hd.i hb0
  replace hb1 := Hd.i hb1
  replace h40 := Hd.i h40
  replace h41 := Hd.i h41
  clear t40 t41
  go_enter Tryd.func12, Tryd.ntmps12
  go_wp2_with (first | (go_at_call 25; refine inRange_c _ _ _ _ (fun _ => ?_) (fun _ => ?_) <;> go_prune) | (go_at_call 26; refine specIdentity_c d _ (by omega) ?_; intro a1 n1 c1 w1 hw1 ho1))
  obtain rfl : n1 = d := by rw [← ho1.length, idl_length]
  obtain ⟨g, _, rfl, hgB, hgl, _, _, _⟩ := ho1.look (k := 0) (by omega)
  have hs1 := hw1.size
  obtain ⟨parts, hparts⟩ : ∃ ps, ps = wsplit 41 (inner l) := ⟨_, rfl⟩
  replace hparts := Hd.i hparts
  have hpl := Hd.i (wsplit_len (c := 41) (inner l))
  replace hex := Hd.i hex
  by_cases hdash : l = [40, 41]
  · have hpc := Hd.i (show PC (n1 : Int) l (idl n1) by rw [hdash]; exact PC.dash hd1 hd2)
    have hfm := Hd.i (show pFmtC (idl n1) = l by rw [hdash]; unfold pFmtC; rw [if_pos (longC_idl n1 hd1 hd2).1]; exact (PC.dash hd1 hd2).2.2.2)
    have heq : (S l).toList = [40, 41] := by rw [S_toList, hdash]
    replace hdash := Hd.i hdash
    go_wp2_with (first | (go_at_call 19; refine splitText41_c (inner l) _ hil.o ?_; intro a2 n2 c2 w2 hw2 ho2))
    have hs2 := hw2.size
    go_loopw [8] (fun i wr => i = .int .i64 0 ∧ wr = w2) (fun _ _ => 0)
    case atStart => exact ⟨rfl, rfl⟩
    case round =>
      obtain ⟨rfl, rfl⟩ := hrel
      go_wp2_with (first | (go_at_call 17; refine specFmtC_c _ _ _ (idl n1) _ (ho1.up hw2) ?_; rw [hfm.o]; intro w3 hw3))
      all_goals exact (good.o _ hpc).o _ _ _ _ (below_ups (below_ups hw1 hw2 hs1) hw3 (by omega)) ((ho1.up hw2).up hw3)
  · have hnd : ∀ q, PC (n1 : Int) l q → longC q ≠ [] := fun q hq e => hdash (by rw [← hq.2.2.2]; unfold fmtC; rw [if_pos e])
    have hstr : ∀ q, PC (n1 : Int) l q → strip parts = (longC q).map txt ∧ ∀ (k : Nat) (w : List UInt8), k ≠ 0 → parts[k]? = some w → w.head? = some 40 := by
      intro q hq
      have h := strip_fmt hq.2.1 (hnd q hq)
      rw [hq.2.2.2, ← hparts.o] at h
      exact h
    have hbadp : ∀ (k : Nat) (s : List UInt8), (strip parts)[k]? = some s → (∀ c, ¬ rdS n1 s c) → ¬ ∃ q, PC (n1 : Int) l q := by
      rintro k s hs hc ⟨q, hq⟩
      rw [(hstr q hq).1, List.getElem?_map, Option.map_eq_some_iff] at hs
      obtain ⟨c, hcm, rfl⟩ := hs
      have hlq : q.length = n1 := by have := hq.2.2.1; omega
      have h := rdS_ok hq.2.1 c (List.mem_of_getElem? hcm)
      rw [hlq] at h
      exact hc c h
    have hne1 : ((S l).toList == [40, 41]) = false := by rw [S_toList, beq_eq_false_iff_ne]; exact hdash
    replace hnd := Hd.i hnd
    replace hstr := Hd.i hstr
    replace hbadp := Hd.i hbadp
    replace hdash := Hd.i hdash
    go_wp2_with (first | (go_at_call 19; refine splitText41_c (inner l) _ hil.o ?_; intro a2 n2 c2 w2 hw2 ho2))
    rw [← hparts.o] at ho2
    rw [← hparts.o] at hpl
    have hs2 := hw2.size
    have hn2 := Hd.i (show parts.length = n2 by have := ho2.length; simpa [strs] using this)
    have hn201 : n2 ≤ 201 := by have := hpl.o.1; have := hn2.o; have := hil.o; omega
    have hapart : ∀ b off s off' s', a2 = some ⟨b, off, s⟩ → (some (⟨g, 0, none⟩ : Addr)) ≠ some ⟨b, off', s'⟩ := by
      intro b off s off' s' e1 e2
      have := (ho2.lt e1).1
      cases e2
      omega
    have ho12 := ho1.up hw2
    have hb12 := below_ups hw1 hw2 hs1
    clear ho1
    replace hapart := Hd.i hapart
    go_loopw [8] (fun i wr => ∃ (k : Nat) (p : List Int), k ≤ n2 ∧ i = .int .i64 k ∧ OwnI wr w.heap.size (some ⟨g, 0, none⟩) n1 c1 p ∧ Hd (RunsP (rdS n1) n1 ((strip parts).take k) p) ∧ Grew (some ⟨g, 0, none⟩) w2 wr) (fun i _ => n2 - (intOf i).toNat)
    case atStart => exact ⟨0, _, Nat.zero_le _, rfl, ho12, RunsP.start _ _, Grew.refl _ _⟩
    case round =>
      clear ho12
      obtain ⟨k, p, hk, rfl, hop, hrun, hgr⟩ := hrel
      have hbr : Below w.heap.size w wr := hb12.trans (hgr.below (by omega) (fun b off s e => by cases e; exact hgB))
      have hsr := hbr.size
      by_cases hlt : k < n2
      · obtain ⟨b, off, v, rfl, hbl, hcell, hvk⟩ := (hgr.vals ho2.vals hapart.o).at hlt
        have hvk' := hvk.o
        rw [strs, List.getElem?_map, Option.map_eq_some_iff] at hvk'
        obtain ⟨y, hy, rfl⟩ := hvk'
        have hyl := Hd.i (Nat.le_trans (hpl.o.2 y (List.mem_of_getElem? hy)) hil.o)
        clear hvk
        by_cases hk0 : k = 0
        · subst hk0
          rw [Nat.add_zero] at hcell
          have hys := Hd.i (strip_zero hy)
          replace hy := Hd.i hy
          go_wp2_with fail
          refine parseCycle_c _ g _ _ p y _ hop hyl ?_ ?_
          · intro c w5 hrd hg5 ho5
            go_wp2
            exact ⟨⟨1, putC p c, by omega, rfl, ho5, hrun.o.snoc hys.o hrd.o, hgr.thenG hg5⟩, by simp [intOf]; omega⟩
          · intro w5 hno hb5
            have hno2 := Hd.i (hbadp.o 0 y hys.o hno.o)
            go_wp2
            exact (bad.o hno2).o _ (below_ups hbr hb5 hsr)
        · have hys := Hd.i (strip_succ hy hk0)
          have hkp : 0 < k := by omega
          by_cases hhd : y.head? = some 40
          · obtain ⟨t, rfl⟩ : ∃ t, y = 40 :: t := by
              cases y with
              | nil => simp at hhd
              | cons x t => exact ⟨t, by simp at hhd; rw [hhd]⟩
            obtain ⟨Y, hY⟩ : ∃ Y, Y = S (40 :: t) := ⟨_, rfl⟩
            have hzy : Y.size = t.length + 1 := by rw [hY, S_size]; rfl
            have haty : Y[0]'(by rw [hzy]; omega) = 40 := by subst hY; exact S_at (by rfl) _
            have hexy : Y.extract 1 (t.length + 1) = S t := by
              have h := S_tail (y := 40 :: t)
              rw [← hY, hzy] at h
              exact h
            have htl := Hd.i (show t.length ≤ 200 by have := hyl.o; simp at this; omega)
            have htl2 : t.length ≤ 200 := htl.o
            rw [← hY] at hcell
            replace hY := Hd.i hY
            replace hy := Hd.i hy
            clear hk0
            replace hhd := Hd.i hhd
            go_wp2_with fail
            refine parseCycle_c _ g _ _ p t _ hop htl ?_ ?_
            · intro c w5 hrd hg5 ho5
              go_wp2
              exact ⟨⟨k + 1, putC p c, by omega, by go_num, ho5, hrun.o.snoc hys.o hrd.o, hgr.thenG hg5⟩, by simp [intOf]; omega⟩
            · intro w5 hno hb5
              have hno2 := Hd.i (hbadp.o k t hys.o hno.o)
              go_wp2
              exact (bad.o hno2).o _ (below_ups hbr hb5 hsr)
          · have hno2 : Hd (¬ ∃ q, PC (n1 : Int) l q) := fun ⟨q, hq⟩ => hhd ((hstr.o q hq).2 k y hk0 hy)
            obtain ⟨Y, hY⟩ : ∃ Y, Y = S y := ⟨_, rfl⟩
            cases hyc : y with
            | nil =>
              have hzy : Y.size = 0 := by rw [hY, hyc]; rfl
              rw [← hY] at hcell
              replace hY := Hd.i hY
              replace hy := Hd.i hy
              replace hyc := Hd.i hyc
              clear hk0
              replace hhd := Hd.i hhd
              go_wp2
              exact (bad.o hno2).o _ hbr
            | cons x t =>
              have hzy : Y.size = t.length + 1 := by rw [hY, hyc]; rfl
              have haty : Y[0]'(by rw [hzy]; omega) = x := by subst hY; exact S_at (by rw [hyc]; rfl) _
              have hx : ((x.toNat : Int) != 40) = true := by
                rw [bne_iff_ne]
                intro h
                refine hhd ?_
                rw [hyc, List.head?_cons]
                congr 1
                exact UInt8.toNat_inj.1 (by have : (40 : UInt8).toNat = 40 := rfl; omega)
              rw [← hY] at hcell
              replace hY := Hd.i hY
              replace hy := Hd.i hy
              replace hyc := Hd.i hyc
              clear hk0
              replace hhd := Hd.i hhd
              go_wp2
              exact (bad.o hno2).o _ hbr
      · obtain rfl : k = n2 := by omega
        rw [List.take_of_length_le (by rw [strip_length]; have := hn2.o; omega)] at hrun
        by_cases hf : pFmtC p = l
        · have hpc : Hd (PC (n1 : Int) l p) := by
            have hlp := hop.length
            unfold pFmtC at hf
            split at hf
            · rename_i hp
              exact ⟨by have := he.o; omega, hp, by omega, hf⟩
            · have := he.o
              rw [← hf] at this
              simp at this
          replace hf := Hd.i hf
          go_wp2_with (first | (go_at_call 17; refine specFmtC_c _ _ _ p _ hop ?_; rw [hf.o]; intro w3 hw3))
          exact (good.o _ hpc).o _ _ _ _ (below_ups hbr hw3 hsr) (hop.up hw3)
        · have hno2 : Hd (¬ ∃ q, PC (n1 : Int) l q) := by
            rintro ⟨q, hq⟩
            have hlq : q.length = n1 := by have := hq.2.2.1; omega
            have hrun' := hrun.o
            rw [(hstr.o q hq).1] at hrun'
            have e := RunsP.final hq.2.1 hlq (rdS_txt hq.2.1 n1) hrun'
            exact hf (by rw [e]; unfold pFmtC; rw [if_pos hq.2.1]; exact hq.2.2.2)
          have hft : ((S (pFmtC p)).toList == (S l).toList) = false := by rw [S_toList, S_toList, beq_eq_false_iff_ne]; exact hf
          clear hf
          go_wp2_with (first | (go_at_call 17; refine specFmtC_c _ _ _ p _ hop ?_; intro w3 hw3))
          exact (bad.o hno2).o _ (below_ups hbr hw3 hsr)
end Go.Proofs.YtkojonjcikgikaaDoor
