/- readNumber. -/
import Derived.Shelf.Strconv.ParseIntPublic10
import Derived.Shelf.Strconv.Itoa4
import Derived.Lib.AppendIntMem
import Derived.Test.YtkojonjcikgikaaDoorShelfP
import Derived.Test.YtkojonjcikgikaaDoorPureNum
import Derived.Test.YtkojonjcikgikaaDoorParseI
namespace Go.Proofs.YtkojonjcikgikaaDoor
open Go.RowKit

def tabName : String := Rows.fnExactParseImagesRow.named.getD 5 default
/-- What the library's variables hold: the two errors some interface value, the table of powers its numbers. -/
structure LibW (w : World) : Prop where
  mlen : ∃ m, w.cell? ⟨0, 0, none⟩ = some (.int .i64 m)
  syn : ∃ ev, w.cell? ⟨1, 0, none⟩ = some ev ∧ (ev = .nilIface ∨ ∃ te pe, ev = .iface te pe)
  ran : ∃ ev, w.cell? ⟨2, 0, none⟩ = some ev ∧ (ev = .nilIface ∨ ∃ te pe, ev = .iface te pe)
  tab : Lib.TabIs Tryd.prog w tabName .u64 Lib.pow10Tab
theorem LibW.up {w w' : World} (h : LibW w) (hb : Below w.heap.size w w') : LibW w' := by
  obtain ⟨⟨m, h0⟩, ⟨e1, h1, k1⟩, ⟨e2, h2, k2⟩, h3⟩ := h
  refine ⟨⟨m, ?_⟩, ⟨e1, ?_, k1⟩, ⟨e2, ?_, k2⟩, (Lib.tabBelow_of_tabIs h3) w' hb⟩
  · exact (hb.cell (p := ⟨0, 0, none⟩) (World.block_lt_of_cell? w _ h0)).trans h0
  · exact (hb.cell (p := ⟨1, 0, none⟩) (World.block_lt_of_cell? w _ h1)).trans h1
  · exact (hb.cell (p := ⟨2, 0, none⟩) (World.block_lt_of_cell? w _ h2)).trans h2
theorem decimalAll_c {R : Ending → World → Prop} (x : Int) (w : World) (h0 : -9223372036854775808 ≤ x) (h1 : x ≤ 9223372036854775807) (hw : LibW w) (H : Gives R w (.string (S (Lib.itoa x)))) :
    Calls Tryd.prog 48 #[.int .i64 x] w R := by
  have H' := Hd.i H; clear H
  have hc := Any.strconv_FormatInt_10 Tryd.laysM173 x h0 h1 w hw.tab
  have hc' : Calls Tryd.prog 57 #[.int .i64 x, .int .i64 10] w fun e w' => e = .returned (.string (S (Lib.itoa x))) ∧ ∃ k os, w' = Go.Sort.grow (w.drewN k) os := hc
  clear hc
  go_enter Tryd.func48, Tryd.ntmps48
  go_wp2_with (first | (go_at_call 57; refine hc'.mono ?_; rintro e w1 ⟨rfl, k, os, rfl⟩))
  refine H'.o _ ⟨rfl, rfl, rfl, ?_, fun j hj => Go.Sort.heap_grow_old _ _ hj⟩
  rw [Go.Sort.size_grow]
  exact Nat.le_add_right _ _
set_option maxHeartbeats 1000000 in
theorem readNumber_c {R : Ending → World → Prop} (l : List UInt8) (w : World) (hl : l.length ≤ 200) (hw : LibW w)
    (H1 : ∀ n w', Below w.heap.size w w' → Hd (numI l = some n) → R (.returned (.tuple #[.int .i64 n, .bool true])) w')
    (H0 : ∀ n w', Below w.heap.size w w' → Hd (numI l = none) → R (.returned (.tuple #[.int .i64 n, .bool false])) w') :
    Calls Tryd.prog 39 #[.string (S l)] w R := by
  replace H1 := Hd.i H1
  replace H0 := Hd.i H0
  obtain ⟨ev1, hc1, hk1⟩ := hw.syn
  obtain ⟨ev2, hc2, hk2⟩ := hw.ran
  have hsz : (S l).size ≤ 281474976710656 := by rw [S_size]; omega
  cases e : Lib.parseIntB 64 l
  · rename_i v
    have hv := Lib.parseIntB_bounds e
    have hp := Tryd.strconv_ParseInt_10_at64_ok (S l) (by rw [S_size]; omega) v e w
    have hv0 : -9223372036854775808 ≤ v := by have := hv.1; omega
    have hv1 : v ≤ 9223372036854775807 := by have := hv.2; omega
    have hbel : ∀ w', (w' = w ∨ ∃ t, w' = Lib.bytesWorld w 5 t) → Below w.heap.size w w' := by
      rintro w' (rfl | ⟨t, rfl⟩)
      · exact Below.refl _ _
      · exact Lib.bytesWorld_below w 5 t
    replace hbel := Hd.i hbel
    have hnum := Hd.i (show numI l = if Lib.itoa v = l ∧ -999999999 ≤ v ∧ v ≤ 999999999 then some v else none by unfold numI; rw [e])
    clear e hv hc1 hc2 hk1 hk2
    by_cases hit : Lib.itoa v = l
    · have hs2 : S (Lib.itoa v) = S l := by rw [hit]
      have hyes := Hd.i (show -999999999 ≤ v ∧ v ≤ 999999999 → numI l = some v from fun h => by rw [hnum.o, if_pos ⟨hit, h⟩])
      have hnot := Hd.i (show ¬ (-999999999 ≤ v ∧ v ≤ 999999999) → numI l = none from fun h => by rw [hnum.o, if_neg fun h' => h h'.2])
      replace hit := Hd.i hit
      by_cases hr : -999999999 ≤ v ∧ v ≤ 999999999
      · go_enter Tryd.func39, Tryd.ntmps39
        go_wp2_with (first | (go_at_call 51; refine hp.mono ?_; rintro e w1 ⟨rfl, hw1⟩; have hb1 := hbel.o w1 hw1) | (go_at_call 48; refine decimalAll_c v _ hv0 hv1 (hw.up hb1) ?_; intro w2 hb2) | (go_at_call 28; refine within_c _ _ _ _ (fun _ => ?_) (fun h => absurd hr h)))
        exact H1.o _ _ (below_ups hb1 hb2 hb1.size) (hyes.o hr)
      · go_enter Tryd.func39, Tryd.ntmps39
        go_wp2_with (first | (go_at_call 51; refine hp.mono ?_; rintro e w1 ⟨rfl, hw1⟩; have hb1 := hbel.o w1 hw1) | (go_at_call 48; refine decimalAll_c v _ hv0 hv1 (hw.up hb1) ?_; intro w2 hb2) | (go_at_call 28; refine within_c _ _ _ _ (fun h => absurd h hr) (fun _ => ?_)))
        exact H0.o _ _ (below_ups hb1 hb2 hb1.size) (hnot.o hr)
    · have hs2 : ¬ S (Lib.itoa v) = S l := fun h => hit (by have := congrArg (fun b : ByteArray => b.data.toList) h; exact this)
      have hnot := Hd.i (show numI l = none by rw [hnum.o, if_neg fun h' => hit h'.1])
      have hs3 : ¬ (S (Lib.itoa v)).toList = (S l).toList := by rw [S_toList, S_toList]; exact hit
      go_enter Tryd.func39, Tryd.ntmps39
      go_wp2_with (first | (go_at_call 51; refine hp.mono ?_; rintro e w1 ⟨rfl, hw1⟩; have hb1 := hbel.o w1 hw1) | (go_at_call 48; refine decimalAll_c v _ hv0 hv1 (hw.up hb1) ?_; intro w2 hb2))
      exact H0.o _ _ (below_ups hb1 hb2 hb1.size) hnot.o
  · have hno : Hd (numI l = none) := by unfold numI; rw [e]; rfl
    have hp := Any.strconv_ParseInt_10_at64_syntax Tryd.laysC174 (S l) hsz e ev1 w hc1 hk1
    change Calls Tryd.prog 51 _ _ _ at hp
    clear e
    go_enter Tryd.func39, Tryd.ntmps39
    go_wp2_with (first | (go_at_call 51; refine hp.mono ?_; rintro e w1 ⟨N, rfl, hN, hcN, hb⟩))
    exact H0.o _ _ hb hno
  · have hno : Hd (numI l = none) := by unfold numI; rw [e]; rfl
    have hp := Any.strconv_ParseInt_10_at64_range Tryd.laysC174 (S l) hsz e ev2 w hc2 hk2
    change Calls Tryd.prog 51 _ _ _ at hp
    clear e
    go_enter Tryd.func39, Tryd.ntmps39
    go_wp2_with (first | (go_at_call 51; refine hp.mono ?_; rintro e w1 ⟨N, rfl, hN, hcN, hb⟩))
    exact H0.o _ _ hb hno
end Go.Proofs.YtkojonjcikgikaaDoor
