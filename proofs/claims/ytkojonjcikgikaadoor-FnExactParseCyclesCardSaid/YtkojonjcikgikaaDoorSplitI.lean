/- strings.Split in the program; ParseImages: the tops. -/
import Derived.Test.YtkojonjcikgikaaDoorReadM
import Derived.Lib.SplitLaws
namespace Go.Proofs.YtkojonjcikgikaaDoor
open Go.RowKit

theorem strs_split (l sp : List UInt8) : (Lib.splitB (S sp) 0 (Lib.countB (S l) (S sp)) (S l)).map Value.string = strs (Lib.split l sp) := by
  have h := Lib.splitB_data (S sp) 0 (Lib.countB (S l) (S sp)) (S l)
  have e : Lib.split l sp = (Lib.splitB (S sp) 0 (Lib.countB (S l) (S sp)) (S l)).map (·.data.toList) := h.symm
  rw [e, strs, List.map_map]
  refine List.map_congr_left fun b _ => ?_
  rfl
theorem split_len (l sp : List UInt8) (h1 : 1 ≤ sp.length) : (Lib.split l sp).length = Lib.countB (S l) (S sp) + 1 ∧ Lib.countB (S l) (S sp) ≤ l.length := by
  have h := congrArg List.length (strs_split l sp)
  rw [strs, List.length_map, List.length_map, Lib.splitB_all (S sp) (by rw [S_size]; exact h1) 0 _ _ rfl] at h
  exact ⟨h.symm, Lib.countB_le (S sp) (by rw [S_size]; exact h1) _ (S l) (Nat.le_refl _)⟩
theorem split_c {R : Ending → World → Prop} (l sp : List UInt8) (w : World) (hl : l.length ≤ 200) (hsp : 1 ≤ sp.length) (hw : LibW w)
    (H : ∀ n w', n ≤ 201 → Below w.heap.size w w' → Vals w' (some ⟨w.heap.size, 0, none⟩) n (strs (Lib.split l sp)) → R (.returned (.slice (some ⟨w.heap.size, 0, none⟩) n n)) w') :
    Calls Tryd.prog 23 #[.string (S l), .string (S sp)] w R := by
  obtain ⟨m, hm⟩ := hw.mlen
  have hc := Tryd.strings_Split (S l) (S sp) m w (by rw [S_size]; omega) hm (by rw [S_size]; exact hsp)
  obtain ⟨e1, e2⟩ := split_len l sp hsp
  rw [strs_split] at hc
  have hc' : Calls Tryd.prog 23 #[.string (S l), .string (S sp)] w _ := hc
  refine hc'.mono ?_
  rintro e w' ⟨rfl, rfl⟩
  have hv := Vals.lit w (strs (Lib.split l sp)) 9 (by rw [strs, List.length_map, e1]; omega)
  rw [show (strs (Lib.split l sp)).length = Lib.countB (S l) (S sp) + 1 by rw [strs, List.length_map, e1]] at hv
  exact H _ _ (by omega) ((Below.refl _ _).alloc (Nat.le_refl _) _) hv

theorem numI_small {y : List UInt8} {x : Int} (h : numI y = some x) (h0 : 0 ≤ x) : y = dig x := numI_back h h0
theorem PI_of_nums {l : List UInt8} {xs : List Int} (hl : l.length ≤ 200) (h : NumsOf (wsplit 32 l) xs) (hp : IsPerm xs) : PI l xs ∧ pPI l = xs ∧ pPIok l = true := by
  have hw : wsplit 32 l = xs.map dig := by
    refine List.ext_getElem? fun j => ?_
    have hj := congrArg (fun t => t[j]?) h
    simp only [List.getElem?_map] at hj
    rw [List.getElem?_map]
    cases e1 : (wsplit 32 l)[j]? with
    | none => rw [e1] at hj; cases e2 : xs[j]? with | none => rfl | some x => rw [e2] at hj; cases hj
    | some y =>
      rw [e1] at hj
      cases e2 : xs[j]? with
      | none => rw [e2] at hj; cases hj
      | some x =>
        rw [e2] at hj
        have hx : numI y = some x := Option.some.inj hj
        rw [Option.map_some, numI_back hx (hp.small x (List.mem_of_getElem? e2)).1]
  have hpi : PI l xs := ⟨hl, hp, hw⟩
  have hv := hpi.vals
  have hy := pPI_yes hl hpi.num (by rw [hv]; exact hp)
  exact ⟨hpi, by rw [hy.1, hv], hy.2⟩
theorem PI.nums {l : List UInt8} {p : List Int} (h : PI l p) : NumsOf (wsplit 32 l) p := by
  unfold NumsOf
  rw [h.2.2, List.map_map]
  refine List.map_congr_left fun x hx => ?_
  have h1 := h.2.1.2.2.1 x hx
  have h2 := h.2.1.2.1
  exact numI_dig h1.1 (by omega)

set_option maxHeartbeats 1000000 in
set_option maxRecDepth 100000 in
theorem implParseI_c {R : Ending → World → Prop} (l : List UInt8) (w : World) (hw : LibW w) (H : MakesIB R w (pPI l) (pPIok l)) :
    Calls Tryd.prog 8 #[.string (S l)] w R := by
  have H' := Hd.i H; clear H
  have bad : Hd (¬ (∃ p, PI l p)) → Hd (∀ w', Below w.heap.size w w' → R (.returned (.tuple #[.slice none 0 0, .bool false])) w') := by
    intro h w' hb
    obtain ⟨e1, e2⟩ := pPI_no h.o
    have := H'.o none 0 0 w' hb (by rw [e1]; exact OwnI.nil _ _)
    rw [e2] at this
    exact this
  replace bad := Hd.i bad
  have hz := S_size l
  obtain ⟨n, hln⟩ : ∃ n, n = l.length := ⟨_, rfl⟩
  rw [← hln] at hz
  replace hln := Hd.i hln
  by_cases h200 : n ≤ 200
  · have hl := Hd.i (show l.length ≤ 200 by have := hln.o; omega)
    have hwl : Hd (∀ y ∈ wsplit 32 l, y.length ≤ 200) := fun y hy => Nat.le_trans ((wsplit_len (c := 32) l).2 y hy) hl.o
    go_enter Tryd.func8, Tryd.ntmps8
    go_wp2_with (first | (go_at_call 23; refine split_c l [32] _ hl.o (by simp) hw ?_; intro n1 w1 hn1 hb1 hv1))
    rw [split_wsplit] at hv1
    refine readNumbers_c _ n1 _ (wsplit 32 l) _ hv1 hwl hn1 (hw.up hb1) ?_ ?_
    · intro a2 n2 c2 xs w2 hb2 ho2 hx
      have hb22 := below_ups hb1 hb2 hb1.size
      by_cases hp : IsPerm xs
      · have hdec := Hd.i (decide_eq_true hp)
        have hyes := Hd.i (PI_of_nums hl.o hx.o hp)
        clear hp
        go_wp2_with (first | (go_at_call 24; refine implIsPerm_c _ _ _ xs _ ho2.ints ?_; rw [hdec.o]))
        have hf := H'.o _ _ _ _ hb22 (by rw [hyes.o.2.1]; exact ho2.mono hb1.size)
        rw [hyes.o.2.2] at hf
        exact hf
      · have hdec := Hd.i (decide_eq_false hp)
        have hno : Hd (¬ ∃ p, PI l p) := fun ⟨p, hpp⟩ => hp (by
          have e := hx.o.symm.trans hpp.nums
          have : xs = p := map_some_inj e
          rw [this]; exact hpp.2.1)
        clear hp
        go_wp2_with (first | (go_at_call 24; refine implIsPerm_c _ _ _ xs _ ho2.ints ?_; rw [hdec.o]))
        exact (bad.o hno).o _ hb22
    · intro w2 hb2 hx
      have hb22 := below_ups hb1 hb2 hb1.size
      have hno : Hd (¬ ∃ p, PI l p) := fun ⟨p, hpp⟩ => by
        obtain ⟨y, hy, hyn⟩ := hx.o
        rw [hpp.2.2, List.mem_map] at hy
        obtain ⟨x, hxm, rfl⟩ := hy
        have h1 := hpp.2.1.2.2.1 x hxm
        have h2 := hpp.2.1.2.1
        rw [numI_dig h1.1 (by omega)] at hyn
        cases hyn
      go_wp2
      exact (bad.o hno).o _ hb22
  · have hno : Hd (¬ ∃ p, PI l p) := fun ⟨p, hp⟩ => by have := hp.1; have := hln.o; omega
    go_enter Tryd.func8, Tryd.ntmps8
    go_wp2
    exact (bad.o hno).o _ (Below.refl _ _)

theorem S_of (s : ByteArray) : S s.data.toList = s := rfl
theorem topImplParseImages {R : Ending → World → Prop} (s : ByteArray) (w : World) (_ : s.size ≤ 9223372036854775807) (hw : LibW w) (H : MakesIB R w (pPI s.data.toList) (pPIok s.data.toList)) :
    Calls Tryd.prog 8 #[.string s] w R := implParseI_c s.data.toList w hw H
theorem topSpecParseImages {R : Ending → World → Prop} (s : ByteArray) (w : World) (_ : s.size ≤ 9223372036854775807) (_ : LibW w) (H : MakesIB R w (pPI s.data.toList) (pPIok s.data.toList)) :
    Calls Tryd.prog 7 #[.string s] w R := specParseI_c s.data.toList w H
end Go.Proofs.YtkojonjcikgikaaDoor
