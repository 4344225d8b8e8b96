/- The inverse of a word: the reference's loop downwards, the program's range over slices.Backward. -/
import Derived.RangeFuncNested
import Derived.RangeFuncBound
import Derived.RangeFuncCalls
import Derived.RangeFuncLeaves
import Derived.RangeFuncBox
import Derived.Shelf.Abstract
import Derived.WalkKit
import Derived.OwnWalkIn
import Derived.TacticsInMore
import Derived.LoopNIn
import Derived.LoopIn
import Derived.Maps.AppendAt
import Derived.Test.YtockombopcjldaaWordFns
namespace Go.Proofs.Ytockombopcjldaa
open Go.RowKit Go.Shelf

set_option maxHeartbeats 400000 in
theorem specInvertWord_c {R : Ending → World → Prop} (a : Option Addr) (n cap : Nat) (xs : List Int) (w : World) (hx : Ints w a n xs) (hw : IsWord xs) (H : MakesI R w ((xs.map (- ·)).reverse)) :
    Calls Try.prog 77 #[.slice a n cap] w R := by
  have H' := Hd.i H; clear H
  have hwd := Hd.i hw; clear hw
  have hn : n ≤ 200 := by have := hwd.o.len; have := hx.length; omega
  go_enter Try.func77, Try.ntmps77
  go_wp2
  go_loopw [3, 4] (fun v i wr => ∃ (k : Nat) (c : Option Addr) (m capc : Nat), k ≤ n ∧ i = .int .i64 ((k : Int) - 1) ∧ v = .slice c m capc ∧ OwnI wr w.heap.size c m capc (((xs.drop k).map (- ·)).reverse) ∧ Below w.heap.size w wr)
    (fun _ i _ => (intOf i + 1).toNat)
  case atStart => exact ⟨n, _, 0, 0, Nat.le_refl _, rfl, rfl, by rw [List.drop_of_length_le (by rw [hx.length]; exact Nat.le_refl _)]; exact OwnI.emptyLit w (Nat.le_refl _), (Below.refl _ _).alloc (Nat.le_refl _) _⟩
  case round =>
    obtain ⟨k, c, m, capc, hk, rfl, rfl, ho, hbel⟩ := hrel
    by_cases hlt : 0 < k
    · obtain ⟨j, rfl⟩ : ∃ j, k = j + 1 := ⟨k - 1, by omega⟩
      obtain ⟨b, off, x, rfl, hb, hcell, hx0, hx1, hx2⟩ := (hx.up hbel).at (k := j) (by omega)
      have hxl := hwd.o.letter hx0.o
      have ej : ((j + 1 : Nat) : Int) - 1 = (j : Int) := by omega
      rw [ej]
      have hs := hbel.size
      have hl := Hd.i ho.length
      have c1 : (m + 1) * 8 ≤ 140737488355328 := by have := hl.o; have := hx.length; simp at *; omega
      have c2 : m + 1 ≤ 281474976710656 := by omega
      go_wp2_with (at_builtin; refine appendL_c rfl _ _ _ rfl w.heap.size 2 (.int .i64 0) 8 Try.underlying22 infoInt rfl _ _ _ _ rfl ho.1 [.int .i64 (-x)] 1 rfl rfl oneInt c1 c2 hs ?_; intro a2 n2 cap2 w2 hn2 ho2 hg2 ha2)
      refine ⟨⟨j, a2, n2, cap2, by omega, rfl, rfl, ?_, ho.grewBelow hg2 hbel hs⟩, by simp [intOf]⟩
      rw [drop_some hx0.o, List.map_cons, List.reverse_cons]
      exact OwnI.snoc ho2 ho.2 (by omega) (by omega)
    · obtain rfl : k = 0 := by omega
      go_wp2
      exact H'.o _ _ _ _ hbel ho

attribute [local go_sem] Oper.semAt_some

/-- What slices.Backward hands a round: the index, the value. -/
abbrev Small := { x : Int × Int // -9223372036854775808 ≤ x.2 ∧ x.2 ≤ 9223372036854775807 }
/-- The negation, as int64 has it. -/
def negw (x : Int) : Int := wrap64 (-x)
theorem negw_range (x : Int) : -9223372036854775808 ≤ negw x ∧ negw x ≤ 9223372036854775807 := by unfold negw wrap64; omega
theorem negw_eq {x : Int} (h : -8 ≤ x ∧ x ≤ 8) : negw x = -x := by unfold negw wrap64; omega
theorem negw_word {xs : List Int} (h : IsWord xs) : xs.map negw = xs.map (- ·) := by
  refine List.map_congr_left fun x hx => ?_
  obtain ⟨k, hk⟩ := List.getElem?_of_mem hx
  exact negw_eq (h.letter hk).2

theorem Ints.below {w w' : World} {a : Option Addr} {n B : Nat} {xs : List Int} (h : Ints w a n xs) (hb : Below B w w') (ha : ABelow a B ∨ n = 0) : Ints w' a n xs := by
  refine ⟨?_, h.2⟩
  rcases ha with ha | rfl
  · exact h.1.of_heap fun b off e => hb.block b (ha b off none e)
  · exact ⟨h.1.1, h.1.2.1, .inl rfl⟩
theorem Ints.abelow {w : World} {a : Option Addr} {n : Nat} {xs : List Int} (h : Ints w a n xs) : ABelow a w.heap.size ∨ n = 0 := by
  by_cases hn : n = 0
  · exact .inr hn
  refine .inl fun b off s e => ?_
  obtain ⟨b', off', _, e', hb, _⟩ := h.at (k := 0) (by omega)
  rw [e] at e'
  cases e'
  exact hb

/-- What a round keeps: what lay below n₀, and the box B. -/
def KeptBox (n₀ B : Nat) (W W' : World) : Prop := Below n₀ W W' ∧ ∀ v, Boxed W B 22 v → Boxed W' B 22 v
theorem keptBox_t {n₀ B : Nat} {X Y Z : World} (h : KeptBox n₀ B X Y) (k : KeptBox n₀ B Y Z) : KeptBox n₀ B X Z := ⟨h.1.trans k.1, fun v hv => k.2 v (h.2 v hv)⟩
theorem keptBox_b {n₀ B : Nat} {w : World} (hn : n₀ ≤ w.heap.size) (hB : B < w.heap.size) (W : World) (l : Nat) (o o' : Obj) (hl : w.heap.size ≤ l) (h : W.heap[l]? = some o) (hc : o.isCells = false) (hw : o.isWalk = false) : KeptBox n₀ B W (W.putObj l o') :=
  ⟨belowK_b hn W l o o' hl h hc hw, fun _ hv => hv.kept (grownBy_putObj' W l o') (fun e => by cases e; omega)⟩

set_option maxRecDepth 100000 in
set_option maxHeartbeats 2000000 in
theorem backward1_in (F : Fence) (n : Nat) (hf : F.fn 100) (hro : F.round = none) (hn : 1 ≤ n) (l Bs n₀ : Nat) (a : Option Addr) (len cap : Nat) (zs : List Int)
    (ha : ABelow a n₀ ∨ len = 0) (J Jx : List Small → World → Prop)
    (hY : ∀ pre (x : Small) W, J pre W → pre.length < len → YieldAt F (n - 1) Try.prog l #[.int .i64 x.1.1, .int .i64 x.1.2] W fun e W' =>
      (e = .returned (.bool true) ∧ J (pre ++ [x]) W' ∧ KeptBox n₀ Bs W W') ∨ (e = .returned (.bool false) ∧ Jx (pre ++ [x]) W'))
    (W : World) (hc : Boxed W Bs 22 (.slice a len cap)) (hI : Ints W a len zs) (h0 : J [] W) :
    CallsIn F n Try.prog 100 #[.func (.yield l) #[] #[], .pointer (some ⟨Bs, 0, none⟩)] W fun e W' => (∃ v, e = .returned v) ∧
      ((∃ ys, ys.map (fun y : Small => y.1.2) = zs.reverse ∧ J ys W') ∨ (∃ pre, True ∧ Jx pre W')) := by
  have hle := hI.le
  have hcc := hc.cell
  refine callsIn_of_wp Try.func100 rfl hf ?_ hro
  simp only [Try.ntmps100, List.size_toArray, List.length_cons, List.length_nil, Nat.reduceAdd, Nat.reduceSub, Array.replicate_succ, Array.replicate_zero, List.push_toArray, List.append_toArray, List.nil_append, List.cons_append]
  gi_wp2
  gi_loopw [3] (fun i wr => ∃ (k : Nat) (pre : List Small), k ≤ len ∧ i = .int .i64 ((k : Int) - 1) ∧ Hd (pre.map (fun y : Small => y.1.2) = (zs.drop k).reverse) ∧ J pre wr ∧ KeptBox n₀ Bs W wr)
    (fun i _ => (intOf i + 1).toNat)
  case atStart => exact ⟨len, [], Nat.le_refl _, rfl, by rw [List.drop_of_length_le (by rw [hI.length]; exact Nat.le_refl _)]; rfl, h0, Below.refl _ _, fun _ h => h⟩
  case round =>
    obtain ⟨k, pre, hk, rfl, hp, hJs, hnx⟩ := hrel
    by_cases hlt : 0 < k
    · obtain ⟨j, rfl⟩ : ∃ j, k = j + 1 := ⟨k - 1, by omega⟩
      obtain ⟨b, off, x, rfl, hb, hcell, hx0, hx1, hx2⟩ := (hI.below hnx.1 ha).at (k := j) (by omega)
      have hcb : wr.cell? ⟨Bs, 0, none⟩ = some (.slice (some ⟨b, off, none⟩) len cap) := (hnx.2 _ hc).cell
      have hxs := And.intro hx1 hx2
      have ej : ((j + 1 : Nat) : Int) - 1 = (j : Int) := by omega
      have hpl : pre.length < len := by
        have h1 := congrArg List.length hp.o
        have h2 := hI.length
        simp at h1
        omega
      obtain ⟨fn, tmps, assign, body, hy, hR⟩ := hY pre ⟨((j : Int), x), hxs⟩ wr hJs hpl
      dsimp only at hy
      rw [ej]
      gi_wp2
      refine hR.mono ?_
      rintro e W3 (⟨rfl, hJ3, hk3⟩ | ⟨rfl, hJx3⟩)
      · gi_wp2
        go_roundw
        case rel =>
          refine ⟨j, _, by omega, rfl, ?_, hJ3, keptBox_t hnx hk3⟩
          show _ = _
          rw [List.map_append, hp.o, drop_some hx0.o, List.reverse_cons]
          rfl
        case measure => simp [intOf]
      · gi_wp2
        refine bodyPost_ret (results_none rfl _ _ _) rfl ?_
        exact ⟨⟨_, rfl⟩, .inr ⟨_, trivial, hJx3⟩⟩
    · obtain rfl : k = 0 := by omega
      gi_wp2
      go_end0
      exact ⟨⟨_, rfl⟩, .inl ⟨_, hp.o, hJs⟩⟩

set_option maxHeartbeats 1000000 in
theorem backward_in (F : Fence) (n : Nat) (hf : F.fn 95) (hro : F.round = none) (a : Option Addr) (len cap : Nat) (w : World) :
    CallsIn F n Try.prog 95 #[.slice a len cap] w fun e w' => e = .returned (.func (.func 100) #[] #[.pointer (some ⟨w.heap.size, 0, none⟩)]) ∧ w' = w.alloc (.cells #[.slice a len cap] 22) := by
  refine callsIn_of_wp Try.func95 rfl hf ?_ hro
  simp only [Try.ntmps95, List.size_toArray, List.length_cons, List.length_nil, Nat.reduceAdd, Nat.reduceSub, Array.replicate_succ, Array.replicate_zero, List.push_toArray, List.append_toArray, List.nil_append, List.cons_append]
  gi_wp2
  go_ret
  exact ⟨rfl, rfl⟩

theorem backward_stops (F : Fence) (n : Nat) (hf : F.fn 100) (hro : F.round = none) (hn : 1 ≤ n) (Bs n₀ : Nat) (a : Option Addr) (len cap : Nat) (zs : List Int) (w : World) (ha : ABelow a n₀ ∨ len = 0) (hc : Boxed w Bs 22 (.slice a len cap)) (hI : Ints w a len zs) :
    SeqStopsK F n Try.prog 100 #[.pointer (some ⟨Bs, 0, none⟩)] (fun x : Small => #[Value.int .i64 x.1.1, Value.int .i64 x.1.2]) (KeptBox n₀ Bs) (fun ys => ys.map (fun y : Small => y.1.2) = zs.reverse) (fun _ => True) len w := fun l J Jx W hW _ _ hY h0 =>
  backward1_in F n hf hro hn l Bs n₀ a len cap zs ha J Jx hY W ((hW.block Bs hc.lt).trans hc) (hI.up hW) h0

set_option maxRecDepth 100000 in
set_option maxHeartbeats 2000000 in
theorem implInverseWord_in (F : Fence) (n : Nat) (h1 : F.fn 78) (h2 : F.fn 95) (h3 : F.fn 100) (hro : F.round = none) (hn : 3 ≤ n)
    (a : Option Addr) (len cap : Nat) (xs : List Int) (w : World) (hx : Ints w a len xs) (hl : len ≤ 2000000) :
    CallsIn F n Try.prog 78 #[.slice a len cap] w fun e W' => ∃ v, e = .returned v ∧ W'.ownsRow w.heap.size 2 1 v ((xs.map negw).reverse).length ((xs.map negw).reverse.map (Value.int .i64)) ∧ Below w.heap.size w W' := by
  have hn1 : 1 ≤ n := by omega
  obtain ⟨i0, hi, hz0, hz1, hz2⟩ := info_parts infoInt
  refine callsIn_of_wp_marks Try.func78 rfl h1 ?_ hro
  simp only [Try.ntmps78, List.size_toArray, List.length_cons, List.length_nil, Nat.reduceAdd, Nat.reduceSub, Array.replicate_succ, Array.replicate_zero, List.push_toArray, List.append_toArray, List.nil_append, List.cons_append]
  gi_wp2_with (gi_at_call 95; refine (backward_in F (n - 1) h2 hro _ _ _ _).mono ?_; rintro e w' ⟨rfl, rfl⟩)
  have bO := Boxed.new w 22 (.slice none 0 0)
  have bN := Boxed.new (w.alloc (.cells #[.slice none 0 0] 22)) 22 (.slice a len cap)
  rw [World.size_alloc] at bN
  have hB0 : Below w.heap.size w ((w.alloc (.cells #[.slice none 0 0] 22)).alloc (.cells #[.slice a len cap] 22)) := ((Below.refl _ w).alloc (Nat.le_refl _) _).alloc (by simp) _
  refine wpIn_rangeFunc_ownG hro hn1 (gf := 100) (lb := #[.pointer (some ⟨w.heap.size + 1, 0, none⟩)]) rfl h3 (enters_of Try.func100 (by kernel_rfl) rfl)
    (backward_stops F (n - 1) h3 hro (by omega) (w.heap.size + 1) w.heap.size a len cap xs _ hx.abelow bN (hx.up hB0)) keptBox_t (keptBox_b (by simp; omega) (by simp)) (Below.refl _ _) (fun _ => rfl)
    (fun (pre : List Small) W => (∃ v, Boxed W w.heap.size 22 v ∧ W.ownsRow w.heap.size 2 1 v (pre.map fun y : Small => negw y.1.2).length ((pre.map fun y : Small => negw y.1.2).map (Value.int .i64)) ∧ True) ∧ Boxed W (w.heap.size + 1) 22 (.slice a len cap) ∧ Below w.heap.size w W)
    (fun _ _ _ => False)
    (OwnFrom.and (Go.Own.from (holdsRow_own w.heap.size w.heap.size 22 2 1 (fun (pre : List Small) => (pre.map fun y : Small => negw y.1.2).length) (fun (pre : List Small) => (pre.map fun y : Small => negw y.1.2).map (Value.int .i64)) (fun _ _ => True)) _) (OwnFrom.and (Go.Own.from (boxed_own (w.heap.size + 1) 22 (fun _ => .slice a len cap)) _) (ownFrom_below (Nat.le_refl _) (by simp; omega))))
    (fun _ _ _ _ _ hs _ _ => hs)
    ⟨⟨_, bO.alloc _, World.ownsRow_nil _ _ _ _, trivial⟩, bN, hB0⟩
    (fun x => { tmps := #[.slice a len cap, undef, .slice none 0 0, .pointer (some ⟨w.heap.size, 0, none⟩), undef, .int .i64 x.1.2, .slice a len cap, .func (.func 100) #[] #[.pointer (some ⟨w.heap.size + 1, 0, none⟩)], .int .i64 x.1.1, .int .i64 x.1.2, undef, undef, undef, undef, undef, undef], defers := [] }) ?assign ?body ?done ?stop
  case assign =>
    intro l x W K hK
    gi_wp2
    exact hK
  case body =>
    rintro l pre x W ⟨⟨v, hv, hrow, _⟩, hb1, hB⟩ hlt
    have hc := hv.cell
    have hxr := x.2
    have hpl : (pre.map fun y : Small => negw y.1.2).length = pre.length := List.length_map ..
    gi_wp2_with (gi_at_builtin; refine wpListIn_append_own _ rfl _ _ 22 rfl w.heap.size 2 i0 (.int .i64 0) 1 8 Try.underlying22 hi hz0 hz1 hz2 rfl (by decide) _ _ _ rfl (hrow.alloc _) ⟨W.heap.size, 0, none⟩ 1 1 [.int .i64 (negw x.1.2)] rfl rfl (cell_one_new _ _ _) (by simp [Value.oneCell']) (by rw [maxLen_eq]; omega) (by omega) (by have := hB.size; simp; omega) ?_; intro v' w1 hown' hgrow _; obtain ⟨g', cap', rfl⟩ := ownsRow_succ hown'; have hb2' := (hb1.alloc _).kept hgrow (hb1.not_row (by decide) hrow); obtain ⟨hv1, hv2, hr2, hk2, hb2⟩ := hv.appended (by decide) hrow hB.size (Nat.le_refl _) hown' hgrow; have hc1 := hv1.cell; have hf1 := hv1.frozen)
    have hb3 := hb2'.other (by omega : w.heap.size + 1 ≠ w.heap.size) (Value.slice (some ⟨g', 0, none⟩) ((pre.map fun y : Small => negw y.1.2).length + 1) cap')
    simp only [List.length_map] at hb2 hv2 hb3 hk2 hr2
    refine ⟨hk2.from _, ⟨hb2, fun u hu => ?_⟩, ⟨_, hv2, ?_, trivial⟩, hb3, hB.trans hb2⟩
    · have e := Option.some.inj ((show _ = _ from hu).symm.trans hb1)
      simp only [Obj.cells.injEq, Array.mk.injEq, List.cons.injEq, and_true] at e
      subst e
      exact hb3
    · rw [List.map_append, List.length_append, List.map_append, List.length_map]
      exact hr2
  case done =>
    rintro D ys W hD hys ⟨⟨v, hv, hrow, _⟩, _, hB⟩ hK
    have hc := hv.cell
    gi_wp2
    refine ⟨by simp, .inl ⟨_, _, rfl, run_takeDeferred hK, ?_⟩⟩
    have e : (ys.map fun y : Small => negw y.1.2) = (xs.map negw).reverse := by
      rw [← List.map_reverse, ← hys, List.map_map]; rfl
    rw [e] at hrow
    exact ⟨_, results_tmp rfl _ _ _, v, rfl, ownsRow_putObj hrow _ hK rfl, hB.trans (belowK_b (w := w) (Nat.le_refl _) W D _ _ (by simp at hD; omega) hK rfl rfl)⟩
  case stop =>
    rintro D c pre W _ _ h _
    exact h.elim

theorem implInverseWord_c {R : Ending → World → Prop} (a : Option Addr) (n cap : Nat) (xs : List Int) (w : World) (hx : Ints w a n xs) (hn : n ≤ 2000000) (H : MakesI R w ((xs.map negw).reverse)) :
    Calls Try.prog 78 #[.slice a n cap] w R := by
  refine ((callsIn_wide (n := 3)).1 (implInverseWord_in Fence.wide 3 trivial trivial trivial rfl (by omega) a n cap xs w hx hn)).mono ?_
  rintro e W' ⟨v, rfl, hown, hb⟩
  have hlen : ((xs.map negw).reverse).length = n := by simp [hx.length]
  have hr : ∀ z ∈ (xs.map negw).reverse, -9223372036854775808 ≤ z ∧ z ≤ 9223372036854775807 := by
    intro z hz
    simp only [List.mem_reverse, List.mem_map] at hz
    obtain ⟨y, _, rfl⟩ := hz
    exact negw_range y
  rcases hown.2 with ⟨rfl, h0⟩ | ⟨g, cap', cur, rfl, _⟩
  · rw [hlen] at h0
    have h0' : xs = [] := List.length_eq_zero_iff.1 (by rw [hx.length]; exact h0)
    subst h0'
    exact H _ _ _ _ hb (OwnI.nil _ _)
  · exact H _ _ _ _ hb ⟨⟨by simp, by rw [hlen]; omega, hown⟩, hr⟩

end Go.Proofs.Ytockombopcjldaa
