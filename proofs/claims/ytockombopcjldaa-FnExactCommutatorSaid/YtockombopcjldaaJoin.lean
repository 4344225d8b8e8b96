/- Words joined: slices.Grow, slices.Concat, joinWords, concatWords. -/
import Derived.Test.YtockombopcjldaaGrid
import Derived.Test.YtockombopcjldaaWordFns
import Derived.Lib.AppendZeros
import Derived.Lib.Walk
import Derived.Lib.SliceRun
namespace Go.Proofs.Ytockombopcjldaa
open Go.RowKit

theorem undInt : Try.prog.underlying 3 = some (.int .i64) := by kernel_rfl

/-- A new row with room, nothing in it. -/
theorem OwnI.room (w : World) {B G : Nat} (cs : Array Value) (hB : B ≤ w.heap.size) (hm : G ≤ maxLen) (hcs : cs.size = G) : OwnI ((w.alloc (.cells cs 2)).drew) B (some ⟨w.heap.size, 0, none⟩) 0 G [] :=
  ⟨⟨rfl, by omega, by simp, .inr ⟨w.heap.size, G, cs, rfl, hB, heap_alloc_new w _, Nat.zero_le _, hm, by simpa using hcs, by simp⟩⟩, by simp⟩

theorem grow_c {R : Ending → World → Prop} (n : Nat) (w : World) (hn : n ≤ 1000000) (H : MakesI R w []) :
    Calls Try.prog 99 #[.slice none 0 0, .int .i64 n] w R := by
  have H' := Hd.i H; clear H
  by_cases h0 : 0 < n
  · obtain ⟨i0, hi, hz0, hz1, hz2⟩ := info_parts infoInt
    have hr := Go.Lib.run_append_nil_zeros (P := Try.prog) w 22 3 22 2 i0 (.int .i64 0) .i64 .i64 Try.underlying22 undInt hi hz0 n h0 (by rw [hz1]; exact Nat.one_pos) (by omega) (by rw [hz2]; omega)
    have hG1 := grownCap_ge w n 0 2
    have hG2 := grownCap_le_maxLen w n 0 2 (by rw [maxLen_eq]; omega)
    obtain ⟨G, hG⟩ : ∃ G, G = grownCap w n 0 2 := ⟨_, rfl⟩
    rw [← hG] at hr hG1 hG2
    obtain ⟨cs, hcs, hsz⟩ : ∃ cs, cs = Builtin.zeroCells (Value.int .i64 0).cells n ++ Builtin.zeroCells (Value.int .i64 0).cells (G - n) ∧ Hd (cs.size = G) := ⟨_, rfl, by show _ = _; simp [Builtin.zeroCells, Value.cells]; omega⟩
    rw [← hcs] at hr
    have hG3 : G ≤ 9223372036854775807 := hG2
    clear hG hcs
    replace hG2 := Hd.i hG2
    go_enter Try.func99, Try.ntmps99
    go_wp2_with (at_builtin; refine Go.Lib.wpList_append_run _ rfl _ _ _ _ rfl _ _ rfl rfl _ _ hr ?_)
    exact H'.o _ _ _ _ (((Below.refl _ w).alloc (Nat.le_refl _) _).trans ((Drew.refl _).one.below _)) (OwnI.room w cs (Nat.le_refl _) hG2.o hsz.o)
  · obtain rfl : n = 0 := by omega
    go_enter Try.func99, Try.ntmps99
    go_wp2
    exact H'.o _ _ _ _ (Below.refl _ _) (OwnI.nil _ _)

theorem flatten_length (wss : List (List Int)) : wss.flatten.length = cells wss := by rw [List.length_flatten]; rfl
theorem flatten_take_succ {wss : List (List Int)} {k : Nat} {xs : List Int} (h : wss[k]? = some xs) : (wss.take (k + 1)).flatten = (wss.take k).flatten ++ xs := by
  rw [take_succ_some h, List.flatten_append]; simp
theorem OwnI.append {w : World} {B : Nat} {a : Option Addr} {n cap : Nat} {xs ys : List Int} (h : Own w B 2 a n cap (xs.map (Value.int .i64) ++ ys.map (Value.int .i64))) (hx : ∀ y ∈ xs, -9223372036854775808 ≤ y ∧ y ≤ 9223372036854775807)
    (hy : ∀ y ∈ ys, -9223372036854775808 ≤ y ∧ y ≤ 9223372036854775807) : OwnI w B a n cap (xs ++ ys) := by
  refine ⟨by rw [List.map_append]; exact h, fun y hm => ?_⟩
  rcases List.mem_append.1 hm with hm | hm
  · exact hx y hm
  · exact hy y hm

set_option maxHeartbeats 1000000 in
theorem concat_c {R : Ending → World → Prop} (a : Option Addr) (n cap : Nat) (wss : List (List Int)) (w : World) (hm : Mat w a n wss) (hc : cells wss ≤ 100000) (H : MakesI R w wss.flatten) :
    Calls Try.prog 92 #[.slice a n cap] w R := by
  have H' := Hd.i H; clear H
  have hl := Hd.i hm.length
  have hle := hm.le
  go_enter Try.func92, Try.ntmps92
  go_wp2
  go_loop [3, 11] (fun s i => ∃ j : Nat, j ≤ n ∧ i = .int .i64 j ∧ s = .int .i64 (cells (wss.take j) : Nat)) (fun _ i => n - (intOf i).toNat)
  case atStart => exact ⟨0, Nat.zero_le _, rfl, rfl⟩
  case round =>
    obtain ⟨j, hj, rfl, rfl⟩ := hrel
    by_cases hlt : j < n
    · obtain ⟨b, off, a1, n1, c1, xs, rfl, hb, hcell, hy, hin, _⟩ := hm.at hlt
      have hinl := hin.length
      have h3 := cells_take_succ hy.o
      have h4 := cells_take_le wss (j + 1)
      have h5 : cells (wss.take j) + n1 ≤ 100000 := by omega
      have h6 : ¬ (((cells (wss.take j) : Nat) : Int) + (n1 : Int) < 0) := by omega
      replace h3 := Hd.i h3
      replace h4 := Hd.i h4
      replace hinl := Hd.i hinl
      go_wp2
      go_round
      case rel => exact ⟨j + 1, by omega, by go_num, by rw [h3.o, hinl.o]; rfl⟩
      case measure => simp [intOf]; omega
    · obtain rfl : j = n := by omega
      have e2 : wss.take j = wss := List.take_of_length_le (by have := hl.o; omega)
      rw [e2]
      replace e2 := Hd.i e2
      go_wp2_with (go_at_call 99; refine grow_c _ _ (by omega) ?_; intro b1 m1 d1 w1 hb1 ho1)
      go_loopw [6, 27] (fun v i wr => ∃ (k : Nat) (c : Option Addr) (m capc : Nat), k ≤ j ∧ i = .int .i64 k ∧ v = .slice c m capc ∧ OwnI wr w.heap.size c m capc ((wss.take k).flatten) ∧ Below w.heap.size w wr) (fun _ i _ => j - (intOf i).toNat)
      case atStart => exact ⟨0, _, _, _, Nat.zero_le _, rfl, rfl, ho1, hb1⟩
      case round =>
        obtain ⟨k, c, m, capc, hk, rfl, rfl, ho, hb⟩ := hrel
        by_cases hlt : k < j
        · obtain ⟨b, off, a1, n1, c1, xs, rfl, hbb, hcell, hy, hin, _⟩ := (hm.up hb).at hlt
          have hinl := hin.length
          have h3 := cells_take_succ hy.o
          have h4 := cells_take_le wss (k + 1)
          have h5 : m = cells (wss.take k) := by rw [← ho.length, flatten_length]
          have c1' : (m + n1) * 8 ≤ 140737488355328 := by omega
          have c2' : m + n1 ≤ 281474976710656 := by omega
          have hs := hb.size
          clear h3 h4 h5
          replace hinl := Hd.i hinl
          go_wp2_with (at_builtin; refine append_c rfl _ _ _ rfl w.heap.size 2 (.int .i64 0) 8 Try.underlying22 infoInt rfl _ _ _ _ rfl ho.1 _ _ _ (xs.map (Value.int .i64)) rfl hin.1 oneInts c1' c2' hs ?_; intro a2 n2 cap2 w2 hn2 ho2 hg2 ha2)
          refine ⟨⟨k + 1, a2, n2, cap2, by omega, by go_num, rfl, ?_, ho.grewBelow hg2 hb hs⟩, by simp [intOf]; omega⟩
          rw [flatten_take_succ hy.o]
          exact OwnI.append ho2 ho.2 hin.2
        · obtain rfl : k = j := by omega
          go_wp2
          rw [e2.o] at ho
          exact H'.o _ _ _ _ hb ho

def JoinOk (wss : List (List Int)) : Prop := (∀ x ∈ wss, IsWord x) ∧ cells wss ≤ 200
instance (wss : List (List Int)) : Decidable (JoinOk wss) := inferInstanceAs (Decidable (_ ∧ _))
def pJoin (wss : List (List Int)) : List Int := if JoinOk wss then wss.flatten else []
theorem words_cells {wss : List (List Int)} (h : ∀ x ∈ wss, IsWord x) : cells wss ≤ 200 * wss.length := by
  unfold cells
  induction wss with
  | nil => simp
  | cons x t ih =>
    have h1 := (h x List.mem_cons_self).len
    have h2 := ih fun y hy => h y (List.mem_cons_of_mem _ hy)
    simp only [List.map_cons, List.sum_cons, List.length_cons]
    omega
theorem wordsTo {wss : List (List Int)} {k : Nat} {x : List Int} (h : ∀ q ∈ wss.take k, IsWord q) (hx : wss[k]? = some x) (hp : IsWord x) : ∀ q ∈ wss.take (k + 1), IsWord q := by
  rw [take_succ_some hx]
  intro q hq
  rcases List.mem_append.1 hq with hq | hq
  · exact h q hq
  · obtain rfl := List.mem_singleton.1 hq
    exact hp

set_option maxHeartbeats 1000000 in
theorem joinWords_c {R : Ending → World → Prop} (a : Option Addr) (n cap : Nat) (wss : List (List Int)) (w : World) (hm : Mat w a n wss) (hn : n ≤ 8) (H : MakesIB R w (pJoin wss) (decide (JoinOk wss))) :
    Calls Try.prog 68 #[.slice a n cap] w R := by
  have H' := Hd.i H; clear H
  have hl := Hd.i hm.length
  go_enter Try.func68, Try.ntmps68
  go_wp2
  go_loopw [9] (fun i wr => ∃ j : Nat, j ≤ n ∧ i = .int .i64 j ∧ Below w.heap.size w wr ∧ Hd (∀ x ∈ wss.take j, IsWord x)) (fun i _ => n - (intOf i).toNat)
  case atStart => exact ⟨0, Nat.zero_le _, rfl, Below.refl _ _, by simp [Hd]⟩
  case round =>
    obtain ⟨j, hj, rfl, hb, hall⟩ := hrel
    by_cases hlt : j < n
    · obtain ⟨b, off, a1, n1, c1, xs, rfl, hbb, hcell, hy, hin, _⟩ := (hm.up hb).at hlt
      by_cases hw : IsWord xs
      · have hdec := Hd.i (decide_eq_true hw)
        go_wp2_with (go_at_call 91; refine implIsWord_c _ _ _ xs _ hin ?_; intro w2 hb2; rw [hdec.o])
        exact ⟨⟨j + 1, by omega, by go_num, below_ups hb hb2 hb.size, wordsTo hall.o hy.o hw⟩, by simp [intOf]; omega⟩
      · have hdec := Hd.i (decide_eq_false hw)
        have hno : ¬ JoinOk wss := fun h => hw (h.1 xs (List.mem_of_getElem? hy.o))
        have e1 := Hd.i (show pJoin wss = [] by simp [pJoin, hno])
        have e2 := Hd.i (decide_eq_false hno)
        clear hno
        go_wp2_with (go_at_call 91; refine implIsWord_c _ _ _ xs _ hin ?_; intro w2 hb2; rw [hdec.o])
        have := H'.o none 0 0 _ (below_ups hb hb2 hb.size) (by rw [e1.o]; exact OwnI.nil _ _)
        rw [e2.o] at this
        exact this
    · obtain rfl : j = n := by omega
      have hall' := hall.o
      rw [List.take_of_length_le (by have := hl.o; omega)] at hall'
      have hcl := words_cells hall'
      have hln := hl.o
      have hcl' : cells wss ≤ 100000 := by omega
      have hflat := Hd.i (flatten_length wss)
      replace hcl := Hd.i hcl
      clear hln
      by_cases hsz : cells wss ≤ 200
      · have hok : JoinOk wss := ⟨hall', hsz⟩
        have e1 := Hd.i (show pJoin wss = wss.flatten by simp [pJoin, hok])
        have e2 := Hd.i (decide_eq_true hok)
        clear hok
        replace hall' := Hd.i hall'
        go_wp2_with (go_at_call 92; refine concat_c _ _ _ wss _ (hm.up hb) hcl' ?_; intro b1 m1 d1 w1 hb1 ho1; have hm1 : m1 ≤ 200 := (by have := ho1.length; have := hflat.o; omega))
        have := H'.o _ _ _ _ (below_ups hb hb1 hb.size) (by rw [e1.o]; exact ho1.mono hb.size)
        rw [e2.o] at this
        exact this
      · have hok : ¬ JoinOk wss := fun h => hsz h.2
        have e1 := Hd.i (show pJoin wss = [] by simp [pJoin, hok])
        have e2 := Hd.i (decide_eq_false hok)
        clear hok
        replace hall' := Hd.i hall'
        go_wp2_with (go_at_call 92; refine concat_c _ _ _ wss _ (hm.up hb) hcl' ?_; intro b1 m1 d1 w1 hb1 ho1; have hm1 : 200 < m1 := (by have := ho1.length; have := hflat.o; omega); have hm2 := ho1.le)
        have := H'.o none 0 0 _ (below_ups hb hb1 hb.size) (by rw [e1.o]; exact OwnI.nil _ _)
        rw [e2.o] at this
        exact this

set_option maxHeartbeats 1000000 in
theorem concatWords_c {R : Ending → World → Prop} (a : Option Addr) (n cap : Nat) (wss : List (List Int)) (w : World) (hm : Mat w a n wss) (hn : n ≤ 8) (H : MakesIB R w (pJoin wss) (decide (JoinOk wss))) :
    Calls Try.prog 67 #[.slice a n cap] w R := by
  have H' := Hd.i H; clear H
  have hl := Hd.i hm.length
  go_enter Try.func67, Try.ntmps67
  go_wp2
  go_loopw [4, 5] (fun v i wr => ∃ (k : Nat) (c : Option Addr) (m capc : Nat), k ≤ n ∧ i = .int .i64 k ∧ v = .slice c m capc ∧ OwnI wr w.heap.size c m capc ((wss.take k).flatten) ∧ Below w.heap.size w wr ∧ Hd (∀ x ∈ wss.take k, IsWord x)) (fun _ i _ => n - (intOf i).toNat)
  case atStart => exact ⟨0, _, 0, 0, Nat.zero_le _, rfl, rfl, OwnI.emptyLit w (Nat.le_refl _), (Below.refl _ _).alloc (Nat.le_refl _) _, by simp [Hd]⟩
  case round =>
    obtain ⟨k, c, m, capc, hk, rfl, rfl, ho, hb, hall⟩ := hrel
    have hs := hb.size
    have hm5 : m = cells (wss.take k) := by rw [← ho.length, flatten_length]
    by_cases hlt : k < n
    · obtain ⟨b, off, a1, n1, c1, xs, rfl, hbb, hcell, hy, hin, _⟩ := (hm.up hb).at hlt
      have hwc := words_cells hall.o
      have hlk : (wss.take k).length ≤ 8 := by rw [List.length_take]; omega
      by_cases hw : IsWord xs
      · have hdec := Hd.i (decide_eq_true hw)
        have hxl := hw.len
        have hinl := hin.length
        have c1' : (m + n1) * 8 ≤ 140737488355328 := by omega
        have c2' : m + n1 ≤ 281474976710656 := by omega
        clear hwc hlk hm5 hxl hinl
        go_wp2_with (first | (go_at_call 76; refine specIsWord_c _ _ _ xs _ hin ?_; rw [hdec.o]) | (at_builtin; refine append_c rfl _ _ _ rfl w.heap.size 2 (.int .i64 0) 8 Try.underlying22 infoInt rfl _ _ _ _ rfl ho.1 _ _ _ (xs.map (Value.int .i64)) rfl hin.1 oneInts c1' c2' hs ?_; intro a2 n2 cap2 w2 hn2 ho2 hg2 ha2))
        refine ⟨⟨k + 1, a2, n2, cap2, by omega, by go_num, rfl, ?_, ho.grewBelow hg2 hb hs, wordsTo hall.o hy.o hw⟩, by simp [intOf]; omega⟩
        rw [flatten_take_succ hy.o]
        exact OwnI.append ho2 ho.2 hin.2
      · have hdec := Hd.i (decide_eq_false hw)
        have hno : ¬ JoinOk wss := fun h => hw (h.1 xs (List.mem_of_getElem? hy.o))
        have e1 := Hd.i (show pJoin wss = [] by simp [pJoin, hno])
        have e2 := Hd.i (decide_eq_false hno)
        clear hno hwc hlk hm5
        go_wp2_with (first | (go_at_call 76; refine specIsWord_c _ _ _ xs _ hin ?_; rw [hdec.o]))
        have := H'.o _ _ _ _ (hb.alloc hs _) (by rw [e1.o]; exact OwnI.emptyLit _ hs)
        rw [e2.o] at this
        exact this
    · obtain rfl : k = n := by omega
      have hall' := hall.o
      have ho' := ho
      rw [List.take_of_length_le (by have := hl.o; omega)] at hall' ho' hm5
      have hmle := ho.le
      by_cases hsz : cells wss ≤ 200
      · have hok : JoinOk wss := ⟨hall', hsz⟩
        have e1 := Hd.i (show pJoin wss = wss.flatten by simp [pJoin, hok])
        have e2 := Hd.i (decide_eq_true hok)
        have hm6 : m ≤ 200 := by omega
        clear hok hm5
        replace hall' := Hd.i hall'
        go_wp2
        have := H'.o _ _ _ _ hb (by rw [e1.o]; exact ho')
        rw [e2.o] at this
        exact this
      · have hok : ¬ JoinOk wss := fun h => hsz h.2
        have e1 := Hd.i (show pJoin wss = [] by simp [pJoin, hok])
        have e2 := Hd.i (decide_eq_false hok)
        have hm6 : 200 < m := by omega
        clear hok hm5
        replace hall' := Hd.i hall'
        go_wp2
        have := H'.o _ _ _ _ (hb.alloc hs _) (by rw [e1.o]; exact OwnI.emptyLit _ hs)
        rw [e2.o] at this
        exact this

/-- Rows laid side by side for a call of however many arguments. -/
theorem Mat.lit (w : World) (hs : List Hdr) (xss : List (List Int)) (hl : xss.length = hs.length) (hn : hs.length ≤ 1000) (h : ∀ (j : Nat) (x : Hdr) (xs : List Int), hs[j]? = some x → xss[j]? = some xs → Ints w x.1 x.2.1 xs ∧ x.2.1 ≤ x.2.2) :
    Mat (w.alloc (.cells (hs.map hvv).toArray 22)) (some ⟨w.heap.size, 0, none⟩) hs.length xss := by
  have := Vals.lit w (hs.map hvv) 22 (by rw [List.length_map]; omega)
  rw [List.length_map] at this
  exact ⟨hs, this, hl, fun j x xs e e' => ⟨(h j x xs e e').1.up ((Below.refl _ _).alloc (Nat.le_refl _) _), (h j x xs e e').2⟩⟩
theorem Mat.lit2 {w : World} {a a' : Option Addr} {n cap n' cap' : Nat} {xs ys : List Int} (h : Ints w a n xs) (h' : Ints w a' n' ys) (hc : n ≤ cap) (hc' : n' ≤ cap') :
    Mat (w.alloc (.cells #[.slice a n cap, .slice a' n' cap'] 22)) (some ⟨w.heap.size, 0, none⟩) 2 [xs, ys] := by
  refine Mat.lit w [(a, n, cap), (a', n', cap')] [xs, ys] rfl (by simp) fun j x zs e e' => ?_
  match j, e, e' with
  | 0, e, e' => cases e; cases e'; exact ⟨h, hc⟩
  | 1, e, e' => cases e; cases e'; exact ⟨h', hc'⟩
  | j + 2, e, e' => simp at e
theorem Mat.lit3 {w : World} {a a' a2 : Option Addr} {n cap n' cap' n2 cap2 : Nat} {xs ys zs : List Int} (h : Ints w a n xs) (h' : Ints w a' n' ys) (h2 : Ints w a2 n2 zs) (hc : n ≤ cap) (hc' : n' ≤ cap') (hc2 : n2 ≤ cap2) :
    Mat (w.alloc (.cells #[.slice a n cap, .slice a' n' cap', .slice a2 n2 cap2] 22)) (some ⟨w.heap.size, 0, none⟩) 3 [xs, ys, zs] := by
  refine Mat.lit w [(a, n, cap), (a', n', cap'), (a2, n2, cap2)] [xs, ys, zs] rfl (by simp) fun j x us e e' => ?_
  match j, e, e' with
  | 0, e, e' => cases e; cases e'; exact ⟨h, hc⟩
  | 1, e, e' => cases e; cases e'; exact ⟨h', hc'⟩
  | 2, e, e' => cases e; cases e'; exact ⟨h2, hc2⟩
  | j + 3, e, e' => simp at e
theorem Mat.lit4 {w : World} {a a' a2 a3 : Option Addr} {n cap n' cap' n2 cap2 n3 cap3 : Nat} {xs ys zs us : List Int} (h : Ints w a n xs) (h' : Ints w a' n' ys) (h2 : Ints w a2 n2 zs) (h3 : Ints w a3 n3 us) (hc : n ≤ cap) (hc' : n' ≤ cap') (hc2 : n2 ≤ cap2) (hc3 : n3 ≤ cap3) :
    Mat (w.alloc (.cells #[.slice a n cap, .slice a' n' cap', .slice a2 n2 cap2, .slice a3 n3 cap3] 22)) (some ⟨w.heap.size, 0, none⟩) 4 [xs, ys, zs, us] := by
  refine Mat.lit w [(a, n, cap), (a', n', cap'), (a2, n2, cap2), (a3, n3, cap3)] [xs, ys, zs, us] rfl (by simp) fun j x vs e e' => ?_
  match j, e, e' with
  | 0, e, e' => cases e; cases e'; exact ⟨h, hc⟩
  | 1, e, e' => cases e; cases e'; exact ⟨h', hc'⟩
  | 2, e, e' => cases e; cases e'; exact ⟨h2, hc2⟩
  | 3, e, e' => cases e; cases e'; exact ⟨h3, hc3⟩
  | j + 4, e, e' => simp at e

theorem topSpecConcatWords {R : Ending → World → Prop} {B B' : Nat} (a : Option Addr) (n cap : Nat) (p : List Int) (a' : Option Addr) (n' cap' : Nat) (q : List Int) (w : World) (h : OwnI w B a n cap p) (h' : OwnI w B' a' n' cap' q)
    (H : MakesIB R w (pJoin [p, q]) (decide (JoinOk [p, q]))) : Calls Try.prog 25 #[.slice a n cap, .slice a' n' cap'] w R := by
  have H' := Hd.i H; clear H
  have hm := Mat.lit2 h.ints h'.ints h.cap h'.cap
  have hb0 := fun o => (Below.refl w.heap.size w).alloc (Nat.le_refl _) o
  go_enter Try.func25, Try.ntmps25
  go_wp2_with (go_at_call 67; refine concatWords_c _ _ _ [p, q] _ hm (by omega) ?_; intro b1 m1 d1 w1 hb1 ho1)
  exact H'.o _ _ _ _ (below_ups (hb0 _) hb1 (hb0 _).size) (ho1.mono (hb0 _).size)
theorem topImplConcatWords {R : Ending → World → Prop} {B B' : Nat} (a : Option Addr) (n cap : Nat) (p : List Int) (a' : Option Addr) (n' cap' : Nat) (q : List Int) (w : World) (h : OwnI w B a n cap p) (h' : OwnI w B' a' n' cap' q)
    (H : MakesIB R w (pJoin [p, q]) (decide (JoinOk [p, q]))) : Calls Try.prog 26 #[.slice a n cap, .slice a' n' cap'] w R := by
  have H' := Hd.i H; clear H
  have hm := Mat.lit2 h.ints h'.ints h.cap h'.cap
  have hb0 := fun o => (Below.refl w.heap.size w).alloc (Nat.le_refl _) o
  go_enter Try.func26, Try.ntmps26
  go_wp2_with (go_at_call 68; refine joinWords_c _ _ _ [p, q] _ hm (by omega) ?_; intro b1 m1 d1 w1 hb1 ho1)
  exact H'.o _ _ _ _ (below_ups (hb0 _) hb1 (hb0 _).size) (ho1.mono (hb0 _).size)
end Go.Proofs.Ytockombopcjldaa
