/- nextPermutation. -/
import Derived.Test.YtkojonjcikgikaaSort
import Derived.Test.YtkojonjcikgikaaPut
import Derived.Test.YtkojonjcikgikaaPureFind
import Derived.Test.YtkojonjcikgikaaQue
namespace Go.Proofs.Ytkojonjcikgikaa
open Go.RowKit Go.Sort

/-- Where the entries do not fall throughout, there is a next permutation. -/
theorem next_split : ∀ {x : List Int}, x.Nodup → ¬ x.Pairwise (· > ·) → ∃ a u s1 v s2, x = a ++ u :: (s1 ++ v :: s2) ∧ (s1 ++ v :: s2).Pairwise (· > ·) ∧ u < v ∧ ∀ z ∈ s2, z < u
  | [], _, h => absurd List.Pairwise.nil h
  | y :: t, hn, h => by
    have hn' := List.nodup_cons.1 hn
    by_cases ht : t.Pairwise (· > ·)
    · have hex : ∃ z ∈ t, y < z := by
        apply Classical.byContradiction
        intro hc
        refine h (List.pairwise_cons.2 ⟨fun z hz => ?_, ht⟩)
        have h1 : ¬ y < z := fun hlt => hc ⟨z, hz, hlt⟩
        have h2 : y ≠ z := fun e => hn'.1 (e ▸ hz)
        show y > z
        omega
      -- t = s1 ++ s2: those above y, those below
      have key : ∀ t : List Int, t.Pairwise (· > ·) → y ∉ t → (∃ z ∈ t, y < z) → ∃ s1 v s2, t = s1 ++ v :: s2 ∧ y < v ∧ ∀ z ∈ s2, z < y := by
        intro t
        induction t with
        | nil => intro _ _ ⟨z, hz, _⟩; simp at hz
        | cons z t ih =>
          intro hp hny hex
          have hp' := List.pairwise_cons.1 hp
          by_cases hex' : ∃ z ∈ t, y < z
          · obtain ⟨s1, v, s2, rfl, h1, h2⟩ := ih hp'.2 (fun hm => hny (List.mem_cons_of_mem _ hm)) hex'
            exact ⟨z :: s1, v, s2, rfl, h1, h2⟩
          · obtain ⟨z', hz', hlt⟩ := hex
            rcases List.mem_cons.1 hz' with e | hz'
            · subst e
              refine ⟨[], z', t, rfl, hlt, fun x hx => ?_⟩
              have h1 : ¬ y < x := fun hl => hex' ⟨x, hx, hl⟩
              have h2 : y ≠ x := fun e => hny (e ▸ List.mem_cons_of_mem _ hx)
              omega
            · exact absurd ⟨z', hz', hlt⟩ hex'
      obtain ⟨s1, v, s2, rfl, h1, h2⟩ := key t ht hn'.1 hex
      exact ⟨[], y, s1, v, s2, rfl, ht, h1, h2⟩
    · obtain ⟨a, u, s1, v, s2, rfl, h1, h2, h3⟩ := next_split hn'.2 ht
      exact ⟨y :: a, u, s1, v, s2, rfl, h1, h2, h3⟩

/-- slices.Reverse at the rest of a row of the call's own. -/
theorem below_putAt {w : World} {g k q : Nat} {d : Array Int} : Grew (some ⟨g, 0, none⟩) w (putRow (Value.int .i64) (Sort.ahead w q) g k d) := by
  refine ⟨rfl, rfl, rfl, by simp [putRow, mapBlock, Sort.ahead], fun j hj hne => ?_⟩
  have hne' : g ≠ j := fun e => hne 0 none (by rw [e])
  simp [putRow, mapBlock, Sort.ahead, Array.getElem?_modify, hne']
theorem put_at {w : World} {B g n cap q k : Nat} {xs ys : List Int} (h : OwnI w B (some ⟨g, 0, none⟩) n cap xs) (hk : k ≤ n) (hl : ys.length = n - k) (hm : ∀ y ∈ ys, y ∈ xs) :
    OwnI (putRow (Value.int .i64) (Sort.ahead w q) g k ys.toArray) B (some ⟨g, 0, none⟩) n cap (xs.take k ++ ys) := by
  have hx := h.length
  refine ⟨⟨by simp; omega, h.1.2.1, ?_⟩, fun y hy => ?_⟩
  · rcases h.1.2.2.2 with ⟨e0, _⟩ | ⟨g', cap', cur, e0, hb, hg, hn, hm', hs, ht⟩
    · cases e0
    · injection e0 with e1 _ e3
      injection e1 with e1
      injection e1 with e1
      subst e1; subst e3
      refine ⟨by simp; omega, .inr ⟨g, cap, putCells (Value.int .i64) k ys.toArray cur, rfl, hb, ?_, by omega, hm', by simpa [putCells] using hs, ?_⟩⟩
      · simp [putRow, mapBlock, Sort.ahead, Array.getElem?_modify, hg, onCells]
      · apply List.ext_getElem?
        intro j
        rw [List.getElem?_take, List.getElem?_map, Array.getElem?_toList]
        by_cases hj : j < n
        · have hjc : j < cur.size := by omega
          have e1 : (cur.toList.take (n * 1))[j]? = (xs.map (Value.int .i64))[j]? := by rw [ht]
          rw [List.getElem?_take, if_pos (by omega), Array.getElem?_toList, List.getElem?_map, Array.getElem?_eq_getElem hjc] at e1
          simp only [Nat.mul_one, if_pos hj, putCells, Array.getElem?_mapIdx, Array.getElem?_eq_getElem hjc, Option.map_some]
          by_cases hjk : j < k
          · rw [if_neg (by omega), List.getElem?_append_left (by simp; omega), List.getElem?_take, if_pos hjk, e1]
          · rw [if_pos (by simp; omega), List.getElem?_append_right (by simp; omega), List.length_take, show min k xs.length = k by omega, List.getElem?_eq_getElem (by omega)]
            simp [getElem!_pos, show j - k < ys.length by omega]
        · rw [if_neg (by omega), List.getElem?_eq_none (by simp; omega)]
          rfl
  · rw [List.mem_append] at hy
    rcases hy with hy | hy
    · exact h.2 y (List.mem_of_mem_take hy)
    · exact h.2 y (hm y hy)
theorem reverse_at {R : Ending → World → Prop} {B : Nat} (g n cap k c : Nat) (xs : List Int) (w : World) (h : OwnI w B (some ⟨g, 0, none⟩) n cap xs) (hn : n ≤ 1000000) (hk : k < n) (H : ∀ w', Grew (some ⟨g, 0, none⟩) w w' → OwnI w' B (some ⟨g, 0, none⟩) n cap (xs.take k ++ (xs.drop k).reverse) → R (.returned (.tuple #[])) w') :
    Calls Try.prog 65 #[.slice (some ⟨g, k, none⟩) (n - k) c] w R := by
  have hl := h.length
  have hH : Holds (Value.int .i64) w g k (xs.drop k).toArray := by
    intro j hj
    have hj' : j < n - k := by simpa [hl] using hj
    obtain ⟨x, h1, h2, h3, _, _⟩ := h.at' (k := k + j) (by omega)
    refine ⟨?_, h2⟩
    rw [h1]
    have e := h3.o
    have : (xs.drop k)[j]? = some x := by rw [List.getElem?_drop]; exact e
    have hjl : j < (xs.drop k).length := by rw [List.length_drop]; omega
    rw [List.getElem?_eq_getElem hjl] at this
    simp only [getElem!_pos, List.size_toArray, hjl, List.getElem_toArray]
    rw [Option.some.inj this]
  have e := AnyG.slices_Reverse_int lay_rev g k c (xs.drop k) w hH (by rw [List.length_drop]; omega)
  change Calls Try.prog 65 _ _ _ at e
  rw [List.length_drop, hl] at e
  refine e.mono ?_
  rintro e w' ⟨rfl, q, rfl⟩
  exact H _ below_putAt (put_at h (by omega) (by rw [List.length_reverse, List.length_drop, hl]) fun y hy => List.mem_of_mem_drop (List.mem_reverse.1 hy))

theorem Grew.next {a : Option Addr} {w w1 w2 : World} (h : Grew a w w1) (k : Grew a w1 w2) : Grew a w w2 :=
  ⟨k.os.trans h.os, k.tape.trans h.tape, k.output.trans h.output, Nat.le_trans h.size k.size, fun j hj hne => (k.block j (Nat.lt_of_lt_of_le hj h.size) hne).trans (h.block j hj hne)⟩
theorem Grew.nextD {a : Option Addr} {w w1 w2 : World} (h : Grew a w w1) (k : Grew a w1.drew w2) : Grew a w w2 := h.next ⟨k.os, k.tape, k.output, k.size, k.block⟩
theorem get_at {a s : List Int} {u : Int} : (a ++ u :: s)[a.length]? = some u := by simp
theorem get_in {a s1 s2 : List Int} {u v : Int} : (a ++ u :: (s1 ++ v :: s2))[a.length + 1 + s1.length]? = some v := by
  rw [List.getElem?_append_right (by omega), show a.length + 1 + s1.length - a.length = s1.length + 1 by omega]; simp
theorem fall_get {a s : List Int} {u : Int} (hs : s.Pairwise (· > ·)) {i : Nat} {x y : Int} (hi : a.length < i) (hx : (a ++ u :: s)[i]? = some x) (hy : (a ++ u :: s)[i + 1]? = some y) : x > y := by
  rw [List.getElem?_append_right (by omega), show i - a.length = (i - a.length - 1) + 1 by omega, List.getElem?_cons_succ] at hx
  rw [List.getElem?_append_right (by omega), show i + 1 - a.length = (i - a.length - 1 + 1) + 1 by omega, List.getElem?_cons_succ] at hy
  obtain ⟨h1, rfl⟩ := List.getElem?_eq_some_iff.1 hx
  obtain ⟨h2, rfl⟩ := List.getElem?_eq_some_iff.1 hy
  exact List.pairwise_iff_getElem.1 hs _ _ h1 h2 (by omega)
theorem rest_get {a s1 s2 : List Int} {u v : Int} (h2 : ∀ z ∈ s2, z < u) {k : Nat} {x : Int} (hk : a.length + 1 + s1.length < k) (hx : (a ++ u :: (s1 ++ v :: s2))[k]? = some x) : x < u := by
  rw [List.getElem?_append_right (by omega), show k - a.length = (k - a.length - 1) + 1 by omega, List.getElem?_cons_succ, List.getElem?_append_right (by omega), show k - a.length - 1 - s1.length = (k - a.length - 1 - s1.length - 1) + 1 by omega, List.getElem?_cons_succ] at hx
  exact h2 x (List.mem_of_getElem? hx)
theorem first_get {a s1 s2 : List Int} {u v : Int} (hs : (s1 ++ v :: s2).Pairwise (· > ·)) (huv : u < v) {y : Int} (hy : (a ++ u :: (s1 ++ v :: s2))[a.length + 1]? = some y) : ¬ u > y := by
  rw [List.getElem?_append_right (by omega), show a.length + 1 - a.length = 0 + 1 by omega, List.getElem?_cons_succ] at hy
  cases s1 with
  | nil => simp at hy; omega
  | cons z t =>
    simp at hy
    subst hy
    have := (List.pairwise_cons.1 hs).1 v (by simp)
    omega
theorem swap_rev {a s1 s2 : List Int} {u v : Int} : let x := ((a ++ u :: (s1 ++ v :: s2)).set a.length v).set (a.length + 1 + s1.length) u
    x.take (a.length + 1) ++ (x.drop (a.length + 1)).reverse = a ++ v :: (s1 ++ u :: s2).reverse := by
  have e1 : (a ++ u :: (s1 ++ v :: s2)).set a.length v = a ++ v :: (s1 ++ v :: s2) := by simp
  have e2 : (a ++ v :: (s1 ++ v :: s2)).set (a.length + 1 + s1.length) u = a ++ v :: (s1 ++ u :: s2) := by
    rw [List.set_append, if_neg (by omega), show a.length + 1 + s1.length - a.length = s1.length + 1 by omega]; simp
  simp only [e1, e2]
  rw [show a ++ v :: (s1 ++ u :: s2) = (a ++ [v]) ++ (s1 ++ u :: s2) by simp, List.take_left' (by simp), List.drop_left' (by simp)]
  simp

set_option maxHeartbeats 2000000 in
set_option maxRecDepth 100000 in
theorem nextPerm_c {R : Ending → World → Prop} {B : Nat} (g n cap : Nat) (a s1 s2 : List Int) (u v : Int) (w : World) (h : OwnI w B (some ⟨g, 0, none⟩) n cap (a ++ u :: (s1 ++ v :: s2))) (hn : n ≤ 7) (hs : Hd ((s1 ++ v :: s2).Pairwise (· > ·))) (huv : Hd (u < v)) (h2 : Hd (∀ z ∈ s2, z < u))
    (H : ∀ w', Grew (some ⟨g, 0, none⟩) w w' → OwnI w' B (some ⟨g, 0, none⟩) n cap (a ++ v :: (s1 ++ u :: s2).reverse) → R (.returned (.bool true)) w') :
    Calls Try.prog 42 #[.slice (some ⟨g, 0, none⟩) n cap] w R := by
  have H' := Hd.i H; clear H
  obtain ⟨la, hla⟩ : ∃ la, la = a.length := ⟨_, rfl⟩
  obtain ⟨lk, hlk⟩ : ∃ lk, lk = a.length + 1 + s1.length := ⟨_, rfl⟩
  have hln := h.length
  have hlen : la < lk ∧ lk < n := by rw [hla, hlk]; simp at hln; omega
  obtain ⟨X, hX⟩ : ∃ X, X = a ++ u :: (s1 ++ v :: s2) := ⟨_, rfl⟩
  rw [← hX] at h
  have g1 := Hd.i (show X[la]? = some u by rw [hX, hla]; exact get_at)
  have g2 := Hd.i (show X[lk]? = some v by rw [hX, hlk]; exact get_in)
  have g3 : Hd (∀ (i : Nat) (x y : Int), la < i → X[i]? = some x → X[i + 1]? = some y → x > y) := fun i x y hi hx hy => by rw [hX] at hx hy; exact fall_get hs.o (by omega) hx hy
  have g4 : Hd (∀ (k : Nat) (x : Int), lk < k → X[k]? = some x → x < u) := fun k x hk hx => by rw [hX] at hx; exact rest_get h2.o (by omega) hx
  have g5 : Hd (∀ y : Int, X[la + 1]? = some y → ¬ u > y) := fun y hy => by rw [hX, hla] at hy; exact first_get hs.o huv.o hy
  have g6 : Hd (((X.set la v).set lk u).take (la + 1) ++ (((X.set la v).set lk u).drop (la + 1)).reverse = a ++ v :: (s1 ++ u :: s2).reverse) := by rw [hX, hla, hlk]; exact swap_rev
  obtain ⟨hlen1, hlen2⟩ := hlen
  have hcap := h.cap
  replace hla := Hd.i hla; replace hlk := Hd.i hlk; replace hX := Hd.i hX
  clear hln
  go_enter Try.func42, Try.ntmps42
  go_wp2
  go_loopw [3] (fun iv wr => ∃ i : Nat, la ≤ i ∧ i + 2 ≤ n ∧ iv = .int .i64 i ∧ Drew w wr) (fun iv _ => (intOf iv).toNat)
  case atStart => exact ⟨n - 2, by omega, by omega, by go_num, Drew.refl _⟩
  case round =>
    obtain ⟨i, hi1, hi2, rfl, hd⟩ := hrel
    have ho := hd.ownI h
    obtain ⟨x, hc1, hf1, hx, _, _⟩ := ho.at' (k := i) (by omega)
    obtain ⟨y, hc2, hf2, hy, _, _⟩ := ho.at' (k := i + 1) (by omega)
    by_cases hlt : la < i
    · have hxy := g3.o i x y hlt hx.o hy.o
      have ht : decide (x > y) = true := decide_eq_true hxy
      go_wp2
      go_quiet (fail)
      go_wp2
      go_roundw
      case rel => exact ⟨i - 1, by omega, by omega, by go_num, hd.step nq⟩
      case measure => simp [intOf]; omega
    · obtain rfl : i = la := by omega
      have hxu : x = u := Option.some.inj (hx.o.symm.trans g1.o)
      subst hxu
      have hxy := g5.o y hy.o
      have ht : decide (x > y) = false := decide_eq_false (by omega)
      go_wp2
      go_quiet (fail)
      go_wp2
      obtain ⟨w1, hw1⟩ : ∃ w1, w1 = wr.drewN nq := ⟨_, rfl⟩
      rw [← hw1]
      have hd1 : Drew w w1 := by rw [hw1]; exact hd.step nq
      clear hw1
      go_loopw [4] (fun kv wr' => ∃ k : Nat, lk ≤ k ∧ k + 1 ≤ n ∧ kv = .int .i64 k ∧ Drew w wr') (fun kv _ => (intOf kv).toNat)
      case atStart => exact ⟨n - 1, by omega, by omega, by go_num, hd1⟩
      case round =>
        obtain ⟨k, hk1, hk2, rfl, hd2⟩ := hrel
        have ho2 := hd2.ownI h
        obtain ⟨x', hc3, hf3, hx', hx3, hx4⟩ := ho2.at' (k := i) (by omega)
        have e : x' = x := Option.some.inj (hx'.o.symm.trans g1.o)
        subst e
        obtain ⟨z, hc4, hf4, hz, hz3, hz4⟩ := ho2.at' (k := k) (by omega)
        by_cases hlt2 : lk < k
        · have hzu := g4.o k z hlt2 hz.o
          go_wp2
          go_quiet (fail)
          go_wp2
          go_roundw
          case rel => exact ⟨k - 1, by omega, by omega, by go_num, hd2.step nq⟩
          case measure => simp [intOf]; omega
        · obtain rfl : k = lk := by omega
          have e : z = v := Option.some.inj (hz.o.symm.trans g2.o)
          subst e
          have hzu : ¬ z < x' := by have := huv.o; omega
          go_wp2
          go_quiet (fail)
          obtain ⟨w2, hw2⟩ : ∃ w2, w2 = wr.drewN nq := ⟨_, rfl⟩
          rw [← hw2]
          have hd3 : Drew w w2 := by rw [hw2]; exact hd2.step nq
          clear hw2 hc1 hc2 hc3 hc4 hf1 hf2 hf3 hf4 ho ho2
          have ho3 := hd3.ownI h
          obtain ⟨x2, hc3, hf3, hx2, _, _⟩ := ho3.at' (k := i) (by omega)
          have e : x2 = x' := Option.some.inj (hx2.o.symm.trans g1.o)
          subst e
          obtain ⟨z2, hc4, hf4, hz2, _, _⟩ := ho3.at' (k := k) (by omega)
          have e : z2 = z := Option.some.inj (hz2.o.symm.trans g2.o)
          subst e
          have ho4 := (ho3.put (k := i) (x := z2) hz3 hz4).put (k := k) (x := x2) hx3 hx4
          have hg4 : Grew (some ⟨g, 0, none⟩) w ((w2.setCell ⟨g, i, none⟩ (.int .i64 z2)).setCell ⟨g, k, none⟩ (.int .i64 x2)) := (((Grew.refl (some ⟨g, 0, none⟩) w).then_drew hd3).then_store i _).then_store k _
          replace hg4 := Hd.i hg4
          go_wp2
          go_region
          go_wp2_with (first | (go_at_call 65; go_loud (refine reverse_at g n cap (i + 1) _ _ _ ho4 (by omega) (by omega) ?_; intro w5 hg5 ho5)))
          rw [g6.o] at ho5
          exact H'.o _ (hg4.o.nextD hg5) ho5
end Go.Proofs.Ytkojonjcikgikaa
