/- The dice of the laws: whatever they show, it is in range. -/
import Derived.Test.YtkojonjcikgikaaPermTop
namespace Go.Proofs.Ytkojonjcikgikaa
open Go.RowKit

/-- The slice (a, n) reads as bytes. -/
def Bytes (w : World) (a : Option Addr) (n : Nat) : Prop := ∃ zs : List Int, Vals w a n (zs.map (Value.int .u8)) ∧ ∀ z ∈ zs, 0 ≤ z ∧ z ≤ 255
theorem Bytes.up {w w' : World} {a : Option Addr} {n : Nat} (h : Bytes w a n) (hb : Below w.heap.size w w') : Bytes w' a n := by
  obtain ⟨zs, h1, h2⟩ := h
  exact ⟨zs, h1.up hb, h2⟩
theorem Bytes.le {w : World} {a : Option Addr} {n : Nat} (h : Bytes w a n) : n ≤ 9223372036854775807 := by obtain ⟨_, h, _⟩ := h; exact h.le
theorem Bytes.at {w : World} {a : Option Addr} {n k : Nat} (h : Bytes w a n) (hk : k < n) : ∃ b off z, a = some ⟨b, off, none⟩ ∧ b < w.heap.size ∧ w.cell? ⟨b, off + k, none⟩ = some (.int .u8 z) ∧ 0 ≤ z ∧ z ≤ 255 := by
  obtain ⟨zs, h1, h2⟩ := h
  obtain ⟨b, off, v, e1, e2, e3, e4⟩ := h1.at hk
  have e4 := e4.o
  rw [List.getElem?_map, Option.map_eq_some_iff] at e4
  obtain ⟨z, hz, rfl⟩ := e4
  have := h2 z (List.mem_of_getElem? hz)
  exact ⟨b, off, z, e1, e2, e3, this.1, this.2⟩

theorem big_c {R : Ending → World → Prop} (a : Option Addr) (n cap : Nat) (w : World) (H : R (.returned (.bool (decide (4096 < n)))) w) : Calls Try.prog 21 #[.slice a n cap] w R := by
  have H' := Hd.i H; clear H
  by_cases h : 4096 < n
  · go_enter Try.func21, Try.ntmps21
    go_wp2
    exact retB H' (by simp; omega)
  · go_enter Try.func21, Try.ntmps21
    go_wp2
    exact retB H' (by simp; omega)

theorem and_mask_range (y : Int) : 0 ≤ bits .and .u64 y 16777215 ∧ bits .and .u64 y 16777215 ≤ 16777215 := by
  unfold bits
  show 0 ≤ IntKind.u64.wrap ((BitVec.ofInt 64 y &&& BitVec.ofInt 64 16777215).toNat : Int) ∧ IntKind.u64.wrap ((BitVec.ofInt 64 y &&& BitVec.ofInt 64 16777215).toNat : Int) ≤ 16777215
  have h : (BitVec.ofInt 64 y &&& BitVec.ofInt 64 16777215).toNat ≤ 16777215 := by
    rw [BitVec.toNat_and]
    exact Nat.le_trans Nat.and_le_right (by decide)
  have e : ∀ m : Nat, m ≤ 16777215 → IntKind.u64.wrap (m : Int) = m := by
    intro m hm
    simp [IntKind.wrap, IntKind.bits, IntKind.signed]
    omega
  rw [e _ h]
  omega

/-- The dice lie in the block g, made from block B on. -/
def IsDice (w : World) (B g : Nat) : Prop :=
  ∃ (a : Option Addr) (n cap i : Nat) (h : Int), w.heap[g]? = some (.cells #[.slice a n cap, .int .i64 i, .int .u64 h] 48) ∧ B ≤ g ∧ i ≤ n ∧ Bytes w a n ∧ (ABelow a g ∨ n = 0)

theorem dice_cell {w : World} {g : Nat} {c0 c1 c2 : Value} {T : Nat} (h : w.heap[g]? = some (.cells #[c0, c1, c2] T)) :
    w.cell? ⟨g, 0, none⟩ = some c0 ∧ w.cell? ⟨g, 1, none⟩ = some c1 ∧ w.cell? ⟨g, 2, none⟩ = some c2 ∧ w.frozen? ⟨g, 1, none⟩ = false ∧ w.frozen? ⟨g, 2, none⟩ = false := by
  simp [World.cell?, World.frozen?, h]

theorem dice_store1 {w : World} {g : Nat} {c0 c1 c2 u : Value} {T : Nat} (h : w.heap[g]? = some (.cells #[c0, c1, c2] T)) : (w.setCell ⟨g, 1, none⟩ u).heap[g]? = some (.cells #[c0, u, c2] T) := by
  rw [heap_setCell_same w g 1 _ T u h]; rfl
theorem dice_store2 {w : World} {g : Nat} {c0 c1 c2 u : Value} {T : Nat} (h : w.heap[g]? = some (.cells #[c0, c1, c2] T)) : (w.setCell ⟨g, 2, none⟩ u).heap[g]? = some (.cells #[c0, c1, u] T) := by
  rw [heap_setCell_same w g 2 _ T u h]; rfl
theorem Bytes.below {w w' : World} {a : Option Addr} {n B : Nat} (h : Bytes w a n) (hb : Below B w w') (ha : ABelow a B ∨ n = 0) : Bytes w' a n := by
  obtain ⟨zs, h1, h2⟩ := h
  rcases ha with ha | rfl
  · exact ⟨zs, h1.of_heap fun b off e => hb.block b (ha b off none e), h2⟩
  · exact ⟨zs, ⟨h1.1, h1.2.1, .inl rfl⟩, h2⟩
theorem Wrote.drewN {a : Option Addr} {w w' : World} (h : Wrote a w w') (n : Nat) : Wrote a w (w'.drewN n) := ⟨h.os, h.tape, h.output, h.size, h.block⟩

set_option maxHeartbeats 1000000 in
theorem below_c {R : Ending → World → Prop} (B g : Nat) (n : Int) (w : World) (hd : IsDice w B g) (hn : 0 < n ∧ n ≤ 1000000)
    (H : ∀ v w', 0 ≤ v → v < n → Wrote (some ⟨g, 0, none⟩) w w' → IsDice w' B g → R (.returned (.int .i64 v)) w') :
    Calls Try.prog 23 #[.pointer (some ⟨g, 0, none⟩), .int .i64 n] w R := by
  have H' := Hd.i H; clear H
  obtain ⟨a, len, cap, i, h, hg, hB, hi, hby, hab⟩ := hd
  replace hg := Hd.i hg
  have hlen := hby.le
  obtain ⟨hc0, hc1, hc2, hf1, hf2⟩ := dice_cell hg.o
  go_enter Try.func23, Try.ntmps23
  go_wp2
  generalize IntKind.u64.wrap (IntKind.u64.wrap (h * 6364136223846793005) + 1442695040888963407) = q
  obtain ⟨hx0, hx1⟩ := and_mask_range (q / 8589934592)
  generalize bits BinOp.and IntKind.u64 (q / 8589934592) 16777215 = x at hx0 hx1 ⊢
  rw [IntWalk.wrap64_in x (by omega)]
  have hw1 := (Wrote.refl (some ⟨g, 0, none⟩) w).store rfl 2 (.int .u64 q)
  have hg1 := Hd.i (dice_store2 (u := .int .u64 q) hg.o)
  have hb1 := hby.below (hw1.below (B := g) (fun b off s e => by cases e; exact Nat.le_refl _)) hab
  generalize w.setCell ⟨g, 2, none⟩ (.int .u64 q) = w1 at hw1 hg1 hb1 ⊢
  clear hc0 hc1 hc2 hf1 hf2 hg hby
  obtain ⟨hc0, hc1, hc2, hf1, hf2⟩ := dice_cell hg1.o
  have hmod : ∀ y : Int, 0 ≤ y → 0 ≤ y % n ∧ y % n < n := fun y _ => ⟨Int.emod_nonneg _ (by omega), Int.emod_lt_of_pos _ hn.1⟩
  replace hmod := Hd.i hmod
  by_cases hlt : i < len
  · obtain ⟨b, off, z, rfl, hb, hcz, hz0, hz1⟩ := hb1.at hlt
    go_quiet (fail)
    go_wp2
    have hw2 := IntWalk.i64_in (x + z) (by omega)
    go_quiet (fail)
    clear hw2
    go_wp2
    refine H'.o _ _ (hmod.o _ (by omega)).1 (hmod.o _ (by omega)).2 ((hw1.drewN _).store rfl 1 _) ?_
    refine ⟨_, len, cap, i + 1, q, ?_, hB, by omega, hb1.below ((((Wrote.refl (some ⟨g, 0, none⟩) w1).drewN _).store rfl 1 _).below (B := g) (fun b off s e => by cases e; exact Nat.le_refl _)) hab, hab⟩
    rw [show ((i + 1 : Nat) : Int) = (i : Int) + 1 by omega]
    exact dice_store1 (w := w1.drewN _) hg1.o
  · go_quiet (fail)
    go_wp2
    refine H'.o _ _ (hmod.o _ hx0).1 (hmod.o _ hx0).2 (hw1.drewN nq) ?_
    exact ⟨a, len, cap, i, q, hg1.o, hB, hi, hb1, hab⟩

set_option maxHeartbeats 1000000 in
theorem roll_c {R : Ending → World → Prop} (a : Option Addr) (n cap : Nat) (seed : Int) (w : World) (hby : Bytes w a n) (hn : n ≤ 4096)
    (H : ∀ g w', Below w.heap.size w w' → IsDice w' w.heap.size g → R (.returned (.pointer (some ⟨g, 0, none⟩))) w') :
    Calls Try.prog 22 #[.slice a n cap, .int .u64 seed] w R := by
  have H' := Hd.i H; clear H
  have hab : ABelow a w.heap.size ∨ n = 0 := by
    by_cases h0 : n = 0
    · exact .inr h0
    · obtain ⟨b, off, z, rfl, hb, _⟩ := hby.at (k := 0) (by omega)
      exact .inl fun b' off' s e => by cases e; exact hb
  go_enter Try.func22, Try.ntmps22
  go_wp2
  go_loopw [6] (fun i wr => ∃ (k : Nat) (h : Int), k ≤ n ∧ i = .int .i64 k ∧ Below w.heap.size w wr ∧ Hd (w.heap.size < wr.heap.size) ∧ Hd (wr.heap[w.heap.size]? = some (.cells #[.slice a n cap, .int .i64 0, .int .u64 h] 48)))
    (fun i _ => n - (intOf i).toNat)
  case atStart => exact ⟨0, _, Nat.zero_le _, rfl, (Below.refl _ _).alloc (Nat.le_refl _) _, by simp [Hd], heap_alloc_new w _⟩
  case round =>
    obtain ⟨k, h, hk, rfl, hbel, hsz, hg⟩ := hrel
    by_cases hlt : k < n
    · obtain ⟨b, off, z, rfl, hb, hcz, hz0, hz1⟩ := hby.at hlt
      have hcz2 := (hbel.cell (p := ⟨b, off + k, none⟩) hb).trans hcz
      clear hcz
      obtain ⟨hc0, hc1, hc2, hf1, hf2⟩ := dice_cell hg.o
      go_wp2
      go_region
      go_wp2
      refine ⟨⟨k + 1, _, by omega, by go_num, (hbel.setCell (p := ⟨w.heap.size, 2, none⟩) (Nat.le_refl _) _).drew, ?_, dice_store2 (w := wr) hg.o⟩, by simp [intOf]; omega⟩
      show _ < (wr.setCell _ _).heap.size
      rw [size_store]; exact hsz.o
    · obtain rfl : k = n := by omega
      go_wp2
      refine H'.o _ _ hbel ⟨a, k, cap, 0, h, hg.o, Nat.le_refl _, Nat.zero_le _, hby.up hbel, hab⟩

theorem IsDice.lt {w : World} {B g : Nat} (h : IsDice w B g) : B ≤ g ∧ g < w.heap.size := by
  obtain ⟨a, n, cap, i, x, hg, hB, _⟩ := h
  exact ⟨hB, (Array.getElem?_eq_some_iff.1 hg).1⟩
theorem IsDice.keep {w w' : World} {B g : Nat} (h : IsDice w B g) (hb : ∀ k, k ≤ g → w'.heap[k]? = w.heap[k]?) : IsDice w' B g := by
  obtain ⟨a, n, cap, i, x, hg, hB, hi, ⟨zs, h1, h2⟩, hab⟩ := h
  refine ⟨a, n, cap, i, x, by rw [hb g (Nat.le_refl _)]; exact hg, hB, hi, ?_, hab⟩
  rcases hab with hab | rfl
  · exact ⟨zs, h1.of_heap fun b off e => hb b (Nat.le_of_lt (hab b off none e)), h2⟩
  · exact ⟨zs, ⟨h1.1, h1.2.1, .inl rfl⟩, h2⟩
theorem IsDice.below {w w' : World} {B C g : Nat} (h : IsDice w B g) (hb : Below C w w') (hg : g < C) : IsDice w' B g := h.keep fun k hk => hb.block k (by omega)
theorem IsDice.drewN {w : World} {B g : Nat} (h : IsDice w B g) (n : Nat) : IsDice (w.drewN n) B g := h
theorem Grew.trans_below {a : Option Addr} {w w1 w2 : World} (h : Grew a w w1) (k : Below w.heap.size w1 w2) : Grew a w w2 :=
  ⟨k.os.trans h.os, k.tape.trans h.tape, k.output.trans h.output, Nat.le_trans h.size k.size, fun i hi hne => (k.block i hi).trans (h.block i hi hne)⟩
theorem Grew.trans_wrote {a : Option Addr} {w w1 w2 : World} (h : Grew a w w1) (k : Wrote a w1 w2) : Grew a w w2 :=
  ⟨k.os.trans h.os, k.tape.trans h.tape, k.output.trans h.output, by rw [k.size]; exact h.size, fun i hi hne => (k.block i hne).trans (h.block i hi hne)⟩

theorem isPerm_idl {n : Nat} (h1 : 1 ≤ n) (h2 : n ≤ 20) : IsPerm (idl n) := by
  refine ⟨by rw [idl_length]; exact h1, by rw [idl_length]; exact h2, fun x hx => ?_, idl_nodup n⟩
  rw [idl_length]
  exact mem_idl.1 hx
theorem isPerm_swap {xs : List Int} {i k : Nat} {x y : Int} (h : IsPerm xs) (hi : xs[i]? = some x) (hk : xs[k]? = some y) : IsPerm ((xs.set i y).set k x) := by
  have hl : ((xs.set i y).set k x).length = xs.length := by simp
  have hli := (List.getElem?_eq_some_iff.1 hi).1
  have hlk := (List.getElem?_eq_some_iff.1 hk).1
  have hr : ∀ z ∈ (xs.set i y).set k x, 0 ≤ z ∧ z < (xs.length : Int) := by
    intro z hz
    rcases List.mem_or_eq_of_mem_set hz with hz | rfl
    · rcases List.mem_or_eq_of_mem_set hz with hz | rfl
      · exact h.2.2.1 z hz
      · exact h.lt hk
    · exact h.lt hi
  refine ⟨by rw [hl]; exact h.1, by rw [hl]; exact h.2.1, by rw [hl]; exact hr, (nodup_iff_surj hl hr).2 fun z h0 h1 => ?_⟩
  obtain ⟨j, hj⟩ := h.surj h0 h1
  by_cases e1 : j = k
  · subst e1
    rw [hk] at hj
    cases hj
    by_cases e2 : i = j
    · subst e2
      rw [hi] at hk
      cases hk
      exact List.mem_of_getElem? (i := i) (by rw [List.getElem?_set_self (by simpa using hli)])
    · exact List.mem_of_getElem? (i := i) (by rw [List.getElem?_set_ne (by omega), List.getElem?_set_self hli])
  · by_cases e2 : j = i
    · subst e2
      rw [hi] at hj
      cases hj
      exact List.mem_of_getElem? (i := k) (by rw [List.getElem?_set_self (by simpa using hlk)])
    · exact List.mem_of_getElem? (i := j) (by rw [List.getElem?_set_ne (by omega), List.getElem?_set_ne (by omega)]; exact hj)

set_option maxHeartbeats 1000000 in
theorem swapPermutation_c {R : Ending → World → Prop} (B g n : Nat) (w : World) (hd : IsDice w B g) (h1 : 1 ≤ n) (hn : n ≤ 20)
    (H : ∀ c capc xs w', IsPerm xs → Grew (some ⟨g, 0, none⟩) w w' → IsDice w' B g → OwnI w' w.heap.size c n capc xs → R (.returned (.slice c n capc)) w') :
    Calls Try.prog 24 #[.pointer (some ⟨g, 0, none⟩), .int .i64 n] w R := by
  have H' := Hd.i H; clear H
  have hgl := hd.lt
  go_enter Try.func24, Try.ntmps24
  go_wp2
  go_loopw [5, 6] (fun v i wr => ∃ (k : Nat) (a : Option Addr) (n' cap' : Nat), k ≤ n ∧ i = .int .i64 k ∧ v = .slice a n' cap' ∧ OwnI wr w.heap.size a n' cap' (idl k) ∧ Below w.heap.size w wr)
    (fun _ i _ => n - (intOf i).toNat)
  case atStart => exact ⟨0, _, 0, 0, Nat.zero_le _, rfl, rfl, OwnI.emptyLit w (Nat.le_refl _), (Below.refl _ _).alloc (Nat.le_refl _) _⟩
  case round =>
    obtain ⟨k, a, n', cap', hk, rfl, rfl, ho, hb⟩ := hrel
    by_cases hlt : k < n
    · have hl := Hd.i ho.length
      have hs := hb.size
      have c1 : (n' + 1) * 8 ≤ 140737488355328 := by have := hl.o; rw [idl_length] at this; omega
      have c2 : n' + 1 ≤ 281474976710656 := by omega
      go_wp2_with (at_builtin; refine appendL_c rfl _ _ _ rfl w.heap.size 2 (.int .i64 0) 8 Try.underlying22 infoInt rfl _ _ _ _ rfl ho.1 [.int .i64 k] 1 rfl rfl oneInt c1 c2 hs ?_; intro a2 n2 cap2 w2 hn2 ho2 hg2 ha2)
      refine ⟨⟨k + 1, a2, n2, cap2, by omega, by go_num, rfl, ?_, ho.grewBelow hg2 hb hs⟩, by simp [intOf]; omega⟩
      rw [idl_succ]
      exact OwnI.snoc ho2 ho.2 (by omega) (by omega)
    · obtain rfl : k = n := by omega
      have hl := ho.length
      rw [idl_length] at hl
      subst hl
      have hgr := (Grew.refl (some ⟨g, 0, none⟩) w).trans_below hb
      have hd1 := hd.below hb hgl.2
      have hperm := Hd.i (isPerm_idl h1 hn)
      go_wp2
      go_loopw [7] (fun i wr => ∃ (j' : Nat) (xs : List Int), j' < k ∧ i = .int .i64 j' ∧ Hd (IsPerm xs) ∧ Grew (some ⟨g, 0, none⟩) w wr ∧ IsDice wr B g ∧ OwnI wr w.heap.size a k cap' xs)
        (fun i _ => (intOf i).toNat)
      case atStart => exact ⟨k - 1, idl k, by omega, by rw [show ((k - 1 : Nat) : Int) = (k : Int) - 1 by omega], hperm, hgr, hd1, ho⟩
      case round =>
        obtain ⟨j', xs, hj', rfl, hp, hgw, hdw, how⟩ := hrel
        by_cases h0 : 0 < j'
        · obtain ⟨g0, _, rfl, hg0, _, _, _, _⟩ := how.look (k := j') (by omega)
          go_wp2_with fail
          refine below_c B g _ _ hdw (by omega) ?_
          intro v w2 hv0 hv1 hww hdw2
          have hap : ∀ b off s off' s', (some (⟨g0, 0, none⟩ : Addr)) = some ⟨b, off, s⟩ → (some (⟨g, 0, none⟩ : Addr)) ≠ some ⟨b, off', s'⟩ := by
            intro b off s off' s' e e'; cases e; cases e'; omega
          have how2 := how.wrote hww hap
          replace hap := Hd.i hap
          obtain ⟨_, x, e1, _, _, hcx, hfx, hx⟩ := how2.look (k := j') (by omega)
          cases e1
          obtain ⟨_, y, e2, _, hlt2, hcy, hfy, hy⟩ := how2.look (k := v.toNat) (by omega)
          cases e2
          have how3 := how2.1.store (k := j') (.int .i64 y)
          obtain ⟨z, hcz, hfz, _⟩ := how3.at' (k := v.toNat) (by omega)
          have how4 := how3.store (k := v.toNat) (.int .i64 x)
          have hgr2 := hgw.trans_wrote hww
          go_wp2
          refine ⟨⟨j' - 1, (xs.set j' y).set v.toNat x, by omega, by rw [show ((j' - 1 : Nat) : Int) = (j' : Int) - 1 by omega], isPerm_swap hp.o hx.o hy.o, ?_, ?_, ?_⟩, by simp [intOf]; omega⟩
          · exact hgr2.trans_below (((Below.refl _ _).setCell (p := ⟨g0, j', none⟩) hg0 _).setCell (p := ⟨g0, v.toNat, none⟩) hg0 _)
          · exact hdw2.below (((Below.refl w.heap.size w2).setCell (p := ⟨g0, j', none⟩) hg0 _).setCell (p := ⟨g0, v.toNat, none⟩) hg0 _) hgl.2
          · refine ⟨by rw [List.map_set, List.map_set]; exact how4, fun q hq => ?_⟩
            have := (isPerm_swap hp.o hx.o hy.o).2.2.1 q hq
            have := (isPerm_swap hp.o hx.o hy.o).2.1
            omega
        · obtain rfl : j' = 0 := by omega
          go_wp2
          exact H'.o _ _ _ _ hp.o hgw hdw how

end Go.Proofs.Ytkojonjcikgikaa
