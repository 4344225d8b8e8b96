/- The dice of the laws: whatever they show, it is in range. -/
import Derived.Test.YtkojonjcikgikaaDoorPermTop
namespace Go.Proofs.YtkojonjcikgikaaDoor
open Go.RowKit

/-- The slice (a, n) reads as bytes. -/
def Bytes (w : World) (a : Option Addr) (n : Nat) : Prop := ∃ zs : List Int, Vals w a n (zs.map (Value.int .u8)) ∧ ∀ z ∈ zs, 0 ≤ z ∧ z ≤ 255
theorem Bytes.up {w w' : World} {a : Option Addr} {n : Nat} (h : Bytes w a n) (hb : Below w.heap.size w w') : Bytes w' a n := by
  obtain ⟨zs, h1, h2⟩ := h
  exact ⟨zs, h1.up hb, h2⟩
theorem Bytes.le {w : World} {a : Option Addr} {n : Nat} (h : Bytes w a n) : n ≤ 9223372036854775807 := by obtain ⟨_, h, _⟩ := h; exact h.le
theorem Bytes.at {w : World} {a : Option Addr} {n k : Nat} (h : Bytes w a n) (hk : k < n) : ∃ b off z, a = some ⟨b, off, none⟩ ∧ b < w.heap.size ∧ w.cell? ⟨b, off + k, none⟩ = some (.int .u8 z) ∧ 0 ≤ z ∧ z ≤ 255 := by
  obtain ⟨zs, h1, h2⟩ := h
  obtain ⟨b, off, v, e1, e2, e3, e4⟩ := h1.at hk
  have e4 := e4.o
  rw [List.getElem?_map, Option.map_eq_some_iff] at e4
  obtain ⟨z, hz, rfl⟩ := e4
  have := h2 z (List.mem_of_getElem? hz)
  exact ⟨b, off, z, e1, e2, e3, this.1, this.2⟩

theorem and_mask_range (y : Int) : 0 ≤ bits .and .u64 y 16777215 ∧ bits .and .u64 y 16777215 ≤ 16777215 := by
  unfold bits
  show 0 ≤ IntKind.u64.wrap ((BitVec.ofInt 64 y &&& BitVec.ofInt 64 16777215).toNat : Int) ∧ IntKind.u64.wrap ((BitVec.ofInt 64 y &&& BitVec.ofInt 64 16777215).toNat : Int) ≤ 16777215
  have h : (BitVec.ofInt 64 y &&& BitVec.ofInt 64 16777215).toNat ≤ 16777215 := by
    rw [BitVec.toNat_and]
    exact Nat.le_trans Nat.and_le_right (by decide)
  have e : ∀ m : Nat, m ≤ 16777215 → IntKind.u64.wrap (m : Int) = m := by
    intro m hm
    simp [IntKind.wrap, IntKind.bits, IntKind.signed]
    omega
  rw [e _ h]
  omega

theorem dice_cell {w : World} {g : Nat} {c0 c1 c2 : Value} {T : Nat} (h : w.heap[g]? = some (.cells #[c0, c1, c2] T)) :
    w.cell? ⟨g, 0, none⟩ = some c0 ∧ w.cell? ⟨g, 1, none⟩ = some c1 ∧ w.cell? ⟨g, 2, none⟩ = some c2 ∧ w.frozen? ⟨g, 1, none⟩ = false ∧ w.frozen? ⟨g, 2, none⟩ = false := by
  simp [World.cell?, World.frozen?, h]

theorem dice_store1 {w : World} {g : Nat} {c0 c1 c2 u : Value} {T : Nat} (h : w.heap[g]? = some (.cells #[c0, c1, c2] T)) : (w.setCell ⟨g, 1, none⟩ u).heap[g]? = some (.cells #[c0, u, c2] T) := by
  rw [heap_setCell_same w g 1 _ T u h]; rfl
theorem dice_store2 {w : World} {g : Nat} {c0 c1 c2 u : Value} {T : Nat} (h : w.heap[g]? = some (.cells #[c0, c1, c2] T)) : (w.setCell ⟨g, 2, none⟩ u).heap[g]? = some (.cells #[c0, c1, u] T) := by
  rw [heap_setCell_same w g 2 _ T u h]; rfl
theorem Bytes.below {w w' : World} {a : Option Addr} {n B : Nat} (h : Bytes w a n) (hb : Below B w w') (ha : ABelow a B ∨ n = 0) : Bytes w' a n := by
  obtain ⟨zs, h1, h2⟩ := h
  rcases ha with ha | rfl
  · exact ⟨zs, h1.of_heap fun b off e => hb.block b (ha b off none e), h2⟩
  · exact ⟨zs, ⟨h1.1, h1.2.1, .inl rfl⟩, h2⟩
theorem Wrote.drewN {a : Option Addr} {w w' : World} (h : Wrote a w w') (n : Nat) : Wrote a w (w'.drewN n) := ⟨h.os, h.tape, h.output, h.size, h.block⟩

theorem Grew.trans_below {a : Option Addr} {w w1 w2 : World} (h : Grew a w w1) (k : Below w.heap.size w1 w2) : Grew a w w2 :=
  ⟨k.os.trans h.os, k.tape.trans h.tape, k.output.trans h.output, Nat.le_trans h.size k.size, fun i hi hne => (k.block i hi).trans (h.block i hi hne)⟩
theorem Grew.trans_wrote {a : Option Addr} {w w1 w2 : World} (h : Grew a w w1) (k : Wrote a w1 w2) : Grew a w w2 :=
  ⟨k.os.trans h.os, k.tape.trans h.tape, k.output.trans h.output, by rw [k.size]; exact h.size, fun i hi hne => (k.block i hne).trans (h.block i hi hne)⟩

theorem isPerm_idl {n : Nat} (h1 : 1 ≤ n) (h2 : n ≤ 20) : IsPerm (idl n) := by
  refine ⟨by rw [idl_length]; exact h1, by rw [idl_length]; exact h2, fun x hx => ?_, idl_nodup n⟩
  rw [idl_length]
  exact mem_idl.1 hx
theorem isPerm_swap {xs : List Int} {i k : Nat} {x y : Int} (h : IsPerm xs) (hi : xs[i]? = some x) (hk : xs[k]? = some y) : IsPerm ((xs.set i y).set k x) := by
  have hl : ((xs.set i y).set k x).length = xs.length := by simp
  have hli := (List.getElem?_eq_some_iff.1 hi).1
  have hlk := (List.getElem?_eq_some_iff.1 hk).1
  have hr : ∀ z ∈ (xs.set i y).set k x, 0 ≤ z ∧ z < (xs.length : Int) := by
    intro z hz
    rcases List.mem_or_eq_of_mem_set hz with hz | rfl
    · rcases List.mem_or_eq_of_mem_set hz with hz | rfl
      · exact h.2.2.1 z hz
      · exact h.lt hk
    · exact h.lt hi
  refine ⟨by rw [hl]; exact h.1, by rw [hl]; exact h.2.1, by rw [hl]; exact hr, (nodup_iff_surj hl hr).2 fun z h0 h1 => ?_⟩
  obtain ⟨j, hj⟩ := h.surj h0 h1
  by_cases e1 : j = k
  · subst e1
    rw [hk] at hj
    cases hj
    by_cases e2 : i = j
    · subst e2
      rw [hi] at hk
      cases hk
      exact List.mem_of_getElem? (i := i) (by rw [List.getElem?_set_self (by simpa using hli)])
    · exact List.mem_of_getElem? (i := i) (by rw [List.getElem?_set_ne (by omega), List.getElem?_set_self hli])
  · by_cases e2 : j = i
    · subst e2
      rw [hi] at hj
      cases hj
      exact List.mem_of_getElem? (i := k) (by rw [List.getElem?_set_self (by simpa using hlk)])
    · exact List.mem_of_getElem? (i := j) (by rw [List.getElem?_set_ne (by omega), List.getElem?_set_ne (by omega)]; exact hj)

end Go.Proofs.YtkojonjcikgikaaDoor
