/- Words for the walks of this seat: a slice that reads as a list of values, a row that the call owns, facts that are hidden from the walk. No program in sight. -/
import Derived.WalkKit
import Derived.WalkLawsBesides
import Derived.WalkSpells
import Derived.BigQuiet
import Derived.Deep.QuietTactic
namespace Go.Proofs.Ytpijnjhheikmcaa
open Go.RowKit

/-- A fact that the walk does not see. -/
def Hd (p : Prop) : Prop := p
theorem Hd.i {p : Prop} (h : p) : Hd p := h
theorem Hd.o {p : Prop} (h : Hd p) : p := h

/-- The slice (a, n) reads as the list vs. -/
def Vals (w : World) (a : Option Addr) (n : Nat) (vs : List Value) : Prop :=
  vs.length = n ∧ n ≤ 9223372036854775807 ∧ (n = 0 ∨ ∃ b off, a = some ⟨b, off, none⟩ ∧ ∀ j v, vs[j]? = some v → w.cell? ⟨b, off + j, none⟩ = some v)

/-- The slice (a, n) of the capacity cap is a row of the call's own, from block B on; it reads as vs. -/
def Own (w : World) (B : Nat) (E : TypeId) (a : Option Addr) (n cap : Nat) (vs : List Value) : Prop :=
  vs.length = n ∧ n ≤ 281474976710656 ∧ w.ownsRow B E 1 (.slice a n cap) n vs

theorem maxLen_eq : maxLen = 9223372036854775807 := rfl

theorem Vals.length {w : World} {a : Option Addr} {n : Nat} {vs : List Value} (h : Vals w a n vs) : vs.length = n := h.1
theorem Vals.le {w : World} {a : Option Addr} {n : Nat} {vs : List Value} (h : Vals w a n vs) : n ≤ 9223372036854775807 := h.2.1

theorem Vals.nil {w : World} (a : Option Addr) : Vals w a 0 [] := ⟨rfl, by omega, .inl rfl⟩

theorem Vals.at {w : World} {a : Option Addr} {n k : Nat} {vs : List Value} (h : Vals w a n vs) (hk : k < n) :
    ∃ b off v, a = some ⟨b, off, none⟩ ∧ b < w.heap.size ∧ w.cell? ⟨b, off + k, none⟩ = some v ∧ Hd (vs[k]? = some v) := by
  obtain ⟨h1, h2, h3⟩ := h
  rcases h3 with h3 | ⟨b, off, ha, hc⟩
  · omega
  · have hv : vs[k]? = some vs[k] := List.getElem?_eq_getElem (by omega)
    have hcell := hc k _ hv
    exact ⟨b, off, vs[k], ha, World.block_lt_of_cell? w _ hcell, hcell, hv⟩

theorem Vals.of_heap {w w' : World} {a : Option Addr} {n : Nat} {vs : List Value} (h : Vals w a n vs)
    (hb : ∀ b off, a = some ⟨b, off, none⟩ → w'.heap[b]? = w.heap[b]?) : Vals w' a n vs := by
  obtain ⟨h1, h2, h3⟩ := h
  refine ⟨h1, h2, ?_⟩
  rcases h3 with h3 | ⟨b, off, ha, hc⟩
  · exact .inl h3
  · refine .inr ⟨b, off, ha, fun j v hv => ?_⟩
    rw [← hc j v hv]
    exact World.cell?_of_block (hb b off ha)

theorem Vals.lt {w : World} {a : Option Addr} {n : Nat} {vs : List Value} (h : Vals w a n vs) (hn : 0 < n) {b off : Nat} (ha : a = some ⟨b, off, none⟩) : b < w.heap.size := by
  obtain ⟨b', off', v, ha', hlt, _⟩ := h.at hn
  rw [ha] at ha'
  cases ha'
  exact hlt

theorem Vals.up {w w' : World} {a : Option Addr} {n : Nat} {vs : List Value} (h : Vals w a n vs) (hb : Below w.heap.size w w') : Vals w' a n vs := by
  by_cases hn : n = 0
  · exact ⟨h.1, h.2.1, .inl hn⟩
  · exact h.of_heap fun b off ha => hb.block b (h.lt (by omega) ha)

theorem Vals.drew {w : World} {a : Option Addr} {n : Nat} {vs : List Value} (h : Vals w a n vs) : Vals w.drew a n vs := h
theorem Vals.alloc {w : World} {a : Option Addr} {n : Nat} {vs : List Value} (h : Vals w a n vs) (o : Obj) : Vals (w.alloc o) a n vs :=
  h.up ((Below.refl _ _).alloc (Nat.le_refl _) o)

theorem Own.length {w : World} {B E : Nat} {a : Option Addr} {n cap : Nat} {vs : List Value} (h : Own w B E a n cap vs) : vs.length = n := h.1

theorem Own.lt {w : World} {B E : Nat} {a : Option Addr} {n cap : Nat} {vs : List Value} (h : Own w B E a n cap vs) {b off : Nat} {s : Option Nat} (ha : a = some ⟨b, off, s⟩) : B ≤ b ∧ b < w.heap.size :=
  h.2.2.lt b (by simp [Value.ownBlock, ha])

theorem Own.addr {w : World} {B E : Nat} {a : Option Addr} {n cap : Nat} {vs : List Value} (h : Own w B E a n cap vs) : (a = none ∧ n = 0 ∧ cap = 0) ∨ ∃ g, a = some ⟨g, 0, none⟩ ∧ B ≤ g ∧ g < w.heap.size ∧ n ≤ cap ∧ cap ≤ maxLen := by
  rcases h.2.2.2 with ⟨h1, h2⟩ | ⟨g, cap', cur, h1, h2, h3, h4, h5, _⟩
  · simp only [Value.slice.injEq] at h1
    exact .inl ⟨h1.1, h2, h1.2.2⟩
  · simp only [Value.slice.injEq, true_and] at h1
    obtain ⟨rfl, rfl⟩ := h1
    exact .inr ⟨g, rfl, h2, (Array.getElem?_eq_some_iff.1 h3).1, h4, h5⟩

theorem Own.le {w : World} {B E : Nat} {a : Option Addr} {n cap : Nat} {vs : List Value} (h : Own w B E a n cap vs) : n ≤ 9223372036854775807 := by
  have := h.2.1; omega
theorem Own.le48 {w : World} {B E : Nat} {a : Option Addr} {n cap : Nat} {vs : List Value} (h : Own w B E a n cap vs) : n ≤ 281474976710656 := h.2.1

theorem Own.vals {w : World} {B E : Nat} {a : Option Addr} {n cap : Nat} {vs : List Value} (h : Own w B E a n cap vs) : Vals w a n vs := by
  refine ⟨h.1, h.le, ?_⟩
  rcases h.addr with ⟨_, h0, _⟩ | ⟨g, rfl, _, _, h1, h2⟩
  · exact .inl h0
  · refine .inr ⟨g, 0, rfl, fun j v hv => ?_⟩
    have hj : j < n * 1 := by have := (List.getElem?_eq_some_iff.1 hv).1; have := h.1; omega
    rw [Nat.zero_add, h.2.2.cellAt j hj]
    exact hv

theorem Own.mono {w : World} {B B' E : Nat} {a : Option Addr} {n cap : Nat} {vs : List Value} (h : Own w B E a n cap vs) (hB : B' ≤ B) : Own w B' E a n cap vs := by
  obtain ⟨h1, h0, h2, h3⟩ := h
  refine ⟨h1, h0, h2, ?_⟩
  rcases h3 with h3 | ⟨g, cap', cur, h4, h5, r⟩
  · exact .inl h3
  · exact .inr ⟨g, cap', cur, h4, by omega, r⟩

theorem Own.of_heap {w w' : World} {B E : Nat} {a : Option Addr} {n cap : Nat} {vs : List Value} (h : Own w B E a n cap vs)
    (hb : ∀ b off s, a = some ⟨b, off, s⟩ → w'.heap[b]? = w.heap[b]?) : Own w' B E a n cap vs := by
  obtain ⟨h1, h0, h2, h3⟩ := h
  refine ⟨h1, h0, h2, ?_⟩
  rcases h3 with h3 | ⟨g, cap', cur, h4, h5, h6, r⟩
  · exact .inl h3
  · refine .inr ⟨g, cap', cur, h4, h5, ?_, r⟩
    simp only [Value.slice.injEq] at h4
    rw [hb g 0 none h4.1]
    exact h6

theorem Own.up {w w' : World} {B E : Nat} {a : Option Addr} {n cap : Nat} {vs : List Value} (h : Own w B E a n cap vs) (hb : Below w.heap.size w w') : Own w' B E a n cap vs :=
  h.of_heap fun _ _ _ ha => hb.block _ (h.lt ha).2
theorem Own.drew {w : World} {B E : Nat} {a : Option Addr} {n cap : Nat} {vs : List Value} (h : Own w B E a n cap vs) : Own w.drew B E a n cap vs := h
theorem Own.alloc {w : World} {B E : Nat} {a : Option Addr} {n cap : Nat} {vs : List Value} (h : Own w B E a n cap vs) (o : Obj) : Own (w.alloc o) B E a n cap vs :=
  h.up ((Below.refl _ _).alloc (Nat.le_refl _) o)

/-- A row of the call's own that is not empty lies at the head of its block; each cell may be written. -/
theorem Own.at {w : World} {B E : Nat} {a : Option Addr} {n cap k : Nat} {vs : List Value} (h : Own w B E a n cap vs) (hk : k < n) :
    ∃ g v, a = some ⟨g, 0, none⟩ ∧ B ≤ g ∧ g < w.heap.size ∧ w.cell? ⟨g, k, none⟩ = some v ∧ w.frozen? ⟨g, k, none⟩ = false ∧ Hd (vs[k]? = some v) := by
  rcases h.addr with ⟨_, h0, _⟩ | ⟨g, rfl, hB, hg, h1, h2⟩
  · omega
  · have hv : vs[k]? = some (vs[k]'(by have := h.1; omega)) := List.getElem?_eq_getElem (by have := h.1; omega)
    exact ⟨g, _, rfl, hB, hg, (h.2.2.cellAt k (by omega)).trans hv, h.2.2.frozenAt k, hv⟩

/-- The same where the address is known. -/
theorem Own.at' {w : World} {B E : Nat} {g n cap k : Nat} {vs : List Value} (h : Own w B E (some ⟨g, 0, none⟩) n cap vs) (hk : k < n) :
    ∃ v, w.cell? ⟨g, k, none⟩ = some v ∧ w.frozen? ⟨g, k, none⟩ = false ∧ Hd (vs[k]? = some v) := by
  obtain ⟨g', v, h1, _, _, h2, h3, h4⟩ := h.at hk
  cases h1
  exact ⟨v, h2, h3, h4⟩

theorem Own.store {w : World} {B E : Nat} {g n cap k : Nat} {vs : List Value} (h : Own w B E (some ⟨g, 0, none⟩) n cap vs) (u : Value) :
    Own (w.setCell ⟨g, k, none⟩ u) B E (some ⟨g, 0, none⟩) n cap (vs.set k u) :=
  ⟨by simpa using h.1, h.2.1, (h.2.2.stored k u).1⟩

/-- What one's own store leaves alone: a block of another number. -/
theorem heap_store (w : World) (g k b : Nat) (u : Value) (h : b ≠ g) : (w.setCell ⟨g, k, none⟩ u).heap[b]? = w.heap[b]? := Below.heap_setCell w ⟨g, k, none⟩ u b h

theorem Vals.store {w : World} {a : Option Addr} {n : Nat} {vs : List Value} (h : Vals w a n vs) (g k : Nat) (u : Value) (hne : ∀ b off, a = some ⟨b, off, none⟩ → b ≠ g) : Vals (w.setCell ⟨g, k, none⟩ u) a n vs :=
  h.of_heap fun b off ha => heap_store w g k b u (hne b off ha)

theorem Own.store_other {w : World} {B E : Nat} {a : Option Addr} {n cap : Nat} {vs : List Value} (h : Own w B E a n cap vs) (g k : Nat) (u : Value) (hne : ∀ b off s, a = some ⟨b, off, s⟩ → b ≠ g) : Own (w.setCell ⟨g, k, none⟩ u) B E a n cap vs :=
  h.of_heap fun b off s ha => heap_store w g k b u (hne b off s ha)

/-- make([]T, n): the row is the call's own, in a block of the next number. -/
theorem make_own {P : Program} (w : World) (t e : TypeId) (z : Value) (bytes : Nat) (ht : P.underlying t = some (.slice e)) (hinfo : (P.info? e).map (fun i => (i.zero, i.size, i.bytes)) = some (some z, 1, bytes)) (hz : z.cells = #[z])
    (n : Nat) (hbytes : bytes * n ≤ 281474976710656) (h48 : n ≤ 281474976710656) :
    ∃ w1, (Instr.makeSlice t (.int .i64 n) (.int .i64 n)).run P w = .ok (.slice (some ⟨w.heap.size, 0, none⟩) n n) w1 ∧ Hd (w1.heap.size = w.heap.size + 1) ∧ Below w.heap.size w w1 ∧
      Own w1 w.heap.size e (some ⟨w.heap.size, 0, none⟩) n n (List.replicate n z) := by
  obtain ⟨i, hi, hz0, hz1, hz2⟩ := info_parts hinfo
  have hmk := run_make (P := P) w t e i z ht hi hz0 .i64 .i64 n n (by omega) (by omega) (by rw [hz2]; omega) (by omega)
  rw [hz1] at hmk
  refine ⟨_, hmk, by simp [Hd], (Below.refl _ _).alloc (Nat.le_refl _) _, by simp, h48, ?_⟩
  have := World.ownsRow_lit (base := w.heap.size) (e := e) (size := 1) w (madeCells z.cells ((n : Int).toNat * 1)) n (Nat.le_refl _) (by rw [maxLen_eq]; omega) (by simp [size_madeCells])
  rw [show (madeCells z.cells ((n : Int).toNat * 1)).toList = List.replicate n z from by simp [hz, toList_madeCells_one]] at this
  exact this

theorem size_store (w : World) (a : Addr) (u : Value) : (w.setCell a u).heap.size = w.heap.size := by simp [World.setCell]

theorem below_ups {B : Nat} {a b c : World} (h : Below B a b) (k : Below b.heap.size b c) (hB : B ≤ b.heap.size) : Below B a c := h.trans (k.mono hB)

/-- The slice (a, n) reads as a list of int64s. -/
def Ints (w : World) (a : Option Addr) (n : Nat) (xs : List Int) : Prop := Vals w a n (xs.map (Value.int .i64)) ∧ ∀ x ∈ xs, -9223372036854775808 ≤ x ∧ x ≤ 9223372036854775807
/-- A row of the call's own of int64s. -/
def OwnI (w : World) (B : Nat) (a : Option Addr) (n cap : Nat) (xs : List Int) : Prop := Own w B 2 a n cap (xs.map (Value.int .i64)) ∧ ∀ x ∈ xs, -9223372036854775808 ≤ x ∧ x ≤ 9223372036854775807

theorem Ints.length {w : World} {a : Option Addr} {n : Nat} {xs : List Int} (h : Ints w a n xs) : xs.length = n := by simpa using h.1.1
theorem Ints.le {w : World} {a : Option Addr} {n : Nat} {xs : List Int} (h : Ints w a n xs) : n ≤ 9223372036854775807 := h.1.le
theorem Ints.up {w w' : World} {a : Option Addr} {n : Nat} {xs : List Int} (h : Ints w a n xs) (hb : Below w.heap.size w w') : Ints w' a n xs := ⟨h.1.up hb, h.2⟩
theorem Ints.nil {w : World} (a : Option Addr) : Ints w a 0 [] := ⟨Vals.nil a, by simp⟩
theorem Ints.drew {w : World} {a : Option Addr} {n : Nat} {xs : List Int} (h : Ints w a n xs) : Ints w.drew a n xs := h
theorem Ints.at {w : World} {a : Option Addr} {n k : Nat} {xs : List Int} (h : Ints w a n xs) (hk : k < n) :
    ∃ b off x, a = some ⟨b, off, none⟩ ∧ b < w.heap.size ∧ w.cell? ⟨b, off + k, none⟩ = some (.int .i64 x) ∧ Hd (xs[k]? = some x) ∧ -9223372036854775808 ≤ x ∧ x ≤ 9223372036854775807 := by
  obtain ⟨b, off, v, h1, h2, h3, h4⟩ := h.1.at hk
  have h4 := h4.o
  rw [List.getElem?_map, Option.map_eq_some_iff] at h4
  obtain ⟨x, hx, rfl⟩ := h4
  have hr := h.2 x (List.mem_of_getElem? hx)
  exact ⟨b, off, x, h1, h2, h3, hx, hr.1, hr.2⟩

theorem Ints.take {w : World} {a : Option Addr} {n k : Nat} {xs : List Int} (h : Ints w a n xs) (hk : k ≤ n) : Ints w a k (xs.take k) := by
  obtain ⟨⟨h1, h2, h3⟩, h4⟩ := h
  refine ⟨⟨by simp at h1 ⊢; omega, by omega, ?_⟩, fun x hx => h4 x (List.mem_of_mem_take hx)⟩
  rcases h3 with h3 | ⟨b, off, ha, hc⟩
  · exact .inl (by omega)
  · refine .inr ⟨b, off, ha, fun j v hv => hc j v ?_⟩
    rw [List.map_take, List.getElem?_take] at hv
    split at hv
    · exact hv
    · cases hv

theorem OwnI.length {w : World} {B : Nat} {a : Option Addr} {n cap : Nat} {xs : List Int} (h : OwnI w B a n cap xs) : xs.length = n := by simpa using h.1.1
theorem OwnI.ints {w : World} {B : Nat} {a : Option Addr} {n cap : Nat} {xs : List Int} (h : OwnI w B a n cap xs) : Ints w a n xs := ⟨h.1.vals, h.2⟩
theorem OwnI.up {w w' : World} {B : Nat} {a : Option Addr} {n cap : Nat} {xs : List Int} (h : OwnI w B a n cap xs) (hb : Below w.heap.size w w') : OwnI w' B a n cap xs := ⟨h.1.up hb, h.2⟩
theorem OwnI.mono {w : World} {B B' : Nat} {a : Option Addr} {n cap : Nat} {xs : List Int} (h : OwnI w B a n cap xs) (hB : B' ≤ B) : OwnI w B' a n cap xs := ⟨h.1.mono hB, h.2⟩
theorem OwnI.drew {w : World} {B : Nat} {a : Option Addr} {n cap : Nat} {xs : List Int} (h : OwnI w B a n cap xs) : OwnI w.drew B a n cap xs := h

theorem heap_drewN (w : World) (m : Nat) : (w.drewN m).heap = w.heap := rfl
theorem Ints.drewN {w : World} {a : Option Addr} {n : Nat} {xs : List Int} (h : Ints w a n xs) (m : Nat) : Ints (w.drewN m) a n xs := h
theorem OwnI.drewN {w : World} {B : Nat} {a : Option Addr} {n cap : Nat} {xs : List Int} (h : OwnI w B a n cap xs) (m : Nat) : OwnI (w.drewN m) B a n cap xs := h
theorem Own.drewN {w : World} {B E : Nat} {a : Option Addr} {n cap : Nat} {vs : List Value} (h : Own w B E a n cap vs) (m : Nat) : Own (w.drewN m) B E a n cap vs := h

/-- Nothing but draws lies between the two worlds. -/
def Drew (w w' : World) : Prop := ∃ m, w' = w.drewN m
theorem Drew.refl (w : World) : Drew w w := ⟨0, rfl⟩
theorem Drew.step {w w' : World} (h : Drew w w') (n : Nat) : Drew w (w'.drewN n) := by obtain ⟨m, rfl⟩ := h; exact ⟨m + n, World.drewN_drewN _ _ _⟩
theorem Drew.one {w w' : World} (h : Drew w w') : Drew w w'.drew := by obtain ⟨m, rfl⟩ := h; exact ⟨m + 1, rfl⟩
theorem Drew.trans {a b c : World} (h : Drew a b) (k : Drew b c) : Drew a c := by obtain ⟨m, rfl⟩ := k; exact h.step m
theorem Drew.ints {w w' : World} (h : Drew w w') {a : Option Addr} {n : Nat} {xs : List Int} (hx : Ints w a n xs) : Ints w' a n xs := by obtain ⟨m, rfl⟩ := h; exact hx
theorem Drew.ownI {w w' : World} (h : Drew w w') {B : Nat} {a : Option Addr} {n cap : Nat} {xs : List Int} (hx : OwnI w B a n cap xs) : OwnI w' B a n cap xs := by obtain ⟨m, rfl⟩ := h; exact hx
theorem Drew.own {w w' : World} (h : Drew w w') {B E : Nat} {a : Option Addr} {n cap : Nat} {vs : List Value} (hx : Own w B E a n cap vs) : Own w' B E a n cap vs := by obtain ⟨m, rfl⟩ := h; exact hx
theorem Drew.below {w w' : World} (h : Drew w w') (B : Nat) : Below B w w' := by obtain ⟨m, rfl⟩ := h; exact ⟨rfl, rfl, rfl, Nat.le_refl _, fun _ _ => rfl⟩
theorem Drew.up {w w' : World} (h : Drew w w') {B : Nat} {w0 : World} (hb : Below B w0 w) : Below B w0 w' := hb.trans (h.below B)
theorem Drew.size {w w' : World} (h : Drew w w') : w'.heap.size = w.heap.size := by obtain ⟨m, rfl⟩ := h; rfl

/-- The address of a slice lies in a block below B (nil does). -/
def ABelow (a : Option Addr) (B : Nat) : Prop := ∀ b off s, a = some ⟨b, off, s⟩ → b < B
theorem Own.abelow {w : World} {B E : Nat} {a : Option Addr} {n cap : Nat} {vs : List Value} (h : Own w B E a n cap vs) : ABelow a w.heap.size := fun _ _ _ ha => (h.lt ha).2

theorem retB {R : Ending → World → Prop} {b b' : Bool} {w : World} (H : Hd (R (.returned (.bool b)) w)) (e : b = b') : R (.returned (.bool b')) w := e ▸ H
theorem retI {R : Ending → World → Prop} {k : IntKind} {b b' : Int} {w : World} (H : Hd (R (.returned (.int k b)) w)) (e : b = b') : R (.returned (.int k b')) w := e ▸ H

/-- A round's counter read back. -/
theorem take_succ_some {α : Type} {xs : List α} {k : Nat} {x : α} (h : xs[k]? = some x) : xs.take (k + 1) = xs.take k ++ [x] := by
  rw [List.take_add_one, h]; rfl
theorem drop_some {α : Type} {xs : List α} {k : Nat} {x : α} (h : xs[k]? = some x) : xs.drop k = x :: xs.drop (k + 1) := by
  obtain ⟨hk, rfl⟩ := List.getElem?_eq_some_iff.1 h
  exact List.drop_eq_getElem_cons hk

/-- Of the memory at most the block of the address a has turned; nothing new has come. -/
structure Wrote (a : Option Addr) (w w' : World) : Prop where
  os : w'.os = w.os
  tape : w'.tape = w.tape
  output : w'.output = w.output
  size : w'.heap.size = w.heap.size
  block : ∀ k, (∀ off s, a ≠ some ⟨k, off, s⟩) → w'.heap[k]? = w.heap[k]?

theorem Wrote.refl (a : Option Addr) (w : World) : Wrote a w w := ⟨rfl, rfl, rfl, rfl, fun _ _ => rfl⟩
theorem Wrote.store {a : Option Addr} {w w' : World} (h : Wrote a w w') {g off : Nat} (ha : a = some ⟨g, off, none⟩) (k : Nat) (u : Value) : Wrote a w (w'.setCell ⟨g, k, none⟩ u) :=
  ⟨h.os, h.tape, h.output, (size_store _ _ _).trans h.size, fun b hb => (heap_store w' g k b u (fun e => hb off none (by rw [ha, e]))).trans (h.block b hb)⟩
theorem Wrote.below {a : Option Addr} {w w' : World} (h : Wrote a w w') {B : Nat} (hB : ∀ b off s, a = some ⟨b, off, s⟩ → B ≤ b) : Below B w w' :=
  ⟨h.os, h.tape, h.output, by rw [h.size]; exact Nat.le_refl _, fun k hk => h.block k (fun off s e => by have := hB k off s e; omega)⟩
theorem Vals.wrote {a' : Option Addr} {w w' : World} {a : Option Addr} {n : Nat} {vs : List Value} (h : Vals w a n vs) (hw : Wrote a' w w') (hne : ∀ b off s off' s', a = some ⟨b, off, s⟩ → a' ≠ some ⟨b, off', s'⟩) : Vals w' a n vs :=
  h.of_heap fun b off ha => hw.block b (fun off' s' => hne b off none off' s' ha)
theorem Ints.wrote {a' : Option Addr} {w w' : World} {a : Option Addr} {n : Nat} {xs : List Int} (h : Ints w a n xs) (hw : Wrote a' w w') (hne : ∀ b off s off' s', a = some ⟨b, off, s⟩ → a' ≠ some ⟨b, off', s'⟩) : Ints w' a n xs :=
  ⟨h.1.wrote hw hne, h.2⟩
theorem Own.wrote {a' : Option Addr} {w w' : World} {B E : Nat} {a : Option Addr} {n cap : Nat} {vs : List Value} (h : Own w B E a n cap vs) (hw : Wrote a' w w') (hne : ∀ b off s off' s', a = some ⟨b, off, s⟩ → a' ≠ some ⟨b, off', s'⟩) : Own w' B E a n cap vs :=
  h.of_heap fun b off s ha => hw.block b (fun off' s' => hne b off s off' s' ha)
theorem OwnI.wrote {a' : Option Addr} {w w' : World} {B : Nat} {a : Option Addr} {n cap : Nat} {xs : List Int} (h : OwnI w B a n cap xs) (hw : Wrote a' w w') (hne : ∀ b off s off' s', a = some ⟨b, off, s⟩ → a' ≠ some ⟨b, off', s'⟩) : OwnI w' B a n cap xs :=
  ⟨h.1.wrote hw hne, h.2⟩
/-- Two rows apart by the number of the blocks. -/
theorem apart_lt {a a' : Option Addr} {B : Nat} (h : ABelow a B) (h' : ∀ b off s, a' = some ⟨b, off, s⟩ → B ≤ b) : ∀ b off s off' s', a = some ⟨b, off, s⟩ → a' ≠ some ⟨b, off', s'⟩ := by
  intro b off s off' s' e e'
  have h1 := h b off s e
  have h2 := h' b off' s' e'
  omega
theorem apart_gt {a a' : Option Addr} {B : Nat} (h : ABelow a' B) (h' : ∀ b off s, a = some ⟨b, off, s⟩ → B ≤ b) : ∀ b off s off' s', a = some ⟨b, off, s⟩ → a' ≠ some ⟨b, off', s'⟩ := by
  intro b off s off' s' e e'
  have h1 := h b off' s' e'
  have h2 := h' b off s e
  omega
theorem OwnI.ge {w : World} {B : Nat} {a : Option Addr} {n cap : Nat} {xs : List Int} (h : OwnI w B a n cap xs) : ∀ b off s, a = some ⟨b, off, s⟩ → B ≤ b := fun _ _ _ e => (h.1.lt e).1
theorem OwnI.abelow {w : World} {B : Nat} {a : Option Addr} {n cap : Nat} {xs : List Int} (h : OwnI w B a n cap xs) : ABelow a w.heap.size := h.1.abelow
theorem ABelow.mono {a : Option Addr} {B B' : Nat} (h : ABelow a B) (hB : B ≤ B') : ABelow a B' := fun b off s e => Nat.lt_of_lt_of_le (h b off s e) hB

def marks (k : Int) (n : Nat) : List Int := (List.range n).map fun (j : Nat) => k + j
theorem marks_length (k : Int) (n : Nat) : (marks k n).length = n := by simp [marks]
theorem marks_succ (k : Int) (n : Nat) : marks k (n + 1) = marks k n ++ [k + n] := by simp [marks, List.range_succ]
theorem marks_get (k : Int) (n j : Nat) (h : j < n) : (marks k n)[j]? = some (k + j) := by simp [marks, h]

theorem set_front {α : Type} (ms xs : List α) (k : Nat) (x : α) (hm : ms.length = k) (hk : k < xs.length) : (ms ++ xs.drop k).set k x = ms ++ [x] ++ xs.drop (k + 1) := by
  rw [List.set_append, if_neg (by omega), hm, Nat.sub_self, List.drop_eq_getElem_cons hk, List.append_assoc]
  rfl

/-- What a call that makes a slice of int64s hands back: a row of its own that reads as ys. -/
def MakesI (R : Ending → World → Prop) (w : World) (ys : List Int) : Prop :=
  ∀ a n cap w', Below w.heap.size w w' → OwnI w' w.heap.size a n cap ys → R (.returned (.slice a n cap)) w'
/-- The same with a bool behind it. -/
def MakesIB (R : Ending → World → Prop) (w : World) (ys : List Int) (b : Bool) : Prop :=
  ∀ a n cap w', Below w.heap.size w w' → OwnI w' w.heap.size a n cap ys → R (.returned (.tuple #[.slice a n cap, .bool b])) w'
/-- What a call hands back that only reads: the value v, behind some draws. -/
def Reads (R : Ending → World → Prop) (w : World) (v : Value) : Prop := ∀ w', Drew w w' → R (.returned v) w'

/-- What a call hands back that may make memory of its own: the value v. -/
def Gives (R : Ending → World → Prop) (w : World) (v : Value) : Prop := ∀ w', Below w.heap.size w w' → R (.returned v) w'

theorem Own.nil (w : World) (B E : Nat) : Own w B E none 0 0 [] := ⟨rfl, by omega, World.ownsRow_nil _ _ _ _⟩
theorem OwnI.nil (w : World) (B : Nat) : OwnI w B none 0 0 [] := ⟨Own.nil _ _ _, by simp⟩
theorem OwnI.cap {w : World} {B : Nat} {a : Option Addr} {n cap : Nat} {xs : List Int} (h : OwnI w B a n cap xs) : n ≤ cap := by
  rcases h.1.addr with ⟨_, h, _⟩ | ⟨g, _, _, _, h, _⟩ <;> omega
theorem OwnI.le {w : World} {B : Nat} {a : Option Addr} {n cap : Nat} {xs : List Int} (h : OwnI w B a n cap xs) : n ≤ 281474976710656 := h.1.le48
theorem OwnI.apart {w w' : World} {B : Nat} {a a' : Option Addr} {n cap n' cap' : Nat} {xs ys : List Int} (h : OwnI w B a n cap xs) (h' : OwnI w' w.heap.size a' n' cap' ys) :
    ∀ b off s off' s', a = some ⟨b, off, s⟩ → a' ≠ some ⟨b, off', s'⟩ := apart_lt h.abelow h'.ge
theorem OwnI.apart' {w w' : World} {B : Nat} {a a' : Option Addr} {n cap n' cap' : Nat} {xs ys : List Int} (h : OwnI w B a n cap xs) (h' : OwnI w' w.heap.size a' n' cap' ys) :
    ∀ b off s off' s', a' = some ⟨b, off, s⟩ → a ≠ some ⟨b, off', s'⟩ := fun b off s off' s' e e' => h.apart h' b off' s' off s e' e
theorem Wrote.size' {a : Option Addr} {w w' : World} (h : Wrote a w w') : w'.heap.size = w.heap.size := h.size

/-- A slice of int64s that came in. -/
theorem Ints.of_open {w : World} {x : Addr} {l c : Nat} {zs : List Int} (hl : l ≤ c) (hm : c ≤ maxLen) (hz : zs.length = c)
    (hcell : ∀ i, i < zs.length → w.cell? (x.add i) = some (.int .i64 (zs.getD i 0))) (hwz : ∀ n ∈ zs, (Lit.int .i64 n).wf = true) : Ints w (some x) l (zs.take l) := by
  refine ⟨⟨by simp; omega, by rw [maxLen_eq] at hm; omega, ?_⟩, ?_⟩
  · by_cases h0 : l = 0
    · exact .inl h0
    · right
      have h := hcell 0 (by omega)
      have hs : x.spot = none := by
        rw [show x.add 0 = x from by simp [Addr.add]] at h
        unfold World.cell? at h
        split at h
        · split at h
          · cases h
          · rename_i hs; simpa using hs
        · cases h
      refine ⟨x.block, x.off, by rw [← hs], fun j v hv => ?_⟩
      rw [List.getElem?_map, List.getElem?_take] at hv
      split at hv
      · rename_i hj
        have h := hcell j (by omega)
        rw [Option.map_eq_some_iff] at hv
        obtain ⟨y, hy, rfl⟩ := hv
        rw [List.getD_eq_getElem?_getD, hy] at h
        refine Eq.trans ?_ h
        congr 1
        unfold Addr.add
        split
        · rename_i hj; subst hj; simp [← hs]
        · rfl
      · simp at hv
  · intro y hy
    have := hwz y (List.mem_of_mem_take hy)
    simpa [Lit.wf, IntKind.min, IntKind.max, IntKind.signed, IntKind.bits] using this
end Go.Proofs.Ytpijnjhheikmcaa
