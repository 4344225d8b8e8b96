/- Readings that say in which blocks they lie. -/
import Derived.Test.YtpijnjhheikmcaaGrid
namespace Go.Proofs.Ytpijnjhheikmcaa
open Go.RowKit

/-- The blocks D are as they were. -/
def Kept (D : Nat → Prop) (w w' : World) : Prop := ∀ b, D b → b < w.heap.size → w'.heap[b]? = w.heap[b]?
theorem Kept.of_below {D : Nat → Prop} {w w' : World} (h : Below w.heap.size w w') : Kept D w w' := fun b _ hb => h.block b hb
theorem Kept.of_grew {D : Nat → Prop} {a : Option Addr} {w w' : World} (h : Grew a w w') (hD : ∀ b, D b → ¬ fpI a b) : Kept D w w' := fun b hb hl => h.block b hl fun off s e => hD b hb ⟨off, s, e⟩
theorem Kept.of_drew {D : Nat → Prop} {w w' : World} (h : Drew w w') : Kept D w w' := by obtain ⟨m, rfl⟩ := h; intro _ _ _; rfl
theorem Kept.of_store {D : Nat → Prop} {w : World} {g k : Nat} {u : Value} (hD : ∀ b, D b → b ≠ g) : Kept D w (w.setCell ⟨g, k, none⟩ u) := fun b hb _ => heap_store w g k b u (hD b hb)

/-- A row that reads as xs, in the blocks D. -/
def IntsD (D : Nat → Prop) (w : World) (a : Option Addr) (n : Nat) (xs : List Int) : Prop := Ints w a n xs ∧ ∀ b, 0 < n → fpI a b → D b
theorem IntsD.kept {D : Nat → Prop} {w w' : World} {a : Option Addr} {n : Nat} {xs : List Int} (h : IntsD D w a n xs) (hk : Kept D w w') : IntsD D w' a n xs := by
  refine ⟨⟨?_, h.1.2⟩, h.2⟩
  by_cases hn : n = 0
  · exact ⟨h.1.1.1, h.1.1.2.1, .inl hn⟩
  · exact h.1.1.of_heap fun b off e => hk b (h.2 b (by omega) ⟨off, none, e⟩) (h.1.1.lt (by omega) e)
theorem IntsD.mono {D D' : Nat → Prop} {w : World} {a : Option Addr} {n : Nat} {xs : List Int} (h : IntsD D w a n xs) (hm : ∀ b, b < w.heap.size → D b → D' b) : IntsD D' w a n xs :=
  ⟨h.1, fun b hn e => hm b (by obtain ⟨off, s, e⟩ := e; obtain ⟨b', off', v, e', hl, _⟩ := h.1.1.at hn; rw [e] at e'; cases e'; exact hl) (h.2 b hn e)⟩
theorem IntsD.of_ints {w : World} {a : Option Addr} {n : Nat} {xs : List Int} (h : Ints w a n xs) : IntsD (fun b => b < w.heap.size) w a n xs :=
  ⟨h, fun b hn ⟨off, s, e⟩ => by obtain ⟨b', off', v, e', hl, _⟩ := h.1.at hn; rw [e] at e'; cases e'; exact hl⟩
theorem IntsD.of_own {D : Nat → Prop} {w : World} {B : Nat} {a : Option Addr} {n cap : Nat} {xs : List Int} (h : OwnI w B a n cap xs) (hD : ∀ b, B ≤ b → D b) : IntsD D w a n xs := ⟨h.ints, fun b _ e => hD b (h.fp_ge b e)⟩

/-- Rows that read as xss, in the blocks D. -/
def MatD (D : Nat → Prop) (w : World) (a : Option Addr) (n : Nat) (xss : List (List Int)) : Prop :=
  ∃ hs : List Hdr, Vals w a n (hs.map hvv) ∧ xss.length = n ∧ (∀ b, 0 < n → fpI a b → D b) ∧ ∀ (j : Nat) (h : Hdr) (xs : List Int), hs[j]? = some h → xss[j]? = some xs → IntsD D w h.1 h.2.1 xs ∧ h.2.1 ≤ h.2.2
theorem MatD.length {D : Nat → Prop} {w : World} {a : Option Addr} {n : Nat} {xss : List (List Int)} (h : MatD D w a n xss) : xss.length = n := by obtain ⟨_, _, h, _⟩ := h; exact h
theorem MatD.le {D : Nat → Prop} {w : World} {a : Option Addr} {n : Nat} {xss : List (List Int)} (h : MatD D w a n xss) : n ≤ 9223372036854775807 := by obtain ⟨_, h, _⟩ := h; exact h.le
theorem MatD.mat {D : Nat → Prop} {w : World} {a : Option Addr} {n : Nat} {xss : List (List Int)} (h : MatD D w a n xss) : Mat w a n xss := by
  obtain ⟨hs, h1, h2, _, h3⟩ := h
  exact ⟨hs, h1, h2, fun j h xs e e' => ⟨(h3 j h xs e e').1.1, (h3 j h xs e e').2⟩⟩
theorem MatD.of_mat {w : World} {a : Option Addr} {n : Nat} {xss : List (List Int)} (h : Mat w a n xss) : MatD (fun b => b < w.heap.size) w a n xss := by
  obtain ⟨hs, h1, h2, h3⟩ := h
  exact ⟨hs, h1, h2, fun b hn ⟨off, s, e⟩ => by obtain ⟨b', off', v, e', hl, _⟩ := h1.at hn; rw [e] at e'; cases e'; exact hl, fun j h xs e e' => ⟨.of_ints (h3 j h xs e e').1, (h3 j h xs e e').2⟩⟩
theorem MatD.kept {D : Nat → Prop} {w w' : World} {a : Option Addr} {n : Nat} {xss : List (List Int)} (h : MatD D w a n xss) (hk : Kept D w w') : MatD D w' a n xss := by
  obtain ⟨hs, h1, h2, h3, h4⟩ := h
  refine ⟨hs, ?_, h2, h3, fun j h xs e e' => ⟨(h4 j h xs e e').1.kept hk, (h4 j h xs e e').2⟩⟩
  by_cases hn : n = 0
  · exact ⟨h1.1, h1.2.1, .inl hn⟩
  · exact h1.of_heap fun b off e => hk b (h3 b (by omega) ⟨off, none, e⟩) (h1.lt (by omega) e)
theorem MatD.mono {D D' : Nat → Prop} {w : World} {a : Option Addr} {n : Nat} {xss : List (List Int)} (h : MatD D w a n xss) (hm : ∀ b, b < w.heap.size → D b → D' b) : MatD D' w a n xss := by
  obtain ⟨hs, h1, h2, h3, h4⟩ := h
  refine ⟨hs, h1, h2, fun b hn e => hm b ?_ (h3 b hn e), fun j h xs e e' => ⟨(h4 j h xs e e').1.mono hm, (h4 j h xs e e').2⟩⟩
  obtain ⟨off, s, e⟩ := e; obtain ⟨b', off', v, e', hl, _⟩ := h1.at hn; rw [e] at e'; cases e'; exact hl
theorem MatD.at {D : Nat → Prop} {w : World} {a : Option Addr} {n k : Nat} {xss : List (List Int)} (h : MatD D w a n xss) (hk : k < n) :
    ∃ b off a' n' c' xs, a = some ⟨b, off, none⟩ ∧ b < w.heap.size ∧ w.cell? ⟨b, off + k, none⟩ = some (.slice a' n' c') ∧ Hd (xss[k]? = some xs) ∧ IntsD D w a' n' xs ∧ n' ≤ c' := by
  obtain ⟨hs, h1, h2, _, h3⟩ := h
  obtain ⟨b, off, v, e1, e2, e3, e4⟩ := h1.at hk
  have e4 := e4.o
  rw [List.getElem?_map, Option.map_eq_some_iff] at e4
  obtain ⟨hd, e5, rfl⟩ := e4
  have e6 : xss[k]? = some (xss[k]'(by omega)) := List.getElem?_eq_getElem (by omega)
  obtain ⟨i1, i2⟩ := h3 k hd _ e5 e6
  exact ⟨b, off, hd.1, hd.2.1, hd.2.2, _, e1, e2, e3, e6, i1, i2⟩

/-- A row of the call's own of rows that lie elsewhere: none in the row's own block, none in the block g. -/
def Outer (w : World) (B g : Nat) (c : Option Addr) (m capc : Nat) (xss : List (List Int)) : Prop :=
  ∃ hs : List Hdr, Own w B 23 c m capc (hs.map hvv) ∧ xss.length = m ∧ ∀ (j : Nat) (h : Hdr) (xs : List Int), hs[j]? = some h → xss[j]? = some xs → IntsD (fun b => b ≠ g ∧ ¬ fpI c b) w h.1 h.2.1 xs ∧ h.2.1 ≤ h.2.2
theorem Outer.length {w : World} {B g : Nat} {c : Option Addr} {m capc : Nat} {xss : List (List Int)} (h : Outer w B g c m capc xss) : xss.length = m := by obtain ⟨_, _, h, _⟩ := h; exact h
theorem Outer.own {w : World} {B g : Nat} {c : Option Addr} {m capc : Nat} {xss : List (List Int)} (h : Outer w B g c m capc xss) : ∃ vs, Own w B 23 c m capc vs := by obtain ⟨hs, h, _⟩ := h; exact ⟨_, h⟩
theorem Outer.nil (w : World) (B g : Nat) : Outer w B g none 0 0 [] := ⟨[], Own.nil _ _ _, rfl, by simp⟩
theorem Outer.up {w w' : World} {B g : Nat} {c : Option Addr} {m capc : Nat} {xss : List (List Int)} (h : Outer w B g c m capc xss) (hb : Below w.heap.size w w') : Outer w' B g c m capc xss := by
  obtain ⟨hs, h1, h2, h3⟩ := h
  exact ⟨hs, h1.up hb, h2, fun j h xs e e' => ⟨(h3 j h xs e e').1.kept (.of_below hb), (h3 j h xs e e').2⟩⟩
/-- A row joins. -/
theorem Outer.snoc {w w' : World} {B g j : Nat} {c : Option Addr} {m capc : Nat} {xss : List (List Int)} {hs : List Hdr} (h : Own w B 23 c m capc (hs.map hvv)) (hl : xss.length = m)
    (h3 : ∀ (j : Nat) (h : Hdr) (xs : List Int), hs[j]? = some h → xss[j]? = some xs → IntsD (fun b => b ≠ g ∧ ¬ fpI c b) w h.1 h.2.1 xs ∧ h.2.1 ≤ h.2.2)
    {a' : Option Addr} {n' c' : Nat} {xs : List Int} (hx : IntsD (fun b => b ≠ g ∧ ¬ fpI c b) w a' n' xs) (hc : n' ≤ c') (hg : Grew c w w') {a2 : Option Addr} {n2 cap2 : Nat} (ho : Own w' B 23 a2 n2 cap2 (hs.map hvv ++ [.slice a' n' c'])) (ha : a2 = c ∨ a2 = some ⟨w.heap.size + j, 0, none⟩) :
    Outer w' B g a2 n2 cap2 (xss ++ [xs]) := by
  have hn := ho.length
  have hn1 := h.length
  simp at hn hn1
  have key : ∀ (a : Option Addr) (n : Nat) (ys : List Int), IntsD (fun b => b ≠ g ∧ ¬ fpI c b) w a n ys → IntsD (fun b => b ≠ g ∧ ¬ fpI a2 b) w' a n ys := by
    intro a n ys hy
    have hy2 : IntsD (fun b => b ≠ g ∧ ¬ fpI c b ∧ ¬ fpI a2 b) w a n ys := hy.mono fun b hb hd => ⟨hd.1, hd.2, fun e => by
      rcases ha with rfl | rfl
      · exact hd.2 e
      · obtain ⟨off, s, e⟩ := e; cases e; omega⟩
    have hk : Kept (fun b => b ≠ g ∧ ¬ fpI c b ∧ ¬ fpI a2 b) w w' := .of_grew hg fun b hb => hb.2.1
    exact (hy2.kept hk).mono fun b _ hd => ⟨hd.1, hd.2.2⟩
  refine ⟨hs ++ [(a', n', c')], by rw [List.map_append]; exact ho, by simp; omega, fun i h ys e e' => ?_⟩
  by_cases hi : i < hs.length
  · rw [List.getElem?_append_left hi] at e
    rw [List.getElem?_append_left (by omega)] at e'
    exact ⟨key _ _ _ (h3 i h ys e e').1, (h3 i h ys e e').2⟩
  · rw [List.getElem?_append_right (by omega)] at e
    rw [List.getElem?_append_right (by omega)] at e'
    obtain ⟨hl1, rfl⟩ := List.getElem?_eq_some_iff.1 e
    obtain ⟨hl2, rfl⟩ := List.getElem?_eq_some_iff.1 e'
    simp only [List.getElem_singleton]
    exact ⟨key _ _ _ hx, hc⟩
theorem Outer.matD {w : World} {B g : Nat} {c : Option Addr} {m capc : Nat} {xss : List (List Int)} (h : Outer w B g c m capc xss) (hg : g < B) : MatD (fun b => b ≠ g) w c m xss := by
  obtain ⟨hs, h1, h2, h3⟩ := h
  refine ⟨hs, h1.vals, h2, fun b _ ⟨off, s, e⟩ => by have := (h1.lt e).1; omega, fun j h xs e e' => ⟨(h3 j h xs e e').1.mono fun b _ hd => hd.1, (h3 j h xs e e').2⟩⟩

/-- A row of the call's own, in the blocks D. -/
def OwnD (D : Nat → Prop) (w : World) (B : Nat) (a : Option Addr) (n cap : Nat) (xs : List Int) : Prop := OwnI w B a n cap xs ∧ ∀ b, fpI a b → D b
theorem OwnD.kept {D : Nat → Prop} {w w' : World} {B : Nat} {a : Option Addr} {n cap : Nat} {xs : List Int} (h : OwnD D w B a n cap xs) (hk : Kept D w w') : OwnD D w' B a n cap xs :=
  ⟨⟨h.1.1.of_heap fun b off s e => hk b (h.2 b ⟨off, s, e⟩) (h.1.1.lt e).2, h.1.2⟩, h.2⟩
theorem OwnD.mono {D D' : Nat → Prop} {w : World} {B : Nat} {a : Option Addr} {n cap : Nat} {xs : List Int} (h : OwnD D w B a n cap xs) (hm : ∀ b, b < w.heap.size → D b → D' b) : OwnD D' w B a n cap xs :=
  ⟨h.1, fun b e => hm b (h.1.fp_lt b e) (h.2 b e)⟩
end Go.Proofs.Ytpijnjhheikmcaa
