/- What has been seen; rows that join. -/
import Derived.Test.YtpijnjhheikmcaaGrid
namespace Go.Proofs.Ytpijnjhheikmcaa
open Go.RowKit

theorem infoBool : (Try.prog.info? 4).map (fun i => (i.zero, i.size, i.bytes)) = some (some (.bool false), 1, 1) := by kernel_rfl

theorem Inner.add {w : World} {B : Nat} {c : Option Addr} {hs : List Hdr} {xss : List (List Int)} (h : Inner w B c hs xss) {x : Hdr} {ys : List Int} (ho : OwnI w B x.1 x.2.1 x.2.2 ys) (hc : Apart x.1 c) (ha : ∀ y ∈ hs, Apart y.1 x.1) : Inner w B c (hs ++ [x]) (xss ++ [ys]) := by
  refine ⟨by simp [h.len], fun j y zs e e' => ?_, fun y hy => ?_, ?_⟩
  · by_cases hj : j < hs.length
    · rw [List.getElem?_append_left hj] at e
      rw [List.getElem?_append_left (by have := h.len; omega)] at e'
      exact h.row j y zs e e'
    · rw [List.getElem?_append_right (by omega)] at e
      rw [List.getElem?_append_right (by have := h.len; omega)] at e'
      obtain ⟨hl, rfl⟩ := List.getElem?_eq_some_iff.1 e
      obtain ⟨hl', rfl⟩ := List.getElem?_eq_some_iff.1 e'
      simp only [List.getElem_singleton]
      exact ho
  · rcases List.mem_append.1 hy with hy | hy
    · exact h.off y hy
    · obtain rfl := List.mem_singleton.1 hy
      exact hc
  · refine List.pairwise_append.2 ⟨h.two, List.pairwise_singleton _ _, fun y hy z hz => ?_⟩
    obtain rfl := List.mem_singleton.1 hz
    exact ha y hy
/-- A row that lies apart from the others is appended. -/
theorem OwnH.push {w1 w2 : World} {B : Nat} {c : Option Addr} {m capc : Nat} {hs : List Hdr} {yss : List (List Int)} (h : OwnH w1 B c m capc hs yss) {x : Hdr} {ys : List Int} (ho : OwnI w1 B x.1 x.2.1 x.2.2 ys) (hc : Apart x.1 c) (ha : ∀ y ∈ hs, Apart y.1 x.1)
    {a2 : Option Addr} {n2 cap2 j : Nat} (hg : Grew c w1 w2) (ho2 : Own w2 B 23 a2 n2 cap2 (hs.map hvv ++ [hvv x])) (ha2 : a2 = c ∨ a2 = some ⟨w1.heap.size + j, 0, none⟩) :
    OwnH w2 B a2 n2 cap2 (hs ++ [x]) (yss ++ [ys]) := by
  have hin := h.2.add ho hc ha
  refine ⟨by rw [List.map_append]; exact ho2, hin.len, fun j y xs e e' => ?_, fun y hy => ?_, hin.two⟩
  · exact hg.ownI (hin.row j y xs e e') (hin.off y (List.mem_of_getElem? e))
  · obtain ⟨xs, hr⟩ := hin.at hy
    exact Apart.grown (hin.off y hy) hr.abelow ha2
theorem OwnH.grew {w w' : World} {B : Nat} {a c : Option Addr} {m capc : Nat} {hs : List Hdr} {yss : List (List Int)} (h : OwnH w B c m capc hs yss) (hg : Grew a w w') (h1 : Apart c a) (h2 : ∀ x ∈ hs, Apart x.1 a) : OwnH w' B c m capc hs yss :=
  ⟨hg.own h.1 h1, h.2.map (fun x hx _ e => hg.ownI e (h2 x hx)) (fun _ _ k => k)⟩

/-- What has been seen. -/
def SeenIs (bs : List Bool) (n : Nat) (S : Int → Prop) : Prop := bs.length = n ∧ ∀ (j : Nat) (b : Bool), bs[j]? = some b → (b = true ↔ S j)
theorem SeenIs.start (n : Nat) {S : Int → Prop} (h : ∀ y, ¬ S y) : SeenIs (List.replicate n false) n S := ⟨by simp, fun j b e => by
  have := (List.getElem?_eq_some_iff.1 e).2
  simp at this
  subst this
  simp [h]⟩
theorem SeenIs.set {bs : List Bool} {n : Nat} {S S' : Int → Prop} (h : SeenIs bs n S) {z : Int} (h0 : 0 ≤ z) (hS : ∀ y, S' y ↔ S y ∨ y = z) : SeenIs (bs.set z.toNat true) n S' := by
  refine ⟨by simpa using h.1, fun j b e => ?_⟩
  rw [List.getElem?_set] at e
  split at e
  · rename_i hj
    split at e
    · cases e
      rw [hS]
      simp
      exact .inr (by omega)
    · cases e
  · rename_i hj
    rw [hS, h.2 j b e]
    constructor
    · exact .inl
    · rintro (h | h)
      · exact h
      · omega
theorem SeenIs.iff {bs : List Bool} {n : Nat} {S S' : Int → Prop} (h : SeenIs bs n S) (hS : ∀ y, S' y ↔ S y) : SeenIs bs n S' := ⟨h.1, fun j b e => by rw [hS, h.2 j b e]⟩
theorem OwnH.head {w : World} {B : Nat} {a : Option Addr} {n cap k : Nat} {hs : List Hdr} {xss : List (List Int)} (h : OwnH w B a n cap hs xss) (hk : k < n) :
    ∃ b a' n' c' ys, a = some ⟨b, 0, none⟩ ∧ B ≤ b ∧ b < w.heap.size ∧ w.cell? ⟨b, k, none⟩ = some (.slice a' n' c') ∧ Hd (hs[k]? = some (a', n', c')) ∧ Hd (xss[k]? = some ys) ∧ OwnI w B a' n' c' ys := by
  obtain ⟨g, v, h1, h2, h3, h4, _, h5⟩ := h.1.at hk
  have h5 := h5.o
  rw [List.getElem?_map, Option.map_eq_some_iff] at h5
  obtain ⟨x, hx, rfl⟩ := h5
  have e : xss[k]? = some (xss[k]'(by have := h.length; omega)) := List.getElem?_eq_getElem (by have := h.length; omega)
  exact ⟨g, x.1, x.2.1, x.2.2, _, h1, h2, h3, h4, hx, e, h.2.row k x _ hx e⟩
theorem pair_lt {hs : List Hdr} (h : hs.Pairwise fun x y => Apart x.1 y.1) {i j : Nat} {x y : Hdr} (hij : i < j) (hx : hs[i]? = some x) (hy : hs[j]? = some y) : Apart x.1 y.1 := by
  obtain ⟨h1, rfl⟩ := List.getElem?_eq_some_iff.1 hx
  obtain ⟨h2, rfl⟩ := List.getElem?_eq_some_iff.1 hy
  exact (List.pairwise_iff_getElem.1 h) i j h1 h2 hij

end Go.Proofs.Ytpijnjhheikmcaa
