/- Rows of rows of rows of int64s: what reads so, what the call owns; the laws' small functions on them. -/
import Derived.Test.YtkojonjcikgikaaGrid
import Derived.Test.YtkojonjcikgikaaSeen
namespace Go.Proofs.Ytkojonjcikgikaa
open Go.RowKit

theorem infoSl2 : (Try.prog.info? 36).map (fun i => (i.zero, i.size, i.bytes)) = some (some (.slice none 0 0), 1, 24) := by kernel_rfl
/-- A row of rows: its head, and the heads of its rows. -/
abbrev Elt := Hdr × List Hdr
def ev (e : Elt) : Value := hvv e.1
def fpE (e : Elt) (b : Nat) : Prop := fpI e.1.1 b ∨ fpR e.2 b
/-- The slice (a, n) reads as rows of rows. -/
def Mat3 (w : World) (a : Option Addr) (n : Nat) (X : List (List (List Int))) : Prop :=
  ∃ hs : List Hdr, Vals w a n (hs.map hvv) ∧ X.length = n ∧ ∀ (j : Nat) (h : Hdr) (xss : List (List Int)), hs[j]? = some h → X[j]? = some xss → Mat w h.1 h.2.1 xss
theorem Mat3.length {w : World} {a : Option Addr} {n : Nat} {X : List (List (List Int))} (h : Mat3 w a n X) : X.length = n := by obtain ⟨_, _, h, _⟩ := h; exact h
theorem Mat3.le {w : World} {a : Option Addr} {n : Nat} {X : List (List (List Int))} (h : Mat3 w a n X) : n ≤ 9223372036854775807 := by obtain ⟨_, h, _⟩ := h; exact h.le
theorem Mat3.at {w : World} {a : Option Addr} {n k : Nat} {X : List (List (List Int))} (h : Mat3 w a n X) (hk : k < n) :
    ∃ b off a' n' c' xss, a = some ⟨b, off, none⟩ ∧ b < w.heap.size ∧ w.cell? ⟨b, off + k, none⟩ = some (.slice a' n' c') ∧ Hd (X[k]? = some xss) ∧ Mat w a' n' xss := by
  obtain ⟨hs, h1, h2, h3⟩ := h
  obtain ⟨b, off, v, e1, e2, e3, e4⟩ := h1.at hk
  have e4 := e4.o
  rw [List.getElem?_map, Option.map_eq_some_iff] at e4
  obtain ⟨hd, e5, rfl⟩ := e4
  have e6 : X[k]? = some (X[k]'(by omega)) := List.getElem?_eq_getElem (by omega)
  exact ⟨b, off, hd.1, hd.2.1, hd.2.2, _, e1, e2, e3, e6, h3 k hd _ e5 e6⟩
theorem Drew.rows3 {w w' : World} (h : Drew w w') {a : Option Addr} {n : Nat} {X : List (List (List Int))} (hx : Mat3 w a n X) : Mat3 w' a n X := by obtain ⟨m, rfl⟩ := h; exact hx
theorem Mat.drewN {w : World} {a : Option Addr} {n : Nat} {xss : List (List Int)} (h : Mat w a n xss) (m : Nat) : Mat (w.drewN m) a n xss := ((Drew.refl w).step m).rows h

/-- The rows of rows behind the elements E: each the call's own; apart from one another and from the row a. -/
structure In3 (w : World) (B : Nat) (a : Option Addr) (E : List Elt) (X : List (List (List Int))) : Prop where
  len : E.length = X.length
  row : ∀ (j : Nat) (e : Elt) (xss : List (List Int)), E[j]? = some e → X[j]? = some xss → OwnH w B e.1.1 e.1.2.1 e.1.2.2 e.2 xss
  off : ∀ e ∈ E, ∀ b, fpE e b → ¬ fpI a b
  two : E.Pairwise fun e e' => ∀ b, fpE e b → ¬ fpE e' b
def OwnRR (w : World) (B : Nat) (a : Option Addr) (n cap : Nat) (E : List Elt) (X : List (List (List Int))) : Prop := Own w B 36 a n cap (E.map ev) ∧ In3 w B a E X

theorem OwnH.all_lt {w : World} {B : Nat} {e : Elt} {xss : List (List Int)} (h : OwnH w B e.1.1 e.1.2.1 e.1.2.2 e.2 xss) : ∀ b, fpE e b → b < w.heap.size := by
  rintro b (⟨off, s, e1⟩ | h1)
  · exact (h.1.lt e1).2
  · exact h.fp_lt b h1
theorem OwnH.all_ge {w : World} {B : Nat} {e : Elt} {xss : List (List Int)} (h : OwnH w B e.1.1 e.1.2.1 e.1.2.2 e.2 xss) : ∀ b, fpE e b → B ≤ b := by
  rintro b (⟨off, s, e1⟩ | h1)
  · exact (h.1.lt e1).1
  · exact h.fp_ge b h1
theorem OwnH.grewE {w w' : World} {B : Nat} {c : Option Addr} {e : Elt} {xss : List (List Int)} (h : OwnH w B e.1.1 e.1.2.1 e.1.2.2 e.2 xss) (hg : Grew c w w') (hne : ∀ b, fpE e b → ¬ fpI c b) : OwnH w' B e.1.1 e.1.2.1 e.1.2.2 e.2 xss :=
  h.grew hg (fun b off s off' s' e1 e2 => hne b (.inl ⟨off, s, e1⟩) ⟨off', s', e2⟩) (fun x hx b off s off' s' e1 e2 => hne b (.inr ⟨x, hx, off, s, e1⟩) ⟨off', s', e2⟩)
theorem OwnH.wroteE {F : Nat → Prop} {w w' : World} {B : Nat} {e : Elt} {xss : List (List Int)} (h : OwnH w B e.1.1 e.1.2.1 e.1.2.2 e.2 xss) (hw : WroteF F w w') (hne : ∀ b, fpE e b → ¬ F b) : OwnH w' B e.1.1 e.1.2.1 e.1.2.2 e.2 xss :=
  h.wroteF hw ⟨fun b hb => hne b (.inl hb), fun x hx b hb => hne b (.inr ⟨x, hx, hb⟩)⟩

theorem In3.at {w : World} {B : Nat} {a : Option Addr} {E : List Elt} {X : List (List (List Int))} (h : In3 w B a E X) {e : Elt} (he : e ∈ E) : ∃ xss, OwnH w B e.1.1 e.1.2.1 e.1.2.2 e.2 xss := by
  obtain ⟨j, hj⟩ := List.getElem?_of_mem he
  have hl := (List.getElem?_eq_some_iff.1 hj).1
  exact ⟨_, h.row j e _ hj (List.getElem?_eq_getElem (by have := h.len; omega))⟩
theorem In3.map {w w' : World} {B B' : Nat} {a a' : Option Addr} {E : List Elt} {X : List (List (List Int))} (h : In3 w B a E X) (hr : ∀ e ∈ E, ∀ xss, OwnH w B e.1.1 e.1.2.1 e.1.2.2 e.2 xss → OwnH w' B' e.1.1 e.1.2.1 e.1.2.2 e.2 xss)
    (ho : ∀ e ∈ E, (∀ b, fpE e b → ¬ fpI a b) → ∀ b, fpE e b → ¬ fpI a' b) : In3 w' B' a' E X :=
  ⟨h.len, fun j e xss e1 e2 => hr e (List.mem_of_getElem? e1) xss (h.row j e xss e1 e2), fun e he => ho e he (h.off e he), h.two⟩
theorem In3.nil (w : World) (B : Nat) (a : Option Addr) : In3 w B a [] [] := ⟨rfl, by simp, by simp, List.Pairwise.nil⟩

theorem OwnRR.len {w : World} {B : Nat} {a : Option Addr} {n cap : Nat} {E : List Elt} {X : List (List (List Int))} (h : OwnRR w B a n cap E X) : E.length = n := by simpa using h.1.length
theorem OwnRR.length {w : World} {B : Nat} {a : Option Addr} {n cap : Nat} {E : List Elt} {X : List (List (List Int))} (h : OwnRR w B a n cap E X) : X.length = n := by rw [← h.2.len, h.len]
theorem OwnRR.le {w : World} {B : Nat} {a : Option Addr} {n cap : Nat} {E : List Elt} {X : List (List (List Int))} (h : OwnRR w B a n cap E X) : n ≤ 281474976710656 := h.1.le48
theorem OwnRR.up {w w' : World} {B : Nat} {a : Option Addr} {n cap : Nat} {E : List Elt} {X : List (List (List Int))} (h : OwnRR w B a n cap E X) (hb : Below w.heap.size w w') : OwnRR w' B a n cap E X :=
  ⟨h.1.up hb, h.2.map (fun _ _ _ k => k.up hb) (fun _ _ k => k)⟩
theorem OwnRR.mono {w : World} {B B' : Nat} {a : Option Addr} {n cap : Nat} {E : List Elt} {X : List (List (List Int))} (h : OwnRR w B a n cap E X) (hB : B' ≤ B) : OwnRR w B' a n cap E X :=
  ⟨h.1.mono hB, h.2.map (fun _ _ _ k => k.mono hB) (fun _ _ k => k)⟩
theorem Drew.ownRR {w w' : World} (h : Drew w w') {B : Nat} {a : Option Addr} {n cap : Nat} {E : List Elt} {X : List (List (List Int))} (hx : OwnRR w B a n cap E X) : OwnRR w' B a n cap E X :=
  ⟨h.own hx.1, hx.2.map (fun _ _ _ k => h.ownR k) (fun _ _ k => k)⟩
theorem OwnRR.rrows {w : World} {B : Nat} {a : Option Addr} {n cap : Nat} {E : List Elt} {X : List (List (List Int))} (h : OwnRR w B a n cap E X) : Mat3 w a n X :=
  ⟨E.map (·.1), by have := h.1.vals; rw [show E.map ev = (E.map (·.1)).map hvv by rw [List.map_map]; rfl] at this; exact this, h.length, fun j x xss e1 e2 => by
    rw [List.getElem?_map, Option.map_eq_some_iff] at e1
    obtain ⟨e, e3, rfl⟩ := e1
    exact (h.2.row j e xss e3 e2).rows⟩
/-- The blocks of the innermost rows. -/
def fp3 (E : List Elt) (b : Nat) : Prop := ∃ e ∈ E, fpR e.2 b
def OffRR (a : Option Addr) (E : List Elt) (F : Nat → Prop) : Prop := Off a F ∧ ∀ e ∈ E, ∀ b, fpE e b → ¬ F b
theorem OwnRR.fp_lt {w : World} {B : Nat} {a : Option Addr} {n cap : Nat} {E : List Elt} {X : List (List (List Int))} (h : OwnRR w B a n cap E X) : ∀ b, fp3 E b → b < w.heap.size := by
  rintro b ⟨e, he, hb⟩; obtain ⟨_, hr⟩ := h.2.at he; exact hr.fp_lt b hb
theorem OwnRR.fp_ge {w : World} {B : Nat} {a : Option Addr} {n cap : Nat} {E : List Elt} {X : List (List (List Int))} (h : OwnRR w B a n cap E X) : ∀ b, fp3 E b → B ≤ b := by
  rintro b ⟨e, he, hb⟩; obtain ⟨_, hr⟩ := h.2.at he; exact hr.fp_ge b hb
theorem OwnRR.off_new {w : World} {B : Nat} {a : Option Addr} {n cap : Nat} {E : List Elt} {X : List (List (List Int))} (h : OwnRR w B a n cap E X) {F : Nat → Prop} (hF : ∀ b, F b → w.heap.size ≤ b) : OffRR a E F :=
  ⟨fun b ⟨off, s, e⟩ f => by have := (h.1.lt e).2; have := hF b f; omega, fun e he b hb f => by obtain ⟨_, hr⟩ := h.2.at he; have := hr.all_lt b hb; have := hF b f; omega⟩
theorem OwnRR.off_old {w : World} {B : Nat} {a : Option Addr} {n cap : Nat} {E : List Elt} {X : List (List (List Int))} (h : OwnRR w B a n cap E X) {F : Nat → Prop} (hF : ∀ b, F b → b < B) : OffRR a E F :=
  ⟨fun b ⟨off, s, e⟩ f => by have := (h.1.lt e).1; have := hF b f; omega, fun e he b hb f => by obtain ⟨_, hr⟩ := h.2.at he; have := hr.all_ge b hb; have := hF b f; omega⟩
theorem OwnRR.wroteF {F : Nat → Prop} {w w' : World} {B : Nat} {a : Option Addr} {n cap : Nat} {E : List Elt} {X : List (List (List Int))} (h : OwnRR w B a n cap E X) (hw : WroteF F w w') (hne : OffRR a E F) : OwnRR w' B a n cap E X :=
  ⟨h.1.of_heap fun b off s ha => hw.block b (hne.1 b ⟨off, s, ha⟩), h.2.map (fun e he _ k => k.wroteE hw (hne.2 e he)) (fun _ _ k => k)⟩
theorem OwnRR.nil (w : World) (B : Nat) : OwnRR w B none 0 0 [] [] := ⟨Own.nil _ _ _, In3.nil _ _ _⟩
theorem OwnRR.emptyLit (w : World) {B : Nat} (hB : B ≤ w.heap.size) : OwnRR (w.alloc (.cells #[] 36)) B (some ⟨w.heap.size, 0, none⟩) 0 0 [] [] := ⟨Own.lit w [] _ (by simp) hB, In3.nil _ _ _⟩
theorem OwnRR.ge {w : World} {B : Nat} {a : Option Addr} {n cap : Nat} {E : List Elt} {X : List (List (List Int))} (h : OwnRR w B a n cap E X) : ∀ b off s, a = some ⟨b, off, s⟩ → B ≤ b := fun _ _ _ e => (h.1.lt e).1
/-- A row of rows that a call has just made is appended. -/
theorem OwnRR.snoc {w w1 w2 : World} {B : Nat} {c : Option Addr} {m capc : Nat} {E : List Elt} {X : List (List (List Int))} (h : OwnRR w B c m capc E X) (hb : Below w.heap.size w w1) {e : Elt} {xss : List (List Int)} (ho : OwnH w1 w.heap.size e.1.1 e.1.2.1 e.1.2.2 e.2 xss)
    (hB : B ≤ w.heap.size) {a2 : Option Addr} {n2 cap2 j : Nat} (hg : Grew c w1 w2) (ho2 : Own w2 B 36 a2 n2 cap2 (E.map ev ++ [ev e])) (ha2 : a2 = c ∨ a2 = some ⟨w1.heap.size + j, 0, none⟩) :
    OwnRR w2 B a2 n2 cap2 (E ++ [e]) (X ++ [xss]) := by
  have h1 := h.up hb
  have hcl : ∀ b, fpI c b → b < w.heap.size := fun b ⟨off, s, e1⟩ => (h.1.lt e1).2
  have hnew : ∀ b, fpE e b → w.heap.size ≤ b := ho.all_ge
  have hnl : ∀ b, fpE e b → b < w1.heap.size := ho.all_lt
  have hold : ∀ e' ∈ E, ∀ b, fpE e' b → b < w.heap.size := fun e' he' => by obtain ⟨_, hr⟩ := h.2.at he'; exact hr.all_lt
  have hs := hb.size
  have hoffc : ∀ b, fpE e b → ¬ fpI c b := fun b hb1 hb2 => by have := hnew b hb1; have := hcl b hb2; omega
  have hoff2 : ∀ e', (∀ b, fpE e' b → b < w1.heap.size) → (∀ b, fpE e' b → ¬ fpI c b) → ∀ b, fpE e' b → ¬ fpI a2 b := by
    intro e' hlt hne b hb1 hb2
    rcases ha2 with rfl | rfl
    · exact hne b hb1 hb2
    · obtain ⟨off, s, e1⟩ := hb2
      cases e1
      have := hlt _ hb1
      omega
  refine ⟨by rw [List.map_append]; exact ho2, by simp [h.2.len], fun i x ys e1 e2 => ?_, fun x hx => ?_, ?_⟩
  · by_cases hi : i < E.length
    · rw [List.getElem?_append_left hi] at e1
      rw [List.getElem?_append_left (by have := h.2.len; omega)] at e2
      exact (h1.2.row i x ys e1 e2).grewE hg (h.2.off x (List.mem_of_getElem? e1))
    · rw [List.getElem?_append_right (by omega)] at e1
      rw [List.getElem?_append_right (by have := h.2.len; omega)] at e2
      obtain ⟨_, rfl⟩ := List.getElem?_eq_some_iff.1 e1
      obtain ⟨_, rfl⟩ := List.getElem?_eq_some_iff.1 e2
      simp only [List.getElem_singleton]
      exact (ho.grewE hg hoffc).mono hB
  · rcases List.mem_append.1 hx with hx | hx
    · exact hoff2 x (fun b hb1 => by have := hold x hx b hb1; omega) (h.2.off x hx)
    · obtain rfl := List.mem_singleton.1 hx
      exact hoff2 x hnl hoffc
  · refine List.pairwise_append.2 ⟨h.2.two, List.pairwise_singleton _ _, fun x hx y hy => ?_⟩
    obtain rfl := List.mem_singleton.1 hy
    intro b hb1 hb2
    have := hold x hx b hb1
    have := hnew b hb2
    omega
theorem OwnRR.grewBelow {w w2 w0 : World} {B : Nat} {c : Option Addr} {m capc : Nat} {E : List Elt} {X : List (List (List Int))} {w1 : World} (h : OwnRR w B c m capc E X) (hg : Grew c w1 w2) (hb : Below B w0 w1) (hB : B ≤ w1.heap.size) : Below B w0 w2 :=
  hb.trans (hg.below hB h.ge)
/-- What a call that makes rows of rows hands back. -/
def MakesRR (R : Ending → World → Prop) (w : World) (X : List (List (List Int))) : Prop :=
  ∀ a n cap E w', Below w.heap.size w w' → OwnRR w' w.heap.size a n cap E X → R (.returned (.slice a n cap)) w'

def cells3 (X : List (List (List Int))) : Nat := (X.map cells).sum
theorem cells_marksR : ∀ (k : Int) (xss : List (List Int)), cells (marksR k xss) = cells xss
  | _, [] => rfl
  | k, xs :: t => by
    have := cells_marksR (k + xs.length) t
    unfold cells at this ⊢
    simp [marksR, marks_length, this]
def marks3 : Int → List (List (List Int)) → List (List (List Int))
  | _, [] => []
  | k, xss :: t => marksR k xss :: marks3 (k + cells xss) t
theorem marks3_length : ∀ (k : Int) (X : List (List (List Int))), (marks3 k X).length = X.length
  | _, [] => rfl
  | k, xss :: t => by simp [marks3, marks3_length (k + cells xss) t]
theorem marks3_get : ∀ (k : Int) (X : List (List (List Int))) (j : Nat) (xss : List (List Int)), X[j]? = some xss → (marks3 k X)[j]? = some (marksR (k + (cells3 (X.take j) : Nat)) xss)
  | _, [], _, _, h => by simp at h
  | k, x :: t, 0, xss, h => by simp at h; subst h; simp [marks3, cells3]
  | k, x :: t, j + 1, xss, h => by
    simp at h
    rw [marks3, List.getElem?_cons_succ, marks3_get (k + cells x) t j xss h]
    simp [cells3]
    congr 1
    omega
theorem cells3_take_succ {X : List (List (List Int))} {k : Nat} {xss : List (List Int)} (h : X[k]? = some xss) : cells3 (X.take (k + 1)) = cells3 (X.take k) + cells xss := by
  have h1 : (X.map cells)[k]? = some (cells xss) := by rw [List.getElem?_map, h]; rfl
  unfold cells3
  rw [List.map_take, List.map_take]
  exact sum_take_succ h1
theorem cells3_take_le (X : List (List (List Int))) (k : Nat) : cells3 (X.take k) ≤ cells3 X := by
  unfold cells3
  rw [List.map_take]
  exact sum_take_le _ _
def marks3To (k : Int) (X : List (List (List Int))) (j : Nat) : List (List (List Int)) := (marks3 k X).take j ++ X.drop j
theorem marks3To_length (k : Int) (X : List (List (List Int))) (j : Nat) : (marks3To k X j).length = X.length := by simp [marks3To, marks3_length]; omega
theorem marks3To_get (k : Int) (X : List (List (List Int))) (j i : Nat) : (marks3To k X j)[i]? = if i < j then (marks3 k X)[i]? else X[i]? := by
  unfold marks3To
  by_cases hl : j ≤ X.length
  · have e : ((marks3 k X).take j).length = j := by simp [marks3_length]; omega
    split
    · rw [List.getElem?_append_left (by omega), List.getElem?_take, if_pos (by omega)]
    · rw [List.getElem?_append_right (by omega), e, List.getElem?_drop]
      congr 1; omega
  · rw [List.drop_of_length_le (by omega), List.append_nil, List.take_of_length_le (by rw [marks3_length]; omega)]
    split
    · rfl
    · rw [List.getElem?_eq_none (by rw [marks3_length]; omega), List.getElem?_eq_none (by omega)]
theorem two_off {E : List Elt} (h : E.Pairwise fun e e' => ∀ b, fpE e b → ¬ fpE e' b) {i j : Nat} {x y : Elt} (hij : i ≠ j) (hx : E[i]? = some x) (hy : E[j]? = some y) : ∀ b, fpE x b → ¬ fpE y b := by
  rcases Nat.lt_or_gt_of_ne hij with hlt | hgt
  · have hp := (List.pairwise_iff_getElem.1 h) i j (List.getElem?_eq_some_iff.1 hx).1 (List.getElem?_eq_some_iff.1 hy).1 hlt
    rw [(List.getElem?_eq_some_iff.1 hx).2, (List.getElem?_eq_some_iff.1 hy).2] at hp
    exact hp
  · have hp := (List.pairwise_iff_getElem.1 h) j i (List.getElem?_eq_some_iff.1 hy).1 (List.getElem?_eq_some_iff.1 hx).1 hgt
    rw [(List.getElem?_eq_some_iff.1 hx).2, (List.getElem?_eq_some_iff.1 hy).2] at hp
    exact fun b h1 h2 => hp b h2 h1

end Go.Proofs.Ytkojonjcikgikaa
