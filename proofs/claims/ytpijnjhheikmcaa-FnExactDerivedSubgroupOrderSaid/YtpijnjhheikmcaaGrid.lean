/- Mat of rows of int64s: what came in, what the call owns; and the laws' small functions on them. -/
import Derived.Test.YtpijnjhheikmcaaBase
import Derived.Test.YtpijnjhheikmcaaApp
namespace Go.Proofs.Ytpijnjhheikmcaa
open Go.RowKit


/-- A slice's head: the address, the length, the capacity. -/
abbrev Hdr := Option Addr × Nat × Nat
def hvv (h : Hdr) : Value := .slice h.1 h.2.1 h.2.2

/-- The slice (a, n) reads as rows of int64s. -/
def Mat (w : World) (a : Option Addr) (n : Nat) (xss : List (List Int)) : Prop :=
  ∃ hs : List Hdr, Vals w a n (hs.map hvv) ∧ xss.length = n ∧ ∀ (j : Nat) (h : Hdr) (xs : List Int), hs[j]? = some h → xss[j]? = some xs → Ints w h.1 h.2.1 xs ∧ h.2.1 ≤ h.2.2

theorem Mat.length {w : World} {a : Option Addr} {n : Nat} {xss : List (List Int)} (h : Mat w a n xss) : xss.length = n := by obtain ⟨_, _, h, _⟩ := h; exact h
theorem Mat.le {w : World} {a : Option Addr} {n : Nat} {xss : List (List Int)} (h : Mat w a n xss) : n ≤ 9223372036854775807 := by obtain ⟨_, h, _⟩ := h; exact h.le
theorem Mat.nil {w : World} (a : Option Addr) : Mat w a 0 [] := ⟨[], Vals.nil a, rfl, by simp⟩
theorem Mat.of_open {w : World} {x : Addr} {l c : Nat} {A : Nat → Option Addr} {L C : Nat → Nat} {Z : Nat → List Int} {base : Nat} (hl : l ≤ c) (hm : c ≤ maxLen)
    (hrow : ∀ r, r < c → w.cell? (x.add r) = some (.slice (A r) (L r) (C r)) ∧ L r ≤ C r ∧ C r ≤ maxLen ∧ (Z r).length = C r ∧ (∀ n ∈ Z r, (Lit.int .i64 n).wf = true) ∧ (A r = none → C r = 0) ∧
        ∀ a', A r = some a' → base ≤ a'.block ∧ ∀ j, j < C r → w.cell? (a'.add j) = some (.int .i64 ((Z r).getD j 0))) : Mat w (some x) l ((List.range l).map fun r => (Z r).take (L r)) := by
  rw [maxLen_eq] at hm
  refine ⟨(List.range l).map fun r => (A r, L r, C r), ⟨by simp, by omega, ?_⟩, by simp, ?_⟩
  · by_cases h0 : l = 0
    · exact .inl h0
    · right
      have h := (hrow 0 (by omega)).1
      have hs : x.spot = none := by
        rw [show x.add 0 = x from by simp [Addr.add]] at h
        unfold World.cell? at h
        split at h
        · split at h
          · cases h
          · rename_i hs; simpa using hs
        · cases h
      refine ⟨x.block, x.off, by rw [← hs], fun j v hv => ?_⟩
      have hj : j < l := by have := (List.getElem?_eq_some_iff.1 hv).1; simpa using this
      simp [hj] at hv
      refine Eq.trans ?_ ((hrow j (by omega)).1.trans (congrArg some hv))
      congr 1
      unfold Addr.add
      split
      · rename_i hj; subst hj; simp [← hs]
      · rfl
  · intro j h xs e e'
    have hj : j < l := by have := (List.getElem?_eq_some_iff.1 e).1; simpa using this
    simp [hj] at e e'
    subst e; subst e'
    obtain ⟨r1, r2, r3, r4, r5, r6, r7⟩ := hrow j (by omega)
    refine ⟨?_, r2⟩
    cases hA : A j with
    | none =>
      have h0 := r6 hA
      have : L j = 0 := by omega
      simp only [this, List.take_zero]
      exact Ints.nil _
    | some a' => exact Ints.of_open r2 r3 r4 (fun i hi => (r7 a' hA).2 i (by omega)) r5

theorem Mat.up {w w' : World} {a : Option Addr} {n : Nat} {xss : List (List Int)} (h : Mat w a n xss) (hb : Below w.heap.size w w') : Mat w' a n xss := by
  obtain ⟨hs, h1, h2, h3⟩ := h
  exact ⟨hs, h1.up hb, h2, fun j h xs e e' => ⟨(h3 j h xs e e').1.up hb, (h3 j h xs e e').2⟩⟩
theorem Drew.vals {w w' : World} (h : Drew w w') {a : Option Addr} {n : Nat} {vs : List Value} (hx : Vals w a n vs) : Vals w' a n vs := by obtain ⟨m, rfl⟩ := h; exact hx
theorem Drew.rows {w w' : World} (h : Drew w w') {a : Option Addr} {n : Nat} {xss : List (List Int)} (hx : Mat w a n xss) : Mat w' a n xss := by obtain ⟨m, rfl⟩ := h; exact hx
theorem Mat.at {w : World} {a : Option Addr} {n k : Nat} {xss : List (List Int)} (h : Mat w a n xss) (hk : k < n) :
    ∃ b off a' n' c' xs, a = some ⟨b, off, none⟩ ∧ b < w.heap.size ∧ w.cell? ⟨b, off + k, none⟩ = some (.slice a' n' c') ∧ Hd (xss[k]? = some xs) ∧ Ints w a' n' xs ∧ n' ≤ c' := by
  obtain ⟨hs, h1, h2, h3⟩ := h
  obtain ⟨b, off, v, e1, e2, e3, e4⟩ := h1.at hk
  have e4 := e4.o
  rw [List.getElem?_map, Option.map_eq_some_iff] at e4
  obtain ⟨hd, e5, rfl⟩ := e4
  have e6 : xss[k]? = some (xss[k]'(by omega)) := List.getElem?_eq_getElem (by omega)
  obtain ⟨i1, i2⟩ := h3 k hd _ e5 e6
  exact ⟨b, off, hd.1, hd.2.1, hd.2.2, _, e1, e2, e3, e6, i1, i2⟩

/-- The rows behind the heads hs: each the call's own, from block B on; apart from one another and from the row a. -/
structure Inner (w : World) (B : Nat) (a : Option Addr) (hs : List Hdr) (xss : List (List Int)) : Prop where
  len : hs.length = xss.length
  row : ∀ (j : Nat) (h : Hdr) (xs : List Int), hs[j]? = some h → xss[j]? = some xs → OwnI w B h.1 h.2.1 h.2.2 xs
  off : ∀ h ∈ hs, Apart h.1 a
  two : hs.Pairwise fun h h' => Apart h.1 h'.1

/-- A row of rows of the call's own. -/
def OwnH (w : World) (B : Nat) (a : Option Addr) (n cap : Nat) (hs : List Hdr) (xss : List (List Int)) : Prop := Own w B 23 a n cap (hs.map hvv) ∧ Inner w B a hs xss

/-- The block of a row; the blocks of rows. -/
def fpI (a : Option Addr) (b : Nat) : Prop := ∃ off s, a = some ⟨b, off, s⟩
def fpR (hs : List Hdr) (b : Nat) : Prop := ∃ h ∈ hs, fpI h.1 b
def Off (a : Option Addr) (F : Nat → Prop) : Prop := ∀ b, fpI a b → ¬ F b
def OffR (a : Option Addr) (hs : List Hdr) (F : Nat → Prop) : Prop := Off a F ∧ ∀ h ∈ hs, Off h.1 F
/-- Of the memory at most the blocks F have turned; nothing new has come. -/
structure WroteF (F : Nat → Prop) (w w' : World) : Prop where
  os : w'.os = w.os
  tape : w'.tape = w.tape
  output : w'.output = w.output
  size : w'.heap.size = w.heap.size
  block : ∀ k, ¬ F k → w'.heap[k]? = w.heap[k]?
theorem Wrote.f {a : Option Addr} {w w' : World} (h : Wrote a w w') : WroteF (fpI a) w w' := ⟨h.os, h.tape, h.output, h.size, fun k hk => h.block k fun off s e => hk ⟨off, s, e⟩⟩
theorem WroteF.refl (F : Nat → Prop) (w : World) : WroteF F w w := ⟨rfl, rfl, rfl, rfl, fun _ _ => rfl⟩
theorem WroteF.trans {F : Nat → Prop} {a b c : World} (h : WroteF F a b) (k : WroteF F b c) : WroteF F a c :=
  ⟨k.os.trans h.os, k.tape.trans h.tape, k.output.trans h.output, k.size.trans h.size, fun j hj => (k.block j hj).trans (h.block j hj)⟩
theorem WroteF.mono {F G : Nat → Prop} {a b : World} (h : WroteF F a b) (hs : ∀ k, F k → G k) : WroteF G a b := ⟨h.os, h.tape, h.output, h.size, fun j hj => h.block j fun e => hj (hs j e)⟩
theorem WroteF.below {F : Nat → Prop} {w w' : World} (h : WroteF F w w') {B : Nat} (hB : ∀ b, F b → B ≤ b) : Below B w w' :=
  ⟨h.os, h.tape, h.output, by rw [h.size]; exact Nat.le_refl _, fun k hk => h.block k (fun e => by have := hB k e; omega)⟩
theorem OwnI.wroteF {F : Nat → Prop} {w w' : World} {B : Nat} {a : Option Addr} {n cap : Nat} {xs : List Int} (h : OwnI w B a n cap xs) (hw : WroteF F w w') (hne : Off a F) : OwnI w' B a n cap xs :=
  ⟨h.1.of_heap fun b off s ha => hw.block b (hne b ⟨off, s, ha⟩), h.2⟩
theorem OwnI.fp_lt {w : World} {B : Nat} {a : Option Addr} {n cap : Nat} {xs : List Int} (h : OwnI w B a n cap xs) : ∀ b, fpI a b → b < w.heap.size := fun _ ⟨_, _, e⟩ => (h.1.lt e).2
theorem OwnI.fp_ge {w : World} {B : Nat} {a : Option Addr} {n cap : Nat} {xs : List Int} (h : OwnI w B a n cap xs) : ∀ b, fpI a b → B ≤ b := fun _ ⟨_, _, e⟩ => (h.1.lt e).1
theorem OwnI.off_new {w : World} {B : Nat} {a : Option Addr} {n cap : Nat} {xs : List Int} (h : OwnI w B a n cap xs) {F : Nat → Prop} (hF : ∀ b, F b → w.heap.size ≤ b) : Off a F := fun b e f => by have := h.fp_lt b e; have := hF b f; omega
theorem OwnI.off_old {w : World} {B : Nat} {a : Option Addr} {n cap : Nat} {xs : List Int} (h : OwnI w B a n cap xs) {F : Nat → Prop} (hF : ∀ b, F b → b < B) : Off a F := fun b e f => by have := h.fp_ge b e; have := hF b f; omega

theorem Inner.at {w : World} {B : Nat} {a : Option Addr} {hs : List Hdr} {xss : List (List Int)} (h : Inner w B a hs xss) {x : Hdr} (hx : x ∈ hs) : ∃ xs, OwnI w B x.1 x.2.1 x.2.2 xs := by
  obtain ⟨j, hj⟩ := List.getElem?_of_mem hx
  have hl := (List.getElem?_eq_some_iff.1 hj).1
  exact ⟨_, h.row j x _ hj (List.getElem?_eq_getElem (by have := h.len; omega))⟩
theorem Inner.map {w w' : World} {B B' : Nat} {a a' : Option Addr} {hs : List Hdr} {xss : List (List Int)} (h : Inner w B a hs xss) (hr : ∀ x ∈ hs, ∀ xs, OwnI w B x.1 x.2.1 x.2.2 xs → OwnI w' B' x.1 x.2.1 x.2.2 xs) (ho : ∀ x ∈ hs, Apart x.1 a → Apart x.1 a') : Inner w' B' a' hs xss :=
  ⟨h.len, fun j x xs e e' => hr x (List.mem_of_getElem? e) xs (h.row j x xs e e'), fun x hx => ho x hx (h.off x hx), h.two⟩
theorem Inner.up {w w' : World} {B : Nat} {a : Option Addr} {hs : List Hdr} {xss : List (List Int)} (h : Inner w B a hs xss) (hb : Below w.heap.size w w') : Inner w' B a hs xss := h.map (fun _ _ _ k => k.up hb) (fun _ _ k => k)
theorem Inner.mono {w : World} {B B' : Nat} {a : Option Addr} {hs : List Hdr} {xss : List (List Int)} (h : Inner w B a hs xss) (hB : B' ≤ B) : Inner w B' a hs xss := h.map (fun _ _ _ k => k.mono hB) (fun _ _ k => k)
theorem Inner.store {w : World} {B g : Nat} {hs : List Hdr} {xss : List (List Int)} (h : Inner w B (some ⟨g, 0, none⟩) hs xss) (k : Nat) (u : Value) : Inner (w.setCell ⟨g, k, none⟩ u) B (some ⟨g, 0, none⟩) hs xss :=
  h.map (fun x hx _ e => e.store_other k u (h.off x hx).symm) (fun _ _ k => k)
theorem Inner.nil (w : World) (B : Nat) (a : Option Addr) : Inner w B a [] [] := ⟨rfl, by simp, by simp, List.Pairwise.nil⟩
/-- A newest row joins. -/
theorem Inner.snoc {w w' : World} {B : Nat} {a : Option Addr} {hs : List Hdr} {xss : List (List Int)} (h : Inner w B a hs xss) (hb : Below w.heap.size w w') (ha : ABelow a w.heap.size) {a' : Option Addr} {n cap : Nat} {xs : List Int}
    (ho : OwnI w' w.heap.size a' n cap xs) (hB : B ≤ w.heap.size) : Inner w' B a (hs ++ [(a', n, cap)]) (xss ++ [xs]) := by
  have hnew : ∀ c, ABelow c w.heap.size → Apart c a' := fun c hc => Apart.of_lt hc ho.ge
  refine ⟨by simp [h.len], fun j x ys e e' => ?_, fun x hx => ?_, ?_⟩
  · by_cases hj : j < hs.length
    · rw [List.getElem?_append_left hj] at e
      rw [List.getElem?_append_left (by have := h.len; omega)] at e'
      exact (h.row j x ys e e').up hb
    · rw [List.getElem?_append_right (by omega)] at e
      rw [List.getElem?_append_right (by have := h.len; omega)] at e'
      obtain ⟨hl, rfl⟩ := List.getElem?_eq_some_iff.1 e
      obtain ⟨hl', rfl⟩ := List.getElem?_eq_some_iff.1 e'
      simp only [List.getElem_singleton]
      exact ho.mono hB
  · rcases List.mem_append.1 hx with hx | hx
    · exact h.off x hx
    · obtain rfl := List.mem_singleton.1 hx
      exact (hnew a ha).symm
  · refine List.pairwise_append.2 ⟨h.two, List.pairwise_singleton _ _, fun x hx y hy => ?_⟩
    obtain rfl := List.mem_singleton.1 hy
    obtain ⟨ys, hr⟩ := h.at hx
    exact hnew x.1 hr.abelow

theorem OwnH.len {w : World} {B : Nat} {a : Option Addr} {n cap : Nat} {hs : List Hdr} {xss : List (List Int)} (h : OwnH w B a n cap hs xss) : hs.length = n := by simpa using h.1.length
theorem OwnH.length {w : World} {B : Nat} {a : Option Addr} {n cap : Nat} {hs : List Hdr} {xss : List (List Int)} (h : OwnH w B a n cap hs xss) : xss.length = n := by rw [← h.2.len, h.len]
theorem OwnH.le {w : World} {B : Nat} {a : Option Addr} {n cap : Nat} {hs : List Hdr} {xss : List (List Int)} (h : OwnH w B a n cap hs xss) : n ≤ 281474976710656 := h.1.le48
theorem OwnH.up {w w' : World} {B : Nat} {a : Option Addr} {n cap : Nat} {hs : List Hdr} {xss : List (List Int)} (h : OwnH w B a n cap hs xss) (hb : Below w.heap.size w w') : OwnH w' B a n cap hs xss := ⟨h.1.up hb, h.2.up hb⟩
theorem OwnH.mono {w : World} {B B' : Nat} {a : Option Addr} {n cap : Nat} {hs : List Hdr} {xss : List (List Int)} (h : OwnH w B a n cap hs xss) (hB : B' ≤ B) : OwnH w B' a n cap hs xss := ⟨h.1.mono hB, h.2.mono hB⟩
theorem OwnI.drewW {w w' : World} (h : Drew w w') {B : Nat} {a : Option Addr} {n cap : Nat} {xs : List Int} (hx : OwnI w B a n cap xs) : OwnI w' B a n cap xs := h.ownI hx
theorem Drew.ownR {w w' : World} (h : Drew w w') {B : Nat} {a : Option Addr} {n cap : Nat} {hs : List Hdr} {xss : List (List Int)} (hx : OwnH w B a n cap hs xss) : OwnH w' B a n cap hs xss := ⟨h.own hx.1, hx.2.map (fun _ _ _ k => h.ownI k) (fun _ _ k => k)⟩
theorem OwnH.rows {w : World} {B : Nat} {a : Option Addr} {n cap : Nat} {hs : List Hdr} {xss : List (List Int)} (h : OwnH w B a n cap hs xss) : Mat w a n xss :=
  ⟨hs, h.1.vals, h.length, fun j x xs e e' => ⟨(h.2.row j x xs e e').ints, (h.2.row j x xs e e').cap⟩⟩
theorem OwnH.fp_lt {w : World} {B : Nat} {a : Option Addr} {n cap : Nat} {hs : List Hdr} {xss : List (List Int)} (h : OwnH w B a n cap hs xss) : ∀ b, fpR hs b → b < w.heap.size := by
  rintro b ⟨x, hx, e⟩; obtain ⟨ys, hr⟩ := h.2.at hx; exact hr.fp_lt b e
theorem OwnH.fp_ge {w : World} {B : Nat} {a : Option Addr} {n cap : Nat} {hs : List Hdr} {xss : List (List Int)} (h : OwnH w B a n cap hs xss) : ∀ b, fpR hs b → B ≤ b := by
  rintro b ⟨x, hx, e⟩; obtain ⟨ys, hr⟩ := h.2.at hx; exact hr.fp_ge b e
theorem OwnH.off_new {w : World} {B : Nat} {a : Option Addr} {n cap : Nat} {hs : List Hdr} {xss : List (List Int)} (h : OwnH w B a n cap hs xss) {F : Nat → Prop} (hF : ∀ b, F b → w.heap.size ≤ b) : OffR a hs F :=
  ⟨fun b ⟨off, s, e⟩ f => by have := (h.1.lt e).2; have := hF b f; omega, fun x hx b e f => by have := h.fp_lt b ⟨x, hx, e⟩; have := hF b f; omega⟩
theorem OwnH.off_old {w : World} {B : Nat} {a : Option Addr} {n cap : Nat} {hs : List Hdr} {xss : List (List Int)} (h : OwnH w B a n cap hs xss) {F : Nat → Prop} (hF : ∀ b, F b → b < B) : OffR a hs F :=
  ⟨fun b ⟨off, s, e⟩ f => by have := (h.1.lt e).1; have := hF b f; omega, fun x hx b e f => by have := h.fp_ge b ⟨x, hx, e⟩; have := hF b f; omega⟩
theorem OwnH.wroteF {F : Nat → Prop} {w w' : World} {B : Nat} {a : Option Addr} {n cap : Nat} {hs : List Hdr} {xss : List (List Int)} (h : OwnH w B a n cap hs xss) (hw : WroteF F w w') (hne : OffR a hs F) : OwnH w' B a n cap hs xss :=
  ⟨h.1.of_heap fun b off s ha => hw.block b (hne.1 b ⟨off, s, ha⟩), h.2.map (fun x hx _ e => e.wroteF hw (hne.2 x hx)) (fun _ _ k => k)⟩

/-- A row that a call has just made is appended. -/
theorem OwnH.snoc {w w1 w2 : World} {B : Nat} {c : Option Addr} {m capc : Nat} {hs : List Hdr} {yss : List (List Int)} (h : OwnH w B c m capc hs yss) (hb : Below w.heap.size w w1) {a' : Option Addr} {n' cap' : Nat} {ys : List Int} (ho : OwnI w1 w.heap.size a' n' cap' ys)
    (hB : B ≤ w.heap.size) {a2 : Option Addr} {n2 cap2 j : Nat} (hg : Grew c w1 w2) (ho2 : Own w2 B 23 a2 n2 cap2 (hs.map hvv ++ [.slice a' n' cap'])) (ha2 : a2 = c ∨ a2 = some ⟨w1.heap.size + j, 0, none⟩) :
    OwnH w2 B a2 n2 cap2 (hs ++ [(a', n', cap')]) (yss ++ [ys]) := by
  have hin := h.2.snoc hb h.1.abelow ho hB
  refine ⟨by rw [List.map_append]; exact ho2, hin.len, fun j x xs e e' => ?_, fun x hx => ?_, hin.two⟩
  · exact hg.ownI (hin.row j x xs e e') (hin.off x (List.mem_of_getElem? e))
  · obtain ⟨xs, hr⟩ := hin.at hx
    exact Apart.grown (hin.off x hx) hr.abelow ha2
theorem OwnH.ge {w : World} {B : Nat} {a : Option Addr} {n cap : Nat} {hs : List Hdr} {xss : List (List Int)} (h : OwnH w B a n cap hs xss) : ∀ b off s, a = some ⟨b, off, s⟩ → B ≤ b := fun _ _ _ e => (h.1.lt e).1
theorem OwnH.nil (w : World) (B : Nat) : OwnH w B none 0 0 [] [] := ⟨Own.nil _ _ _, Inner.nil _ _ _⟩
theorem OwnH.emptyLit (w : World) {B : Nat} (hB : B ≤ w.heap.size) : OwnH (w.alloc (.cells #[] 23)) B (some ⟨w.heap.size, 0, none⟩) 0 0 [] [] := ⟨Own.lit w [] _ (by simp) hB, Inner.nil _ _ _⟩
theorem OwnH.grewBelow {w w1 w2 w0 : World} {B : Nat} {c : Option Addr} {m capc : Nat} {hs : List Hdr} {yss : List (List Int)} (h : OwnH w B c m capc hs yss) (hg : Grew c w1 w2) (hb : Below B w0 w1) (hB : B ≤ w1.heap.size) : Below B w0 w2 :=
  hb.trans (hg.below hB h.ge)

/-- What a call that makes rows of int64s hands back. -/
def MakesR (R : Ending → World → Prop) (w : World) (yss : List (List Int)) : Prop :=
  ∀ a n cap hs w', Below w.heap.size w w' → OwnH w' w.heap.size a n cap hs yss → R (.returned (.slice a n cap)) w'

/-- How many there are, the rows counted too. -/
def bulk (xss : List (List Int)) : Nat := xss.length + (xss.map List.length).sum
theorem sum_take_le (l : List Nat) : ∀ k : Nat, (l.take k).sum ≤ l.sum := by
  intro k
  have := congrArg List.sum (List.take_append_drop k l)
  rw [List.sum_append] at this
  omega
theorem sum_take_succ {l : List Nat} {k x : Nat} (h : l[k]? = some x) : (l.take (k + 1)).sum = (l.take k).sum + x := by
  rw [take_succ_some h, List.sum_append]; simp
theorem bulk_row {xss : List (List Int)} {k : Nat} {xs : List Int} (h : xss[k]? = some xs) : xs.length ≤ bulk xss := by
  have h1 : (xss.map List.length)[k]? = some xs.length := by rw [List.getElem?_map, h]; rfl
  have h2 := sum_take_succ h1
  have h3 := sum_take_le (xss.map List.length) (k + 1)
  unfold bulk
  omega

theorem szInt64S_c {R : Ending → World → Prop} (a : Option Addr) (n cap : Nat) (left : Int) (w : World) (hl : 0 ≤ left ∧ left ≤ 1048576) (hn : n ≤ 9223372036854775807) (H : R (.returned (.int .i64 (if (n : Int) ≤ left then left - n else -1))) w) :
    Calls Try.prog 47 #[.slice a n cap, .int .i64 left] w R := by
  have H' := Hd.i H; clear H
  by_cases h : (n : Int) ≤ left
  · go_enter Try.func47, Try.ntmps47
    go_wp2
    exact retI H' (by rw [if_pos h])
  · have h2 : left - (n : Int) < 0 := by omega
    go_enter Try.func47, Try.ntmps47
    go_wp2
    exact retI H' (by rw [if_neg (by omega)])

set_option maxHeartbeats 400000 in
theorem szInt64SS_c {R : Ending → World → Prop} (a : Option Addr) (n cap : Nat) (xss : List (List Int)) (left : Nat) (w : World) (hx : Mat w a n xss) (hl : left ≤ 1048576) (H : R (.returned (.int .i64 (if bulk xss ≤ left then (left : Int) - bulk xss else -1))) w) :
    Calls Try.prog 15 #[.slice a n cap, .int .i64 left] w R := by
  have H' := Hd.i H; clear H
  have hln := Hd.i hx.length
  have hle := hx.le
  by_cases h : n ≤ left
  · have h2 : ¬ ((left : Int) - (n : Int) < 0) := by omega
    go_enter Try.func15, Try.ntmps15
    go_wp2
    go_loop [1, 5] (fun l i => ∃ (k : Nat) (r : Int), k ≤ n ∧ i = .int .i64 k ∧ l = .int .i64 r ∧ 0 ≤ r ∧ r ≤ left ∧ Hd (r + n + ((xss.map List.length).take k).sum = left)) (fun _ i => n - (intOf i).toNat)
    case atStart => exact ⟨0, _, Nat.zero_le _, rfl, rfl, by omega, by omega, by show _ = _; simp⟩
    case round =>
      obtain ⟨k, r, hk, rfl, rfl, hr0, hr1, hr⟩ := hrel
      by_cases hlt : k < n
      · obtain ⟨b, off, a', n', c', xs, rfl, hb, hcell, hxs, hin, _⟩ := hx.at hlt
        have hl' := hin.le
        have e : (xss.map List.length)[k]? = some n' := by rw [List.getElem?_map, hxs.o, ← hin.length]; rfl
        have es := Hd.i (sum_take_succ e)
        clear e
        by_cases hf : (n' : Int) ≤ r
        · go_wp2_with (go_at_call 47; refine szInt64S_c _ _ _ _ _ (by omega) hl' ?_; rw [if_pos hf])
          go_round
          case rel => exact ⟨k + 1, _, by omega, by go_num, rfl, by omega, by omega, by have := hr.o; have := es.o; show _ = _; omega⟩
          case measure => simp [intOf]; omega
        · go_wp2_with (go_at_call 47; refine szInt64S_c _ _ _ _ _ (by omega) hl' ?_; rw [if_neg hf])
          refine retI H' ?_
          have := sum_take_le (xss.map List.length) (k + 1)
          have := hr.o; have := es.o; have := hln.o
          rw [if_neg (by unfold bulk; omega)]
      · obtain rfl : k = n := by omega
        go_wp2
        refine retI H' ?_
        have := hr.o
        have := hln.o
        rw [List.take_of_length_le (by simp; omega)] at *
        rw [if_pos (by unfold bulk; omega)]
        unfold bulk; omega
  · have h2 : (left : Int) - (n : Int) < 0 := by omega
    go_enter Try.func15, Try.ntmps15
    go_wp2
    refine retI H' ?_
    have := hln.o
    rw [if_neg (by unfold bulk; omega)]

theorem szInt64SS_over {R : Ending → World → Prop} (a : Option Addr) (n cap : Nat) (xss : List (List Int)) (left : Nat) (z : Int) (w : World) (hx : Mat w a n xss) (hl : left ≤ 1048576) (hz : Hd (z = left)) (hf : ¬ bulk xss ≤ left) (H : R (.returned (.int .i64 (-1))) w) :
    Calls Try.prog 15 #[.slice a n cap, .int .i64 z] w R := by
  rw [hz.o]
  refine szInt64SS_c a n cap xss left w hx hl ?_
  rw [if_neg hf]; exact H
theorem szInt64SS_fit {R : Ending → World → Prop} (a : Option Addr) (n cap : Nat) (xss : List (List Int)) (left : Nat) (z : Int) (w : World) (hx : Mat w a n xss) (hl : left ≤ 1048576) (hz : Hd (z = left)) (hf : bulk xss ≤ left)
    (H : ∀ r : Int, Hd (r = ((left - bulk xss : Nat) : Int)) → 0 ≤ r → R (.returned (.int .i64 r)) w) :
    Calls Try.prog 15 #[.slice a n cap, .int .i64 z] w R := by
  rw [hz.o]
  refine szInt64SS_c a n cap xss left w hx hl ?_
  rw [if_pos hf]
  exact H _ (show _ = _ by omega) (by omega)

set_option maxHeartbeats 1000000 in
theorem toInt64SS_c {R : Ending → World → Prop} (a : Option Addr) (n cap : Nat) (xss : List (List Int)) (w : World) (hx : Mat w a n xss) (hn : bulk xss ≤ 1048576) (H : MakesR R w xss) :
    Calls Try.prog 17 #[.slice a n cap] w R := by
  have H' := Hd.i H; clear H
  have hln := Hd.i hx.length
  have hn1 : n ≤ 1048576 := by have := hln.o; unfold bulk at hn; omega
  replace hn := Hd.i hn
  obtain ⟨w1, hmk, hs1, hb1, how1⟩ := make_own w 22 23 (.slice none 0 0) 24 Try.underlying22 infoSl rfl n (by omega) (by omega)
  go_enter Try.func17, Try.ntmps17
  go_wp2
  go_loopw [4] (fun i wr => ∃ (k : Nat) (hs : List Hdr), k ≤ n ∧ i = .int .i64 k ∧ Own wr w.heap.size 23 (some ⟨w.heap.size, 0, none⟩) n n (hs.map hvv ++ List.replicate (n - k) (.slice none 0 0)) ∧ Below w.heap.size w wr ∧ Hd (w.heap.size + 1 ≤ wr.heap.size) ∧ Inner wr w.heap.size (some ⟨w.heap.size, 0, none⟩) hs (xss.take k))
    (fun i _ => n - (intOf i).toNat)
  case atStart => exact ⟨0, [], Nat.zero_le _, rfl, by simpa using how1, hb1, Nat.le_of_eq hs1.o.symm, by simpa using Inner.nil _ _ _⟩
  case round =>
    obtain ⟨k, hs, hk, rfl, how, hbel, hsz, hin⟩ := hrel
    by_cases hlt : k < n
    · obtain ⟨b, off, a', n', c', xs, rfl, hb, hcell, hxs, hi, _⟩ := (hx.up hbel).at hlt
      have hn' : n' ≤ 1048576 := by have := bulk_row hxs.o; have := hi.length; have := hn.o; omega
      have hab : ABelow (some (⟨w.heap.size, 0, none⟩ : Addr)) wr.heap.size := by intro b off s e; cases e; exact hsz.o
      go_wp2_with fail
      refine toInt64S_c _ _ _ xs _ hi hn' ?_
      intro b2 n2 c2 w2 hb2 ho2
      have hin2 := hin.snoc hb2 hab ho2 hbel.size
      have how2 := how.up hb2
      have hbel2 := below_ups hbel hb2 hbel.size
      have hsz2 : Hd (w.heap.size + 1 ≤ w2.heap.size) := Nat.le_trans hsz.o hb2.size
      obtain ⟨v, hc3, hf3, _⟩ := how2.at' hlt
      have hst := how2.store (k := k) (.slice b2 n2 c2)
      have hin3 := hin2.store k (.slice b2 n2 c2)
      have hbel3 := hbel2.setCell (p := ⟨w.heap.size, k, none⟩) (Nat.le_refl _) (.slice b2 n2 c2)
      clear hin2 hbel2 hin hbel
      go_wp2
      refine ⟨⟨k + 1, hs ++ [(b2, n2, c2)], by omega, by go_num, ?_, hbel3, ?_, ?_⟩, by simp [intOf]; omega⟩
      · have hl := hin3.len
        have hlk : hs.length = k := by have := hln.o; simp at hl; omega
        rw [List.set_append, if_neg (by simp; omega), List.length_map, hlk, Nat.sub_self, show n - k = (n - (k + 1)) + 1 by omega, List.replicate_succ] at hst
        rw [List.map_append, List.append_assoc]
        exact hst
      · rw [size_store]; exact hsz2
      · rw [take_succ_some hxs.o]; exact hin3
    · obtain rfl : k = n := by omega
      go_wp2
      rw [List.take_of_length_le (by have := hln.o; omega)] at hin
      refine H'.o _ _ _ hs _ hbel ⟨by simpa using how, hin⟩

set_option maxHeartbeats 1000000 in
theorem eqInt64SS_c {R : Ending → World → Prop} (a : Option Addr) (n cap : Nat) (xss : List (List Int)) (a' : Option Addr) (n' cap' : Nat) (yss : List (List Int)) (w : World) (hx : Mat w a n xss) (hy : Mat w a' n' yss)
    (H : Reads R w (.bool (decide (xss = yss)))) :
    Calls Try.prog 20 #[.slice a n cap, .slice a' n' cap'] w R := by
  have H' := Hd.i H; clear H
  by_cases hnn : n = n'
  · subst hnn
    have hm := hx.le
    go_enter Try.func20, Try.ntmps20
    go_wp2
    go_loopw [5] (fun i wr => ∃ k : Nat, k ≤ n ∧ i = .int .i64 k ∧ Drew w wr ∧ Hd (xss.take k = yss.take k)) (fun i _ => n - (intOf i).toNat)
    case atStart => exact ⟨0, Nat.zero_le _, rfl, Drew.refl _, rfl⟩
    case round =>
      obtain ⟨k, hk, rfl, hd, hc⟩ := hrel
      by_cases hlt : k < n
      · obtain ⟨b, off, p1, m1, c1, xs, rfl, hb, hcell, hxk, hix, _⟩ := (hd.rows hx).at hlt
        obtain ⟨b', off', p2, m2, c2, ys, rfl, hb', hcell', hyk, hiy, _⟩ := (hd.rows hy).at hlt
        by_cases hxy : xs = ys
        · have hdec := Hd.i (decide_eq_true hxy)
          go_wp2
          go_quiet ((go_at_call 21; exact Calls.quiet_of (eqInt64S_c _ _ _ xs _ _ _ ys _ (hix.drewN _) (hiy.drewN _) (by intro w' hd'; exact ⟨by rw [hdec.o], hd'⟩))))
          go_wp2
          go_roundw
          case rel => exact ⟨k + 1, by omega, by go_num, hd.step nq, take_eq_succ hc.o hxk.o (hxy ▸ hyk.o)⟩
          case measure => simp [intOf]; omega
        · have hdec := Hd.i (decide_eq_false hxy)
          go_wp2
          go_quiet ((go_at_call 21; exact Calls.quiet_of (eqInt64S_c _ _ _ xs _ _ _ ys _ (hix.drewN _) (hiy.drewN _) (by intro w' hd'; exact ⟨by rw [hdec.o], hd'⟩))))
          go_wp2
          exact retB (H'.o _ (hd.step nq)) (decide_eq_false (fun e => hxy (by have h1 := hxk.o; have h2 := hyk.o; rw [e] at h1; rw [h1] at h2; exact Option.some.inj h2)))
      · go_wp2
        have h := hc.o
        rw [List.take_of_length_le (by have := hx.length; omega), List.take_of_length_le (by have := hy.length; omega)] at h
        exact retB (H'.o _ hd) (by simpa using h)
  · go_enter Try.func20, Try.ntmps20
    go_wp2
    exact retB (H'.o _ (Drew.refl _)) (by simpa using fun e => hnn (by rw [← hx.length, ← hy.length, e]))

/-- All rows' numbers in one: how many there are. -/
def cells (xss : List (List Int)) : Nat := (xss.map List.length).sum
theorem cells_le (xss : List (List Int)) : cells xss ≤ bulk xss := by unfold cells bulk; omega
/-- The rows marked on end, from the number k. -/
def marksR : Int → List (List Int) → List (List Int)
  | _, [] => []
  | k, xs :: t => marks k xs.length :: marksR (k + xs.length) t
theorem marksR_length : ∀ (k : Int) (xss : List (List Int)), (marksR k xss).length = xss.length
  | _, [] => rfl
  | k, xs :: t => by simp [marksR, marksR_length (k + xs.length) t]
theorem marksR_get : ∀ (k : Int) (xss : List (List Int)) (j : Nat) (xs : List Int), xss[j]? = some xs → (marksR k xss)[j]? = some (marks (k + (cells (xss.take j) : Nat)) xs.length)
  | _, [], _, _, h => by simp at h
  | k, x :: t, 0, xs, h => by simp at h; subst h; simp [marksR, cells]
  | k, x :: t, j + 1, xs, h => by
    simp at h
    rw [marksR, List.getElem?_cons_succ, marksR_get (k + x.length) t j xs h]
    simp [cells]
    congr 1
    omega
theorem cells_take_succ {xss : List (List Int)} {k : Nat} {xs : List Int} (h : xss[k]? = some xs) : cells (xss.take (k + 1)) = cells (xss.take k) + xs.length := by
  have h1 : (xss.map List.length)[k]? = some xs.length := by rw [List.getElem?_map, h]; rfl
  unfold cells
  rw [List.map_take, List.map_take]
  exact sum_take_succ h1
theorem cells_take_le (xss : List (List Int)) (k : Nat) : cells (xss.take k) ≤ cells xss := by
  unfold cells
  rw [List.map_take]
  exact sum_take_le _ _
/-- The first j rows marked, the others as they were. -/
def marksTo (k : Int) (xss : List (List Int)) (j : Nat) : List (List Int) := (marksR k xss).take j ++ xss.drop j
theorem marksTo_length (k : Int) (xss : List (List Int)) (j : Nat) : (marksTo k xss j).length = xss.length := by simp [marksTo, marksR_length]; omega
theorem marksTo_get (k : Int) (xss : List (List Int)) (j i : Nat) : (marksTo k xss j)[i]? = if i < j then (marksR k xss)[i]? else xss[i]? := by
  unfold marksTo
  by_cases hl : j ≤ xss.length
  · have e : ((marksR k xss).take j).length = j := by simp [marksR_length]; omega
    split
    · rw [List.getElem?_append_left (by omega), List.getElem?_take, if_pos (by omega)]
    · rw [List.getElem?_append_right (by omega), e, List.getElem?_drop]
      congr 1; omega
  · rw [List.drop_of_length_le (by omega), List.append_nil, List.take_of_length_le (by rw [marksR_length]; omega)]
    split
    · rfl
    · rw [List.getElem?_eq_none (by rw [marksR_length]; omega), List.getElem?_eq_none (by omega)]

set_option maxHeartbeats 1000000 in
theorem markInt64SS_c {R : Ending → World → Prop} (B : Nat) (a : Option Addr) (n cap : Nat) (hs : List Hdr) (xss : List (List Int)) (k : Int) (w : World) (hx : OwnH w B a n cap hs xss) (hk0 : 0 ≤ k) (hk1 : k + cells xss ≤ 4611686018427387904)
    (H : ∀ w', WroteF (fpR hs) w w' → OwnH w' B a n cap hs (marksR k xss) → R (.returned (.int .i64 (k + cells xss))) w') :
    Calls Try.prog 32 #[.slice a n cap, .int .i64 k] w R := by
  have H' := Hd.i H; clear H
  have hln := Hd.i hx.length
  have hl0 := hx.le
  go_enter Try.func32, Try.ntmps32
  go_wp2
  go_loopw [1, 5] (fun q i wr => ∃ j : Nat, j ≤ n ∧ i = .int .i64 j ∧ q = .int .i64 (k + (cells (xss.take j) : Nat)) ∧ WroteF (fpR hs) w wr ∧ OwnH wr B a n cap hs (marksTo k xss j)) (fun _ i _ => n - (intOf i).toNat)
  case atStart => exact ⟨0, Nat.zero_le _, rfl, by simp [cells], WroteF.refl _ _, by simpa [marksTo] using hx⟩
  case round =>
    obtain ⟨j, hj, rfl, rfl, hw, ho⟩ := hrel
    by_cases hlt : j < n
    · have hln' := hln.o
      obtain ⟨xs, hxs⟩ : ∃ xs, xss[j]? = some xs := ⟨_, List.getElem?_eq_getElem (by omega)⟩
      clear hln'
      obtain ⟨b, off, a', n', c', xs', rfl, hb, hcell, hx', hin, _⟩ := ho.rows.at hlt
      obtain ⟨hd, ehd, erow⟩ : ∃ hd, hs[j]? = some hd ∧ hvv hd = .slice a' n' c' := by
        have hl := ho.len
        have e : hs[j]? = some (hs[j]'(by omega)) := List.getElem?_eq_getElem (by omega)
        refine ⟨_, e, ?_⟩
        have hval := ho.1.vals
        obtain ⟨_, _, h | ⟨b2, off2, e2, h⟩⟩ := hval
        · omega
        · cases e2
          have := h j (hvv hs[j]) (by rw [List.getElem?_map, e]; rfl)
          rw [hcell] at this
          exact (Option.some.inj this).symm
      simp only [hvv, Value.slice.injEq] at erow
      obtain ⟨rfl, rfl, rfl⟩ := erow
      have exs : (marksTo k xss j)[j]? = some xs := by rw [marksTo_get, if_neg (by omega)]; exact hxs
      have hrow := ho.2.row j hd xs ehd exs
      have hlen := Hd.i hrow.length
      have h3 := cells_take_succ hxs
      have h4 := cells_take_le xss (j + 1)
      have hc1 : 0 ≤ k + (cells (xss.take j) : Nat) := by omega
      have hc2 : k + (cells (xss.take j) : Nat) + hd.2.1 ≤ 4611686018427387904 := by have := hlen.o; omega
      replace h3 := Hd.i h3
      replace h4 := Hd.i h4
      replace exs := Hd.i exs
      replace ehd := Hd.i ehd
      replace hxs := Hd.i hxs
      go_wp2_with fail
      refine markInt64S_c B _ _ _ xs _ _ hrow hc1 hc2 ?_
      intro w2 hw2 hm2
      have hf : ∀ i h, i ≠ j → hs[i]? = some h → Off h.1 (fpI hd.1) := by
        intro i h hij e
        rcases Nat.lt_or_gt_of_ne hij with hlt' | hgt
        · have hp := (List.pairwise_iff_getElem.1 ho.2.two) i j (List.getElem?_eq_some_iff.1 e).1 (List.getElem?_eq_some_iff.1 ehd.o).1 hlt'
          rw [(List.getElem?_eq_some_iff.1 e).2, (List.getElem?_eq_some_iff.1 ehd.o).2] at hp
          rintro b ⟨off, s, e1⟩ ⟨off', s', e2⟩
          exact hp b off s off' s' e1 e2
        · have hp := (List.pairwise_iff_getElem.1 ho.2.two) j i (List.getElem?_eq_some_iff.1 ehd.o).1 (List.getElem?_eq_some_iff.1 e).1 hgt
          rw [(List.getElem?_eq_some_iff.1 e).2, (List.getElem?_eq_some_iff.1 ehd.o).2] at hp
          rintro b ⟨off, s, e1⟩ ⟨off', s', e2⟩
          exact hp b off' s' off s e2 e1
      have houter : Off (some (⟨b, off, none⟩ : Addr)) (fpI hd.1) := by
        rintro b' ⟨off', s, e1⟩ ⟨off'', s', e2⟩
        exact ho.2.off hd (List.mem_of_getElem? ehd.o) b' off'' s' off' s e2 e1
      have hown2 : OwnH w2 B (some ⟨b, off, none⟩) n cap hs (marksTo k xss (j + 1)) := by
        refine ⟨ho.1.of_heap fun b' off' s e1 => hw2.f.block b' (houter b' ⟨off', s, e1⟩), by rw [marksTo_length, ← marksTo_length k xss j]; exact ho.2.len, ?_, ho.2.off, ho.2.two⟩
        intro i h ys e e'
        rw [marksTo_get] at e'
        by_cases hij : i = j
        · subst hij
          rw [ehd.o] at e
          cases e
          rw [if_pos (by omega), marksR_get k xss i xs hxs.o] at e'
          cases e'
          rw [hlen.o]
          exact hm2
        · have e'' : (marksTo k xss j)[i]? = some ys := by
            rw [marksTo_get]
            split at e'
            · rw [if_pos (by omega)]; exact e'
            · rw [if_neg (by omega)]; exact e'
          exact (ho.2.row i h ys e e'').wroteF hw2.f (hf i h hij e)
      have hw3 : WroteF (fpR hs) w w2 := hw.trans (hw2.f.mono fun b' e => ⟨hd, List.mem_of_getElem? ehd.o, e⟩)
      clear hw hf houter
      go_wp2
      refine ⟨⟨j + 1, by omega, by go_num, ?_, hw3, hown2⟩, by simp [intOf]; omega⟩
      rw [h3.o, hlen.o]
      congr 1
      omega
    · obtain rfl : j = n := by omega
      have e1 : marksTo k xss j = marksR k xss := by
        have := hln.o
        rw [marksTo, List.drop_of_length_le (by omega), List.append_nil, List.take_of_length_le (by rw [marksR_length]; omega)]
      have e2 : xss.take j = xss := List.take_of_length_le (by have := hln.o; omega)
      rw [e1] at ho
      rw [e2]
      replace e1 := Hd.i e1
      replace e2 := Hd.i e2
      go_wp2
      exact H'.o _ hw ho

end Go.Proofs.Ytpijnjhheikmcaa
