/- How chains grow: what the program's add and the reference's addGenerator and addProduct do to a chain; no program in sight. -/
import Derived.Test.YtpijnjhheikmcaaPureChain
namespace Go.Proofs.Ytpijnjhheikmcaa

/-- How many representatives a level has. -/
def szR (d : Nat) (R : Tr) (i : Nat) : Nat := ((List.range d).filter fun y => (R i y).isSome).length
theorem szR_le (d : Nat) (R : Tr) (i : Nat) : szR d R i ≤ d := by
  unfold szR
  refine Nat.le_trans (List.length_filter_le _ _) ?_
  rw [List.length_range]; exact Nat.le_refl _
/-- The representatives from level k on. -/
def pot (d : Nat) (R : Tr) (k : Nat) : Nat := ((List.range d).map fun i => if k ≤ i then szR d R i else 0).sum
/-- Nothing is lost. -/
def Mon (R R' : Tr) : Prop := ∀ i y t, R i y = some t → R' i y = some t
theorem Mon.refl (R : Tr) : Mon R R := fun _ _ _ h => h
theorem Mon.trans {R R' R'' : Tr} (h : Mon R R') (k : Mon R' R'') : Mon R R'' := fun i y t e => k i y t (h i y t e)
theorem filter_le {α : Type} {p q : α → Bool} (h : ∀ x, p x = true → q x = true) : ∀ l : List α, (l.filter p).length ≤ (l.filter q).length
  | [] => by simp
  | x :: t => by
    have ih := filter_le h t
    by_cases hp : p x = true
    · simp [hp, h x hp, ih]
    · by_cases hq : q x = true
      · simp [hp, hq]; omega
      · simp [hp, hq, ih]
theorem filter_lt {α : Type} {p q : α → Bool} (h : ∀ x, p x = true → q x = true) : ∀ (l : List α) (x : α), x ∈ l → p x = false → q x = true → (l.filter p).length < (l.filter q).length
  | [], _, hx, _, _ => by cases hx
  | y :: t, x, hx, hp, hq => by
    have hle := filter_le h t
    rcases List.mem_cons.1 hx with rfl | hx
    · simp [hp, hq]; omega
    · have ih := filter_lt h t x hx hp hq
      by_cases hpy : p y = true
      · simp [hpy, h y hpy]; omega
      · by_cases hqy : q y = true
        · simp [hpy, hqy]; omega
        · simp [hpy, hqy]; omega
theorem szR_mono {d : Nat} {R R' : Tr} (h : Mon R R') (i : Nat) : szR d R i ≤ szR d R' i := filter_le (fun y hy => by
  obtain ⟨t, ht⟩ := Option.isSome_iff_exists.1 hy
  rw [h i y t ht]; rfl) _
theorem szR_lt {d : Nat} {R R' : Tr} (h : Mon R R') {i y : Nat} (hy : y < d) (h0 : R i y = none) (h1 : (R' i y).isSome) : szR d R i < szR d R' i := filter_lt (fun y hy => by
  obtain ⟨t, ht⟩ := Option.isSome_iff_exists.1 hy
  rw [h i y t ht]; rfl) _ y (List.mem_range.2 hy) (by rw [h0]; rfl) h1
theorem sum_le {α : Type} {f g : α → Nat} (h : ∀ x, f x ≤ g x) : ∀ l : List α, (l.map f).sum ≤ (l.map g).sum
  | [] => by simp
  | x :: t => by have := sum_le h t; have := h x; simp; omega
theorem sum_lt {α : Type} {f g : α → Nat} (h : ∀ x, f x ≤ g x) : ∀ (l : List α) (x : α), x ∈ l → f x < g x → (l.map f).sum < (l.map g).sum
  | [], _, hx, _ => by cases hx
  | y :: t, x, hx, hlt => by
    have hle := sum_le h t
    have hy := h y
    rcases List.mem_cons.1 hx with rfl | hx
    · simp; omega
    · have := sum_lt h t x hx hlt
      simp; omega
theorem pot_mono {d : Nat} {R R' : Tr} (h : Mon R R') (k : Nat) : pot d R k ≤ pot d R' k := sum_le (fun i => by split <;> first | exact szR_mono h i | exact Nat.le_refl _) _
theorem pot_le (d : Nat) (R : Tr) (k : Nat) : pot d R k ≤ d * d := by
  have h : ∀ l : List Nat, (l.map fun i => if k ≤ i then szR d R i else 0).sum ≤ d * l.length := by
    intro l
    induction l with
    | nil => simp
    | cons x t ih =>
      have := szR_le d R x
      rw [List.map_cons, List.sum_cons, List.length_cons, Nat.mul_succ]
      split <;> omega
  have := h (List.range d)
  rwa [List.length_range] at this
theorem sifts_none {R R' : Tr} (hm : Mon R R') : ∀ (f k : Nat) (p : List Int), (∀ i y, k ≤ i → i < k + f → R i y = none → R' i y = none) → sifts R' f k p → sifts R f k p
  | 0, _, _, _, _ => trivial
  | f + 1, k, p, h, hs => by
    obtain ⟨t, e, hs⟩ := hs
    refine ⟨t, ?_, sifts_none hm f (k + 1) _ (fun i y h1 h2 => h i y (by omega) (by omega)) hs⟩
    cases h0 : R k (at0 p k).toNat with
    | none => rw [h k _ (Nat.le_refl _) (by omega) h0] at e; cases e
    | some u => have := hm k _ u h0; rw [this] at e; exact e
/-- Whoever begins to sift through has brought a representative. -/
theorem pot_lt {d : Nat} {R R' : Tr} (h : Mon R R') {k : Nat} (hr : ∀ i y, (R' i y).isSome → k ≤ i → i < d → y < d) {p : List Int} (h0 : ¬ Sf d R k p) (h1 : Sf d R' k p) : pot d R k < pot d R' k := by
  have hex : ∃ i y, k ≤ i ∧ i < d ∧ R i y = none ∧ (R' i y).isSome := by
    apply Classical.byContradiction
    intro hne
    refine h0 (sifts_none h _ k p (fun i y hk hi hn => ?_) h1)
    cases e : R' i y with
    | none => rfl
    | some t => exact absurd ⟨i, y, hk, by omega, hn, by rw [e]; rfl⟩ hne
  obtain ⟨i, y, hk, hi, hn, hs⟩ := hex
  refine sum_lt (fun j => by split <;> first | exact szR_mono h j | exact Nat.le_refl _) _ i (List.mem_range.2 hi) ?_
  rw [if_pos hk, if_pos hk]
  exact szR_lt h (hr i y hs hk hi) hn hs

/-- A closed chain from level k on, with not too many generators. -/
structure Okx (d : Nat) (R : Tr) (G : Nat → List (List Int)) (k : Nat) : Prop where
  okc : Okc d R G k
  len : ∀ i, k ≤ i → i < d → (G i).length ≤ pot d R i
theorem Okx.up {d : Nat} {R : Tr} {G : Nat → List (List Int)} {k j : Nat} (h : Okx d R G k) (hj : k ≤ j) : Okx d R G j := ⟨h.okc.up hj, fun i h1 h2 => h.len i (by omega) h2⟩
theorem Okx.last (d : Nat) (R : Tr) (G : Nat → List (List Int)) : Okx d R G d := ⟨fun i h1 h2 => by omega, fun i h1 h2 => by omega⟩
theorem Okx.row {d : Nat} {R : Tr} {G : Nat → List (List Int)} {k : Nat} (h : Okx d R G k) {i y : Nat} (hs : (R i y).isSome) (hk : k ≤ i) (hi : i < d) : y < d := by
  obtain ⟨t, ht⟩ := Option.isSome_iff_exists.1 hs
  exact ((h.okc i hk hi).1.row y t ht).2.2.2.1
theorem sf_mono {d : Nat} (h1 : 1 ≤ d) (h2 : d ≤ 20) {R R' : Tr} {G G' : Nat → List (List Int)} {j : Nat} (hj : j ≤ d) (h : Okc d R G j) (h' : Okc d R' G' j) (hg : ∀ g ∈ G j, g ∈ G' j) {q : List Int} (hq : Pm d q) (hf : Fx j q) (hs : Sf d R j q) : Sf d R' j q := by
  by_cases hlt : j < d
  · have a := (sf_grp h1 h2 h _ j rfl (Nat.le_refl _) hlt q hq hf).1 hs
    have hl := (h' j (Nat.le_refl _) hlt).1
    exact (sf_grp h1 h2 h' _ j rfl (Nat.le_refl _) hlt q hq hf).2 (a.mono h1 h2 hl.gs fun g hm => Grp.gen hl.gs (hg g hm))
  · have : j = d := by omega
    subst this
    exact sf_end j R' q

/-- What adding p at level k does. -/
structure AddPost (d k : Nat) (p : List Int) (R : Tr) (G : Nat → List (List Int)) (R' : Tr) (G' : Nat → List (List Int)) : Prop where
  ok : Okx d R' G' k
  low : ∀ i, i < k → R' i = R i ∧ G' i = G i
  gen : ∀ g ∈ G k, g ∈ G' k
  new : ∀ g ∈ G' k, g ∈ G k ∨ g = p
  mon : Mon R R'
  has : Sf d R' k p
theorem AddPost.same {d k : Nat} {p : List Int} {R : Tr} {G : Nat → List (List Int)} (h : Okx d R G k) (hs : Sf d R k p) : AddPost d k p R G R G :=
  ⟨h, fun _ _ => ⟨rfl, rfl⟩, fun _ h => h, fun _ h => .inl h, Mon.refl _, hs⟩

/-- The level k is not closed yet; all below it is. -/
structure Hf (d k : Nat) (R : Tr) (G : Nat → List (List Int)) : Prop where
  lv : Lv d R G k
  ok : Okx d R G (k + 1)
  up : k + 1 < d → ∀ g ∈ G (k + 1), Grp d (G k) g
theorem Okx.hf {d k : Nat} {R : Tr} {G : Nat → List (List Int)} (h : Okx d R G k) (hk : k < d) : Hf d k R G :=
  ⟨(h.okc k (Nat.le_refl _) hk).1, h.up (Nat.le_succ _), (h.okc k (Nat.le_refl _) hk).2.2⟩
theorem Hf.close {d k : Nat} {R : Tr} {G : Nat → List (List Int)} (h : Hf d k R G) (hlen : (G k).length ≤ pot d R k) (hc : ∀ y t g, R k y = some t → g ∈ G k → Clo d R k t g) : Okx d R G k :=
  ⟨fun i h1 h2 => by
    by_cases e : i = k
    · subst e; exact ⟨h.lv, hc, h.up⟩
    · exact h.ok.okc i (by omega) h2,
   fun i h1 h2 => by
    by_cases e : i = k
    · subst e; exact hlen
    · exact h.ok.len i (by omega) h2⟩
theorem Lv.congr {d k : Nat} {R R' : Tr} {G G' : Nat → List (List Int)} (h : Lv d R G k) (hR : R' k = R k) (hG : G' k = G k) : Lv d R' G' k :=
  ⟨fun y t e => by rw [hR] at e; rw [hG]; exact h.row y t e, by rw [hR]; exact h.one, fun g hg => h.gen g (by rw [← hG]; exact hg)⟩
/-- The remainder that a representative and a generator leave for the next level. -/
theorem rest_ok {d k : Nat} (hk : k < d) {R : Tr} {G : Nat → List (List Int)} (hl : Lv d R G k) {y y' : Nat} {t t' q : List Int} (ht : R k y = some t) (ht' : R k y' = some t') (hq : Pm d q) (hqf : Fx k q) (hy' : at0 q (at0 t k) = y') :
    Pm d (comp (comp t q) (inv t')) ∧ Fx (k + 1) (comp (comp t q) (inv t')) := by
  obtain ⟨a1, a2, a3, a4, _⟩ := hl.row y t ht
  obtain ⟨b1, b2, b3, b4, _⟩ := hl.row y' t' ht'
  have hp := a1.comp hq
  refine ⟨hp.comp b1.inv, fun x hx => ?_⟩
  by_cases hxk : x < k
  · exact (a2.comp (by omega) a1 hqf).comp (by omega) hp (b2.inv (by omega) b1) x hxk
  · obtain rfl : x = k := by omega
    rw [hp.at_comp (by omega) (by omega), a1.at_comp (by omega) (by omega), hy', ← b3, b1.inv_at (by omega) (by omega)]
theorem div_ok {d k : Nat} (hk : k < d) {R : Tr} {G : Nat → List (List Int)} (hl : Lv d R G k) {p t : List Int} (hp : Pm d p) (hf : Fx k p) (ht : R k (at0 p k).toNat = some t) : Pm d (comp p (inv t)) ∧ Fx (k + 1) (comp p (inv t)) := by
  obtain ⟨b1, b2, b3, b4, _⟩ := hl.row _ t ht
  have hr := hp.rng (x := (k : Int)) (by omega) (by omega)
  refine ⟨hp.comp b1.inv, fun x hx => ?_⟩
  by_cases hxk : x < k
  · exact hf.comp (by omega) hp (b2.inv (by omega) b1) x hxk
  · obtain rfl : x = k := by omega
    rw [hp.at_comp (by omega) (by omega), show at0 p x = at0 t x by rw [b3]; omega, b1.inv_at (by omega) (by omega)]
/-- Behind an addition at the next level the level k stands as it stood. -/
theorem Hf.next {d k : Nat} (h1 : 1 ≤ d) (h2 : d ≤ 20) (hk : k < d) {R R' : Tr} {G G' : Nat → List (List Int)} {s : List Int} (h : Hf d k R G) (hs : Grp d (G k) s) (hp : AddPost d (k + 1) s R G R' G') :
    Hf d k R' G' ∧ R' k = R k ∧ G' k = G k ∧ (∀ t g, Pm d t → Pm d g → Fx k t → Fx k g → (∀ t', R k (at0 g (at0 t k)).toNat = some t' → Pm d (comp (comp t g) (inv t')) ∧ Fx (k + 1) (comp (comp t g) (inv t'))) → Clo d R k t g → Clo d R' k t g) := by
  obtain ⟨eR, eG⟩ := hp.low k (Nat.lt_succ_self _)
  have hlv : Lv d R' G' k := h.lv.congr eR eG
  refine ⟨⟨hlv, hp.ok, fun hk1 g hg => ?_⟩, eR, eG, fun t g _ _ _ _ hrest hc => ?_⟩
  · rw [eG]
    rcases hp.new g hg with hg | rfl
    · exact h.up hk1 g hg
    · exact hs
  · obtain ⟨t', e, hs'⟩ := hc
    obtain ⟨a, b⟩ := hrest t' e
    exact ⟨t', by rw [eR]; exact e, sf_mono h1 h2 hk h.ok.okc hp.ok.okc hp.gen a b hs'⟩

/-- One representative more; one generator more. -/
def setR (R : Tr) (k y : Nat) (t : List Int) : Tr := fun i z => if i = k ∧ z = y then some t else R i z
def addG (G : Nat → List (List Int)) (k : Nat) (p : List Int) : Nat → List (List Int) := fun i => if i = k then G k ++ [p] else G i
theorem setR_same (R : Tr) (k y : Nat) (t : List Int) : setR R k y t k y = some t := by simp [setR]
theorem setR_ne {R : Tr} {k y i z : Nat} {t : List Int} (h : ¬ (i = k ∧ z = y)) : setR R k y t i z = R i z := by simp [setR, h]
theorem setR_low {R : Tr} {k y i : Nat} {t : List Int} (h : i ≠ k) : setR R k y t i = R i := by funext z; simp [setR, h]
theorem setR_mon {R : Tr} {k y : Nat} {t : List Int} (h : R k y = none) : Mon R (setR R k y t) := fun i z u e => by
  rw [setR_ne]
  · exact e
  · rintro ⟨rfl, rfl⟩; rw [h] at e; cases e
theorem addG_same (G : Nat → List (List Int)) (k : Nat) (p : List Int) : addG G k p k = G k ++ [p] := by simp [addG]
theorem addG_ne {G : Nat → List (List Int)} {k i : Nat} {p : List Int} (h : i ≠ k) : addG G k p i = G i := by simp [addG, h]
theorem okx_congr {d k : Nat} {R R' : Tr} {G G' : Nat → List (List Int)} (h : Okx d R G k) (hR : ∀ i, k ≤ i → R' i = R i) (hG : ∀ i, k ≤ i → G' i = G i) (hm : Mon R R') : Okx d R' G' k := by
  refine ⟨fun i h1 h2 => ?_, fun i h1 h2 => by rw [hG i h1]; exact Nat.le_trans (h.len i h1 h2) (pot_mono hm i)⟩
  obtain ⟨a, b, c⟩ := h.okc i h1 h2
  refine ⟨a.congr (hR i h1) (hG i h1), fun y t g e hg => ?_, fun hi g hg => ?_⟩
  · rw [hR i h1] at e
    rw [hG i h1] at hg
    obtain ⟨t', e', hs⟩ := b y t g e hg
    exact ⟨t', by rw [hR i h1]; exact e', (sf_congr fun j hj => hR j (by omega)).2 hs⟩
  · rw [hG (i + 1) (by omega)] at hg
    rw [hG i h1]
    exact c hi g hg
/-- A generator joins at level k. -/
theorem Hf.gen {d k : Nat} (h1 : 1 ≤ d) (h2 : d ≤ 20) {R : Tr} {G : Nat → List (List Int)} {p : List Int} (h : Hf d k R G) (hp : Pm d p) (hf : Fx k p) : Hf d k R (addG G k p) := by
  have hgs : Gs d (addG G k p k) := fun g hg => by
    rw [addG_same] at hg
    rcases List.mem_append.1 hg with hg | hg
    · exact (h.lv.gen g hg).1
    · obtain rfl := List.mem_singleton.1 hg; exact hp
  have hmem : ∀ g ∈ G k, Grp d (addG G k p k) g := fun g hg => Grp.gen hgs (by rw [addG_same]; exact List.mem_append_left _ hg)
  refine ⟨⟨fun y t e => ?_, h.lv.one, fun g hg => ?_⟩, okx_congr h.ok (fun _ _ => rfl) (fun i hi => addG_ne (by omega)) (Mon.refl _), fun hk g hg => ?_⟩
  · obtain ⟨a, b, c, e2, f⟩ := h.lv.row y t e
    exact ⟨a, b, c, e2, f.mono h1 h2 hgs hmem⟩
  · rw [addG_same] at hg
    rcases List.mem_append.1 hg with hg | hg
    · exact h.lv.gen g hg
    · obtain rfl := List.mem_singleton.1 hg; exact ⟨hp, hf⟩
  · rw [addG_ne (by omega)] at hg
    exact (h.up hk g hg).mono h1 h2 hgs hmem
/-- A representative joins at level k. -/
theorem Hf.rep {d k : Nat} {R : Tr} {G : Nat → List (List Int)} {t : List Int} {y : Nat} (hy : R k y = none) (h : Hf d k R G) (ht : Pm d t) (hf : Fx k t) (hty : at0 t k = y) (hyd : y < d) (hg : Grp d (G k) t) : Hf d k (setR R k y t) G := by
  refine ⟨⟨fun z u e => ?_, ?_, h.lv.gen⟩, okx_congr h.ok (fun i hi => setR_low (by omega)) (fun _ _ => rfl) (setR_mon hy), h.up⟩
  · by_cases hz : z = y
    · subst hz
      rw [setR_same] at e
      cases e
      exact ⟨ht, hf, hty, hyd, hg⟩
    · rw [setR_ne (by simp [hz])] at e
      exact h.lv.row z u e
  · exact setR_mon hy k k _ h.lv.one
end Go.Proofs.Ytpijnjhheikmcaa
