/- Breadth-first words: what is found and by which words, in the order of discovery; the orbit of a point; all orbits; no program in sight. -/
import Derived.Test.YtpijnjhheikmcaaPureOrbit
namespace Go.Proofs.Ytpijnjhheikmcaa

/-- The letters in their order: 1, -1, 2, -2 .. -/
def ltr (k : Nat) : Int := if k % 2 = 1 then -((k / 2 : Nat) + 1) else (k / 2 : Nat) + 1
def ltrs (m : Nat) : List Int := (List.range m).map ltr
theorem ltrs_length (m : Nat) : (ltrs m).length = m := by simp [ltrs]
theorem ltrs_succ (m : Nat) : ltrs (m + 1) = ltrs m ++ [ltr m] := by simp [ltrs, List.range_succ]
theorem ltrs_get {m k : Nat} (h : k < m) : (ltrs m)[k]? = some (ltr k) := by simp [ltrs, h]
theorem ltr_even (k : Nat) : ltr (2 * k) = (k : Int) + 1 := by unfold ltr; rw [if_neg (by omega)]; omega
theorem ltr_odd (k : Nat) : ltr (2 * k + 1) = -((k : Int) + 1) := by unfold ltr; rw [if_pos (by omega)]; omega
theorem ltr_bd {m k : Nat} (h : k < 2 * m) : ltr k ≠ 0 ∧ -(m : Int) ≤ ltr k ∧ ltr k ≤ m := by unfold ltr; split <;> omega

/-- A letter of so many generators. -/
def IsLet (xss : List (List Int)) (l : Int) : Prop := l ≠ 0 ∧ -(xss.length : Int) ≤ l ∧ l ≤ xss.length
theorem letP_of {d : Nat} {xss : List (List Int)} (h : Gens d xss) {l : Int} (hl : IsLet xss l) : (IsPerm (letP xss l) ∧ (letP xss l).length = d) ∧ ((letP xss l ∈ xss) ∨ ∃ p ∈ xss, letP xss l = inv p) := by
  unfold letP
  obtain ⟨h0, h1, h2⟩ := hl
  split
  · have e : xss[(-l - 1).toNat]? = some (xss[(-l - 1).toNat]'(by omega)) := List.getElem?_eq_getElem (by omega)
    have hp := h _ (List.mem_of_getElem? e)
    rw [e, Option.getD_some]
    exact ⟨⟨isPerm_inv hp.1, by rw [inv_length]; omega⟩, .inr ⟨_, List.mem_of_getElem? e, rfl⟩⟩
  · have e : xss[(l - 1).toNat]? = some (xss[(l - 1).toNat]'(by omega)) := List.getElem?_eq_getElem (by omega)
    have hp := h _ (List.mem_of_getElem? e)
    rw [e, Option.getD_some]
    exact ⟨⟨hp.1, by omega⟩, .inl (List.mem_of_getElem? e)⟩
theorem letP_reach {d : Nat} {xss : List (List Int)} (h : Gens d xss) {l : Int} (hl : IsLet xss l) {x y : Int} (hx : 0 ≤ x ∧ x < d) (hr : Reach xss x y) : Reach xss x (at0 (letP xss l) y) := by
  rcases (letP_of h hl).2 with h1 | ⟨p, h1, e⟩
  · exact hr.step h1
  · rw [e]; exact hr.inv h hx h1
/-- Each generator is a letter. -/
theorem gen_letter {xss : List (List Int)} {p : List Int} (hp : p ∈ xss) : ∃ k, k < 2 * xss.length ∧ letP xss (ltr k) = p := by
  obtain ⟨i, hi⟩ := List.getElem?_of_mem hp
  have hl := (List.getElem?_eq_some_iff.1 hi).1
  refine ⟨2 * i, by omega, ?_⟩
  rw [ltr_even, letP, if_neg (by omega), show ((i : Int) + 1 - 1).toNat = i by omega, hi]
  rfl

abbrev FW := List (Int × List Int)
def keys (fw : FW) : List Int := fw.map (·.1)
theorem keys_length (fw : FW) : (keys fw).length = fw.length := by simp [keys]
theorem keys_snoc (fw : FW) (z : Int) (w : List Int) : keys (fw ++ [(z, w)]) = keys fw ++ [z] := by simp [keys]
theorem keys_get {fw : FW} {i : Nat} {y : Int} (h : (keys fw)[i]? = some y) : ∃ w, fw[i]? = some (y, w) := by
  rw [keys, List.getElem?_map, Option.map_eq_some_iff] at h
  obtain ⟨⟨a, b⟩, h1, h2⟩ := h
  exact ⟨b, by rw [h1, ← h2]⟩
theorem get_keys {fw : FW} {i : Nat} {y : Int} {w : List Int} (h : fw[i]? = some (y, w)) : (keys fw)[i]? = some y := by simp [keys, h]
/-- One letter at one point. -/
def scanStep (xss : List (List Int)) (u : Int) (wu : List Int) (fw : FW) (l : Int) : FW :=
  if at0 (letP xss l) u ∈ keys fw then fw else fw ++ [(at0 (letP xss l) u, wu ++ [l])]
def scan (xss : List (List Int)) (u : Int) (wu : List Int) (fw : FW) (k : Nat) : FW := (ltrs k).foldl (scanStep xss u wu) fw
theorem scan_zero (xss : List (List Int)) (u : Int) (wu : List Int) (fw : FW) : scan xss u wu fw 0 = fw := rfl
theorem scan_succ (xss : List (List Int)) (u : Int) (wu : List Int) (fw : FW) (k : Nat) : scan xss u wu fw (k + 1) = scanStep xss u wu (scan xss u wu fw k) (ltr k) := by
  simp [scan, ltrs_succ]
/-- When the points up to number i are gone through. -/
def st (xss : List (List Int)) (x : Int) : Nat → FW
  | 0 => [(x, [])]
  | i + 1 => match (st xss x i)[i]? with
    | none => st xss x i
    | some (u, wu) => scan xss u wu (st xss x i) (2 * xss.length)
theorem st_some {xss : List (List Int)} {x : Int} {i : Nat} {u : Int} {wu : List Int} (h : (st xss x i)[i]? = some (u, wu)) : st xss x (i + 1) = scan xss u wu (st xss x i) (2 * xss.length) := by
  rw [st, h]
theorem st_none {xss : List (List Int)} {x : Int} {i : Nat} (h : (st xss x i)[i]? = none) : st xss x (i + 1) = st xss x i := by
  rw [st, h]

theorem scanStep_prefix (xss : List (List Int)) (u : Int) (wu : List Int) (fw : FW) (l : Int) : fw <+: scanStep xss u wu fw l := by
  unfold scanStep
  split
  · exact List.prefix_refl _
  · exact List.prefix_append _ _
theorem scan_prefix (xss : List (List Int)) (u : Int) (wu : List Int) (fw : FW) : ∀ k, fw <+: scan xss u wu fw k
  | 0 => List.prefix_refl _
  | k + 1 => by rw [scan_succ]; exact (scan_prefix xss u wu fw k).trans (scanStep_prefix _ _ _ _ _)
theorem st_prefix (xss : List (List Int)) (x : Int) (i : Nat) : st xss x i <+: st xss x (i + 1) := by
  cases h : (st xss x i)[i]? with
  | none => rw [st_none h]; exact List.prefix_refl _
  | some e => obtain ⟨u, wu⟩ := e; rw [st_some h]; exact scan_prefix _ _ _ _ _
theorem st_prefix_le (xss : List (List Int)) (x : Int) (i : Nat) : ∀ j, st xss x i <+: st xss x (i + j)
  | 0 => List.prefix_refl _
  | j + 1 => (st_prefix_le xss x i j).trans (st_prefix xss x (i + j))
theorem prefix_get {α : Type} {l m : List α} (h : l <+: m) {i : Nat} {a : α} (ha : l[i]? = some a) : m[i]? = some a := by
  obtain ⟨t, rfl⟩ := h
  rw [List.getElem?_append_left (List.getElem?_eq_some_iff.1 ha).1]
  exact ha
theorem prefix_keys {l m : FW} (h : l <+: m) {y : Int} (hy : y ∈ keys l) : y ∈ keys m := by
  obtain ⟨t, rfl⟩ := h
  simp only [keys, List.map_append, List.mem_append] at *
  exact .inl hy

/-- What holds of what is found: different points, all reached; each word short, of letters. -/
def OkF (xss : List (List Int)) (x : Int) (fw : FW) : Prop :=
  (keys fw).Nodup ∧ (∀ e ∈ fw, Reach xss x e.1) ∧ (∀ (i : Nat) (y : Int) (w : List Int), fw[i]? = some (y, w) → w.length ≤ i ∧ ∀ l ∈ w, IsLet xss l)
theorem okF_zero (xss : List (List Int)) (x : Int) : OkF xss x [(x, [])] := by
  refine ⟨by simp [keys], fun e he => ?_, fun i y w h => ?_⟩
  · simp at he; subst he; exact .refl
  · obtain ⟨hi, h⟩ := List.getElem?_eq_some_iff.1 h
    simp at hi
    subst hi
    simp at h
    obtain ⟨-, rfl⟩ := h
    simp
theorem OkF.step {d : Nat} {xss : List (List Int)} {x : Int} {fw : FW} (hg : Gens d xss) (hx : 0 ≤ x ∧ x < d) (h : OkF xss x fw) {i : Nat} {u : Int} {wu : List Int} (hu : fw[i]? = some (u, wu)) {l : Int} (hl : IsLet xss l) : OkF xss x (scanStep xss u wu fw l) := by
  unfold scanStep
  split
  · exact h
  · rename_i hz
    have hil := (List.getElem?_eq_some_iff.1 hu).1
    have hw := h.2.2 i u wu hu
    refine ⟨?_, fun e he => ?_, fun j y w e => ?_⟩
    · rw [keys_snoc]
      refine List.nodup_append.2 ⟨h.1, List.pairwise_singleton _ _, fun a ha b hb => ?_⟩
      obtain rfl := List.mem_singleton.1 hb
      intro e; exact hz (e ▸ ha)
    · rcases List.mem_append.1 he with he | he
      · exact h.2.1 e he
      · obtain rfl := List.mem_singleton.1 he
        exact letP_reach hg hl hx (h.2.1 _ (List.mem_of_getElem? hu))
    · by_cases hj : j < fw.length
      · rw [List.getElem?_append_left hj] at e
        exact h.2.2 j y w e
      · rw [List.getElem?_append_right (by omega)] at e
        obtain ⟨hj2, e⟩ := List.getElem?_eq_some_iff.1 e
        simp at hj2 e
        obtain ⟨rfl, rfl⟩ := e
        refine ⟨by simp; omega, fun l' hl' => ?_⟩
        rcases List.mem_append.1 hl' with h1 | h1
        · exact hw.2 l' h1
        · obtain rfl := List.mem_singleton.1 h1; exact hl
theorem isLet_ltr {xss : List (List Int)} {k : Nat} (h : k < 2 * xss.length) : IsLet xss (ltr k) := ltr_bd h
theorem OkF.scan {d : Nat} {xss : List (List Int)} {x : Int} {fw : FW} (hg : Gens d xss) (hx : 0 ≤ x ∧ x < d) (h : OkF xss x fw) {i : Nat} {u : Int} {wu : List Int} (hu : fw[i]? = some (u, wu)) : ∀ k, k ≤ 2 * xss.length → OkF xss x (scan xss u wu fw k)
  | 0, _ => h
  | k + 1, hk => by
    rw [scan_succ]
    exact (OkF.scan hg hx h hu k (by omega)).step hg hx (prefix_get (scan_prefix _ _ _ _ k) hu) (isLet_ltr (by omega))
theorem okF_st {d : Nat} {xss : List (List Int)} (hg : Gens d xss) {x : Int} (hx : 0 ≤ x ∧ x < d) : ∀ i, OkF xss x (st xss x i)
  | 0 => okF_zero xss x
  | i + 1 => by
    cases h : (st xss x i)[i]? with
    | none => rw [st_none h]; exact okF_st hg hx i
    | some e => obtain ⟨u, wu⟩ := e; rw [st_some h]; exact (okF_st hg hx i).scan hg hx h _ (Nat.le_refl _)
theorem OkF.len {d : Nat} {xss : List (List Int)} (hg : Gens d xss) {x : Int} (hx : 0 ≤ x ∧ x < d) {fw : FW} (h : OkF xss x fw) : fw.length ≤ d := by
  have hs : keys fw ⊆ idl d := by
    intro y hy
    simp only [keys, List.mem_map] at hy
    obtain ⟨e, he, rfl⟩ := hy
    exact mem_idl.2 ((h.2.1 e he).range hg hx)
  have := h.1.length_le_of_subset hs
  rwa [idl_length, keys_length] at this

/-- Behind a scan the point's images are found. -/
theorem scan_closed (xss : List (List Int)) (u : Int) (wu : List Int) (fw : FW) : ∀ k j, j < k → at0 (letP xss (ltr j)) u ∈ keys (scan xss u wu fw k)
  | 0, _, h => by omega
  | k + 1, j, h => by
    rw [scan_succ]
    by_cases e : j = k
    · subst e
      unfold scanStep
      split
      · assumption
      · rw [keys_snoc]; exact List.mem_append_right _ (List.mem_singleton_self _)
    · exact prefix_keys (scanStep_prefix _ _ _ _ _) (scan_closed xss u wu fw k j (by omega))
theorem st_closed (xss : List (List Int)) (x : Int) : ∀ i j u wu, j < i → (st xss x i)[j]? = some (u, wu) → ∀ k, k < 2 * xss.length → at0 (letP xss (ltr k)) u ∈ keys (st xss x i)
  | 0, _, _, _, h, _ => by omega
  | i + 1, j, u, wu, h, hu => by
    intro k hk
    by_cases hj : j < (st xss x i).length
    · have e : (st xss x i)[j]? = some (u, wu) := by
        rw [← hu]
        obtain ⟨t, ht⟩ := st_prefix xss x i
        rw [← ht, List.getElem?_append_left hj]
      by_cases hji : j = i
      · subst hji
        rw [st_some e]
        exact scan_closed xss u wu _ _ k hk
      · exact prefix_keys (st_prefix xss x i) (st_closed xss x i j u wu (by omega) e k hk)
    · exfalso
      cases h' : (st xss x i)[i]? with
      | none => rw [st_none h', List.getElem?_eq_none (by omega)] at hu; cases hu
      | some e => have := (List.getElem?_eq_some_iff.1 h').1; omega

/-- All that is found. -/
def bfs (d : Nat) (xss : List (List Int)) (x : Int) : FW := st xss x d
theorem st_stays {xss : List (List Int)} {x : Int} {i : Nat} (h : (st xss x i).length ≤ i) : ∀ j, st xss x (i + j) = st xss x i
  | 0 => rfl
  | j + 1 => by
    have ih := st_stays h j
    rw [show i + (j + 1) = (i + j) + 1 by omega, st_none, ih]
    rw [ih, List.getElem?_eq_none (by omega)]
theorem bfs_of {d : Nat} {xss : List (List Int)} (hg : Gens d xss) {x : Int} (hx : 0 ≤ x ∧ x < d) {i : Nat} (h : (st xss x i).length ≤ i) : st xss x i = bfs d xss x := by
  unfold bfs
  rcases Nat.le_total i d with hid | hid
  · rw [show d = i + (d - i) by omega, st_stays h]
  · have := (okF_st hg hx d).len hg hx
    rw [show i = d + (i - d) by omega, st_stays this]
theorem bfs_prefix {d : Nat} {xss : List (List Int)} (hg : Gens d xss) {x : Int} (hx : 0 ≤ x ∧ x < d) (i : Nat) : st xss x i <+: bfs d xss x := by
  rcases Nat.le_total i d with hid | hid
  · have := st_prefix_le xss x i (d - i)
    rwa [show i + (d - i) = d by omega] at this
  · have := (okF_st hg hx d).len hg hx
    rw [show i = d + (i - d) by omega, st_stays this]
    exact List.prefix_refl _
theorem okF_bfs {d : Nat} {xss : List (List Int)} (hg : Gens d xss) {x : Int} (hx : 0 ≤ x ∧ x < d) : OkF xss x (bfs d xss x) := okF_st hg hx d
theorem mem_bfs {d : Nat} {xss : List (List Int)} (hg : Gens d xss) {x : Int} (hx : 0 ≤ x ∧ x < d) (y : Int) : y ∈ keys (bfs d xss x) ↔ Reach xss x y := by
  have ho := okF_bfs hg hx
  constructor
  · intro h
    simp only [keys, List.mem_map] at h
    obtain ⟨e, he, rfl⟩ := h
    exact ho.2.1 e he
  · intro h
    induction h with
    | refl => exact prefix_keys (bfs_prefix hg hx 0) (by simp [st, keys])
    | step _ hp ih =>
      obtain ⟨k, hk, e⟩ := gen_letter hp
      obtain ⟨j, hj⟩ := List.getElem?_of_mem ih
      obtain ⟨wu, hw⟩ := keys_get hj
      have hl := (List.getElem?_eq_some_iff.1 hw).1
      have := st_closed xss x d j _ wu (by have := ho.len hg hx; omega) hw k hk
      rwa [e] at this

/-- The word by which a point is found. -/
def wordAt (fw : FW) (y : Int) : Option (List Int) := (fw.find? fun e => e.1 == y).map (·.2)
theorem wordAt_some {fw : FW} (h : (keys fw).Nodup) {i : Nat} {y : Int} {w : List Int} (hi : fw[i]? = some (y, w)) : wordAt fw y = some w := by
  induction fw generalizing i with
  | nil => simp at hi
  | cons e t ih =>
    simp only [keys, List.map_cons, List.nodup_cons] at h
    cases i with
    | zero => simp at hi; subst hi; simp [wordAt]
    | succ i =>
      rw [List.getElem?_cons_succ] at hi
      have hne : e.1 ≠ y := by
        intro e'
        refine h.1 (e' ▸ ?_)
        exact List.mem_map.2 ⟨_, List.mem_of_getElem? hi, rfl⟩
      have := ih h.2 hi
      unfold wordAt at this ⊢
      rw [List.find?_cons_of_neg (by simpa using hne)]
      exact this
theorem wordAt_none {fw : FW} {y : Int} (h : y ∉ keys fw) : wordAt fw y = none := by
  unfold wordAt
  rw [Option.map_eq_none_iff, List.find?_eq_none]
  intro e he
  simp only [beq_iff_eq]
  intro e'
  exact h (List.mem_map.2 ⟨e, he, e'⟩)
theorem wordAt_isSome {fw : FW} (h : (keys fw).Nodup) (y : Int) : (wordAt fw y).isSome ↔ y ∈ keys fw := by
  constructor
  · intro hs
    apply Classical.byContradiction
    intro hn
    rw [wordAt_none hn] at hs
    cases hs
  · intro hy
    obtain ⟨i, hi⟩ := List.getElem?_of_mem hy
    obtain ⟨w, hw⟩ := keys_get hi
    rw [wordAt_some h hw]; rfl
theorem wordAt_snoc {fw : FW} {z : Int} {w : List Int} (hz : z ∉ keys fw) (y : Int) : wordAt (fw ++ [(z, w)]) y = if y = z then some w else wordAt fw y := by
  unfold wordAt
  rw [List.find?_append]
  by_cases e : y = z
  · subst e
    have := wordAt_none hz
    unfold wordAt at this
    rw [Option.map_eq_none_iff] at this
    simp [this]
  · rw [if_neg e]
    have : List.find? (fun e => e.1 == y) [(z, w)] = none := by
      simp; exact fun h => e h.symm
    rw [this, Option.or_none]

open Classical in
/-- The orbit of a point, in ascending order. -/
noncomputable def orb (d : Nat) (xss : List (List Int)) (x : Int) : List Int := (idl d).filter fun y => decide (Reach xss x y)
open Classical in
theorem mem_orb {d : Nat} {xss : List (List Int)} (hg : Gens d xss) {x : Int} (hx : 0 ≤ x ∧ x < d) {y : Int} : y ∈ orb d xss x ↔ Reach xss x y := by
  unfold orb
  rw [List.mem_filter, decide_eq_true_iff]
  exact ⟨fun h => h.2, fun h => ⟨mem_idl.2 (h.range hg hx), h⟩⟩
theorem orb_le (d : Nat) (xss : List (List Int)) (x : Int) : (orb d xss x).length ≤ d := by
  unfold orb
  refine Nat.le_trans (List.length_filter_le _ _) ?_
  rw [idl_length]; exact Nat.le_refl _
theorem orb_range {d : Nat} {xss : List (List Int)} {x y : Int} (h : y ∈ orb d xss x) : 0 ≤ y ∧ y < d := mem_idl.1 (List.mem_filter.1 h).1

/-- The least of its orbit. -/
def LeadO (xss : List (List Int)) (x : Int) : Prop := ∀ y, Reach xss x y → x ≤ y
open Classical in
/-- The orbits whose least point is below k. -/
noncomputable def orbsTo (d : Nat) (xss : List (List Int)) (k : Nat) : List (List Int) := ((idl k).filter fun x => decide (LeadO xss x)).map (orb d xss)
noncomputable def orbs (d : Nat) (xss : List (List Int)) : List (List Int) := orbsTo d xss d
open Classical in
theorem orbsTo_succ (d : Nat) (xss : List (List Int)) (k : Nat) : orbsTo d xss (k + 1) = orbsTo d xss k ++ (if LeadO xss k then [orb d xss k] else []) := by
  unfold orbsTo
  rw [idl_succ, List.filter_append, List.map_append]
  congr 1
  by_cases h1 : LeadO xss k <;> simp [h1]
theorem orbsTo_le (d : Nat) (xss : List (List Int)) (k : Nat) : (orbsTo d xss k).length ≤ k := by
  unfold orbsTo
  rw [List.length_map]
  refine Nat.le_trans (List.length_filter_le _ _) ?_
  rw [idl_length]; exact Nat.le_refl _
/-- The points of the orbits that begin below k. -/
def SeenO (xss : List (List Int)) (k : Nat) (y : Int) : Prop := ∃ i : Nat, i < k ∧ Reach xss i y
theorem seenO_self {d : Nat} {xss : List (List Int)} (hg : Gens d xss) {k : Nat} (hk : k < d) : SeenO xss k k ↔ ¬ LeadO xss k := by
  constructor
  · rintro ⟨i, hi, h⟩ hl
    have := hl i (h.symm hg (by omega))
    omega
  · intro hl
    apply Classical.byContradiction
    intro hs
    refine hl fun y hy => ?_
    have hr := hy.range hg (by omega)
    apply Classical.byContradiction
    intro hlt
    refine hs ⟨y.toNat, by omega, ?_⟩
    rw [show ((y.toNat : Nat) : Int) = y by omega]
    exact hy.symm hg (by omega)
theorem seenO_succ {xss : List (List Int)} {k : Nat} (y : Int) : SeenO xss (k + 1) y ↔ SeenO xss k y ∨ Reach xss k y := by
  constructor
  · rintro ⟨i, hi, h⟩
    by_cases hik : i < k
    · exact .inl ⟨i, hik, h⟩
    · obtain rfl : i = k := by omega
      exact .inr h
  · rintro (⟨i, hi, h⟩ | h)
    · exact ⟨i, by omega, h⟩
    · exact ⟨k, by omega, h⟩
theorem seenO_old {d : Nat} {xss : List (List Int)} (hg : Gens d xss) {k : Nat} (hk : k < d) (h : ¬ LeadO xss k) (y : Int) : SeenO xss (k + 1) y ↔ SeenO xss k y := by
  rw [seenO_succ]
  refine ⟨fun h' => h'.elim id fun hr => ?_, .inl⟩
  obtain ⟨i, hi, h2⟩ := (seenO_self hg hk).2 h
  exact ⟨i, hi, h2.trans hr⟩

/-- An ascending list of points is known by its members. -/
theorem sorted_ext : ∀ {l m : List Int}, l.Pairwise (· < ·) → m.Pairwise (· < ·) → (∀ y, y ∈ l ↔ y ∈ m) → l = m
  | [], [], _, _, _ => rfl
  | [], b :: t, _, _, h => by have := (h b).2 List.mem_cons_self; cases this
  | a :: s, [], _, _, h => by have := (h a).1 List.mem_cons_self; cases this
  | a :: s, b :: t, hl, hm, h => by
    rw [List.pairwise_cons] at hl hm
    have e : a = b := by
      have h1 := (h a).1 List.mem_cons_self
      have h2 := (h b).2 List.mem_cons_self
      rcases List.mem_cons.1 h1 with h1 | h1
      · exact h1
      · rcases List.mem_cons.1 h2 with h2 | h2
        · exact h2.symm
        · have := hm.1 a h1
          have := hl.1 b h2
          omega
    subst e
    congr 1
    refine sorted_ext hl.2 hm.2 fun y => ?_
    have hy := h y
    simp only [List.mem_cons] at hy
    constructor
    · intro h1
      rcases hy.1 (.inr h1) with rfl | h2
      · have := hl.1 _ h1; omega
      · exact h2
    · intro h1
      rcases hy.2 (.inr h1) with rfl | h2
      · have := hm.1 _ h1; omega
      · exact h2
theorem idl_sorted (n : Nat) : (idl n).Pairwise (· < ·) := by
  unfold idl
  rw [List.pairwise_map]
  exact List.pairwise_lt_range.imp fun h => by omega
theorem orb_sorted (d : Nat) (xss : List (List Int)) (x : Int) : (orb d xss x).Pairwise (· < ·) := (idl_sorted d).filter _
end Go.Proofs.Ytpijnjhheikmcaa
