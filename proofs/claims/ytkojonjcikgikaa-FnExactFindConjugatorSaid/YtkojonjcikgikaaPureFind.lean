/- Conjugators: the least permutation by which q is a conjugate of p; the next permutation; no program in sight. -/
import Derived.Test.YtkojonjcikgikaaPureSup
namespace Go.Proofs.Ytkojonjcikgikaa

/-- A list as a number to the base 8. -/
def cd : List Int → Nat
  | [] => 0
  | x :: t => x.toNat * 8 ^ t.length + cd t
def Dig (l : List Int) : Prop := ∀ x ∈ l, 0 ≤ x ∧ x < 8
theorem Dig.of_cons {x : Int} {t : List Int} (h : Dig (x :: t)) : Dig t := fun y hy => h y (List.mem_cons_of_mem _ hy)
theorem Dig.perm {l m : List Int} (h : Dig l) (hp : m.Perm l) : Dig m := fun y hy => h y (hp.mem_iff.1 hy)
theorem cd_append (l m : List Int) : cd (l ++ m) = cd l * 8 ^ m.length + cd m := by
  induction l with
  | nil => simp [cd]
  | cons x t ih => simp only [List.cons_append, cd, ih, List.length_append]; rw [Nat.pow_add, Nat.add_mul, Nat.mul_assoc]; omega
theorem dig_lt {K x y a b : Nat} (ha : a < K) (h : x < y) : x * K + a < y * K + b := by
  have : (x + 1) * K ≤ y * K := Nat.mul_le_mul_right K h
  rw [Nat.add_mul] at this
  omega
theorem dig_eq {K x y a b : Nat} (ha : a < K) (hb : b < K) (e : x * K + a = y * K + b) : x = y ∧ a = b := by
  rcases Nat.lt_trichotomy x y with h | h | h
  · have := dig_lt (b := b) ha h; omega
  · subst h; exact ⟨rfl, by omega⟩
  · have := dig_lt (b := a) hb h; omega
theorem cd_lt {l : List Int} (h : Dig l) : cd l < 8 ^ l.length := by
  induction l with
  | nil => simp [cd]
  | cons x t ih =>
    have h1 := ih h.of_cons
    have h2 := h x List.mem_cons_self
    have : x.toNat * 8 ^ t.length + cd t < 8 * 8 ^ t.length + 0 := dig_lt h1 (by omega)
    simp only [cd, List.length_cons, Nat.pow_succ]
    omega
theorem cd_inj : ∀ {l m : List Int}, l.length = m.length → Dig l → Dig m → cd l = cd m → l = m
  | [], [], _, _, _, _ => rfl
  | x :: t, y :: s, hl, h1, h2, e => by
    have hl' : t.length = s.length := by simpa using hl
    simp only [cd] at e
    rw [← hl'] at e
    have h3 := cd_lt h1.of_cons
    have h4 := cd_lt h2.of_cons
    rw [← hl'] at h4
    obtain ⟨e1, e2⟩ := dig_eq h3 h4 e
    have hx := h1 x List.mem_cons_self
    have hy := h2 y List.mem_cons_self
    rw [cd_inj hl' h1.of_cons h2.of_cons e2, show x = y by omega]
theorem asc_least : ∀ {s t : List Int}, Dig s → s.Pairwise (· ≤ ·) → t.Perm s → cd s ≤ cd t
  | [], t, _, _, h => by rw [h.eq_nil]; exact Nat.le_refl _
  | m :: s, [], _, _, h => by have := h.length_eq; simp at this
  | m :: s, x :: t, hd, hs, h => by
    have hl : t.length = s.length := by have := h.length_eq; simpa using this
    have hx : x ∈ m :: s := h.mem_iff.1 List.mem_cons_self
    have hdx := hd x hx
    have hdm := hd m List.mem_cons_self
    simp only [cd, hl]
    rcases List.mem_cons.1 hx with e | hx
    · subst e
      have := asc_least hd.of_cons (List.pairwise_cons.1 hs).2 h.cons_inv
      omega
    · have hmx := (List.pairwise_cons.1 hs).1 x hx
      by_cases e : m = x
      · subst e
        have := asc_least hd.of_cons (List.pairwise_cons.1 hs).2 h.cons_inv
        omega
      · exact Nat.le_of_lt (dig_lt (cd_lt hd.of_cons) (by omega))
theorem desc_most : ∀ {s t : List Int}, Dig s → s.Pairwise (· ≥ ·) → t.Perm s → cd t ≤ cd s
  | [], t, _, _, h => by rw [h.eq_nil]; exact Nat.le_refl _
  | m :: s, [], _, _, h => by have := h.length_eq; simp at this
  | m :: s, x :: t, hd, hs, h => by
    have hl : t.length = s.length := by have := h.length_eq; simpa using this
    have hx : x ∈ m :: s := h.mem_iff.1 List.mem_cons_self
    have hdx := hd x hx
    have hdm := hd m List.mem_cons_self
    have hdt : Dig t := (hd.perm h).of_cons
    simp only [cd, hl]
    rcases List.mem_cons.1 hx with e | hx
    · subst e
      have := desc_most hd.of_cons (List.pairwise_cons.1 hs).2 h.cons_inv
      omega
    · have hmx := (List.pairwise_cons.1 hs).1 x hx
      by_cases e : m = x
      · subst e
        have := desc_most hd.of_cons (List.pairwise_cons.1 hs).2 h.cons_inv
        omega
      · have := cd_lt hdt
        rw [hl] at this
        exact Nat.le_of_lt (dig_lt this (by omega))

/-- The next permutation: behind a the entry u, behind it a falling rest, of which v is the last that is greater than u. -/
theorem next_perm (a s1 s2 : List Int) (u v : Int) : (a ++ v :: (s1 ++ u :: s2).reverse).Perm (a ++ u :: (s1 ++ v :: s2)) := by
  refine List.Perm.append_left a ?_
  have h1 : (v :: (s1 ++ u :: s2).reverse).Perm (v :: (s1 ++ u :: s2)) := (List.reverse_perm _).cons _
  have h2 : (v :: (s1 ++ u :: s2)).Perm (v :: u :: (s1 ++ s2)) := List.perm_middle.cons _
  have h3 : (u :: (s1 ++ v :: s2)).Perm (u :: v :: (s1 ++ s2)) := List.perm_middle.cons _
  exact (h1.trans h2).trans ((List.Perm.swap _ _ _).trans h3.symm)
theorem next_min {a s1 s2 : List Int} {u v : Int} (hd : Dig (a ++ u :: (s1 ++ v :: s2))) (hs : (s1 ++ v :: s2).Pairwise (· > ·)) (huv : u < v) (h2 : ∀ z ∈ s2, z < u) :
    cd (a ++ u :: (s1 ++ v :: s2)) < cd (a ++ v :: (s1 ++ u :: s2).reverse) ∧
    ∀ y : List Int, y.Perm (a ++ u :: (s1 ++ v :: s2)) → cd (a ++ u :: (s1 ++ v :: s2)) < cd y → cd (a ++ v :: (s1 ++ u :: s2).reverse) ≤ cd y := by
  have hda : Dig a := fun x hx => hd x (List.mem_append_left _ hx)
  have hdt : Dig (u :: (s1 ++ v :: s2)) := fun x hx => hd x (List.mem_append_right _ hx)
  have hu := hdt u List.mem_cons_self
  have hv := hdt v (by simp)
  have hdx : Dig (a ++ v :: (s1 ++ u :: s2).reverse) := hd.perm (next_perm a s1 s2 u v)
  have hdx' : Dig (v :: (s1 ++ u :: s2).reverse) := fun x hx => hdx x (List.mem_append_right _ hx)
  have hlen : (s1 ++ u :: s2).reverse.length = (s1 ++ v :: s2).length := by simp; omega
  have hs' := List.pairwise_append.1 hs
  have hs2 := List.pairwise_cons.1 hs'.2.1
  have hfall : (s1 ++ u :: s2).Pairwise (· ≥ ·) := by
    rw [List.pairwise_append, List.pairwise_cons]
    refine ⟨hs'.1.imp fun h => Int.le_of_lt h, ⟨fun z hz => Int.le_of_lt (h2 z hz), hs2.2.imp fun h => Int.le_of_lt h⟩, ?_⟩
    intro x hx z hz
    have hxv := hs'.2.2 x hx v List.mem_cons_self
    rcases List.mem_cons.1 hz with rfl | hz
    · omega
    · have := h2 z hz; omega
  constructor
  · rw [cd_append, cd_append, cd, cd]
    simp only [List.length_cons, hlen]
    have := dig_lt (b := cd (s1 ++ u :: s2).reverse) (cd_lt hdt.of_cons) (show u.toNat < v.toNat by omega)
    omega
  · intro y hy hlt
    have hdy := hd.perm hy
    have hyl := hy.length_eq
    have e0 : y = y.take a.length ++ y.drop a.length := (List.take_append_drop _ _).symm
    obtain ⟨a', ha'⟩ : ∃ a', a' = y.take a.length := ⟨_, rfl⟩
    obtain ⟨b', hb'⟩ : ∃ b', b' = y.drop a.length := ⟨_, rfl⟩
    rw [← ha', ← hb'] at e0
    have hla : a'.length = a.length := by rw [ha', List.length_take, hyl]; simp
    have hlb : b'.length = (s1 ++ v :: s2).length + 1 := by rw [hb', List.length_drop, hyl]; simp
    clear ha' hb'
    cases b' with
    | nil => simp at hlb
    | cons u' s' =>
    have hls : s'.length = (s1 ++ v :: s2).length := by simpa using hlb
    subst e0
    have hda' : Dig a' := fun x hx => hdy x (List.mem_append_left _ hx)
    have hdb : Dig (u' :: s') := fun x hx => hdy x (List.mem_append_right _ hx)
    have hu' := hdb u' List.mem_cons_self
    rw [cd_append, cd_append (l := a')] at hlt
    rw [cd_append, cd_append (l := a')]
    have L1 := cd_lt hdt
    have L2 := cd_lt hdb
    have L3 := cd_lt hdx'
    have q1 : (u' :: s').length = (u :: (s1 ++ v :: s2)).length := by simp only [List.length_cons]; omega
    have q2 : (v :: (s1 ++ u :: s2).reverse).length = (u :: (s1 ++ v :: s2)).length := by simp only [List.length_cons]; omega
    rw [q1] at hlt L2 ⊢
    rw [q2] at L3 ⊢
    rcases Nat.lt_trichotomy (cd a') (cd a) with h | h | h
    · have := dig_lt (b := cd (u :: (s1 ++ v :: s2))) L2 h; omega
    · have ea : a' = a := cd_inj hla hda' hda h
      subst ea
      have hp : (u' :: s').Perm (u :: (s1 ++ v :: s2)) := (List.perm_append_left_iff _).1 hy
      have hlt2 : cd (u :: (s1 ++ v :: s2)) < cd (u' :: s') := by omega
      suffices hh : cd (v :: (s1 ++ u :: s2).reverse) ≤ cd (u' :: s') by omega
      simp only [cd, hlen, hls] at hlt2 ⊢
      have M1 := cd_lt hdt.of_cons
      have M2 := cd_lt hdb.of_cons
      have M3 := cd_lt hdx'.of_cons
      rw [hls] at M2
      rw [hlen] at M3
      have hu2 : u ≤ u' := by
        apply Classical.byContradiction
        intro hc
        have := dig_lt (b := cd (s1 ++ v :: s2)) M2 (show u'.toNat < u.toNat by omega)
        omega
      by_cases e1 : u' = u
      · subst e1
        have := desc_most hdt.of_cons (hs.imp fun h => Int.le_of_lt h) hp.cons_inv
        omega
      · have hm : u' ∈ s1 ++ v :: s2 := by
          have := hp.mem_iff.1 (List.mem_cons_self (a := u') (l := s'))
          exact (List.mem_cons.1 this).resolve_left e1
        have hvu : v ≤ u' := by
          rcases List.mem_append.1 hm with hm | hm
          · exact Int.le_of_lt (hs'.2.2 u' hm v List.mem_cons_self)
          · rcases List.mem_cons.1 hm with rfl | hm
            · exact Int.le_refl _
            · have := h2 u' hm; omega
        by_cases e2 : u' = v
        · subst e2
          have hp2 : s'.Perm (s1 ++ u :: s2) := by
            have h3 : (u :: (s1 ++ u' :: s2)).Perm (u' :: (s1 ++ u :: s2)) :=
              (List.perm_middle.cons _).trans ((List.Perm.swap _ _ _).trans (List.perm_middle.symm.cons _))
            exact (hp.trans h3).cons_inv
          have := asc_least hdx'.of_cons (by rw [List.pairwise_reverse]; exact hfall) (hp2.trans (List.reverse_perm _).symm)
          omega
        · exact Nat.le_of_lt (dig_lt M3 (by omega))
    · exact Nat.le_of_lt (dig_lt L3 h)

/-! Conjugators. -/
def cj (p x : List Int) : List Int := comp (comp (inv x) p) x
def SolC (p q x : List Int) : Prop := (IsPerm x ∧ x.length = p.length) ∧ cj p x = q
def SolX (p q x y : List Int) : Prop := SolC p q y ∧ x <+: y
theorem SolC.dig {p q x : List Int} (h : SolC p q x) (hn : p.length ≤ 7) : Dig x := fun y hy => by have := h.1.1.range y hy; have := h.1.2; omega
theorem exists_ext {p q x : List Int} (h : ∃ y, SolX p q x y) : ∃ y, SolX p q x y ∧ ∀ z, SolX p q x z → cd y ≤ cd z := by
  obtain ⟨y, hy⟩ := h
  obtain ⟨j, _, ⟨z, hz, e⟩, hmin⟩ := exists_least (P := fun c => ∃ z, SolX p q x z ∧ cd z = c) ⟨y, hy, rfl⟩
  refine ⟨z, hz, fun t ht => ?_⟩
  rw [e]
  rcases Nat.lt_or_ge (cd t) j with hh | hh
  · exact absurd ⟨t, ht, rfl⟩ (hmin _ hh)
  · exact hh
open Classical in
noncomputable def extC (p q x : List Int) : List Int := if h : ∃ y, SolX p q x y then Classical.choose (exists_ext h) else []
theorem extC_eq {p q x z : List Int} (hn : p.length ≤ 7) (hz : SolX p q x z) (hmin : ∀ y, SolX p q x y → cd z ≤ cd y) : extC p q x = z := by
  have h : ∃ y, SolX p q x y := ⟨z, hz⟩
  unfold extC
  rw [dif_pos h]
  have h1 := Classical.choose_spec (exists_ext h)
  have h2 := h1.2 z hz
  have h3 := hmin _ h1.1
  exact cd_inj (h1.1.1.1.2.trans hz.1.1.2.symm) (h1.1.1.dig hn) (hz.1.dig hn) (by omega)
theorem extC_none {p q x : List Int} (h : ¬ ∃ y, SolX p q x y) : extC p q x = [] := by unfold extC; rw [dif_neg h]
theorem extC_some {p q x : List Int} (h : ∃ y, SolX p q x y) : SolX p q x (extC p q x) ∧ ∀ z, SolX p q x z → cd (extC p q x) ≤ cd z := by
  unfold extC
  rw [dif_pos h]
  exact Classical.choose_spec (exists_ext h)
theorem prefix_step {x y : List Int} (h : x <+: y) (hl : x.length < y.length) : ∃ v s, y = x ++ v :: s := by
  obtain ⟨t, rfl⟩ := h
  cases t with
  | nil => simp at hl
  | cons v s => exact ⟨v, s, rfl⟩
/-- The reference's search: the first v that leads to a solution leads to the least. -/
theorem extC_step {p q x : List Int} (hn : p.length ≤ 7) (hx : x.length < p.length) {v : Int} (hex : ∃ y, SolX p q (x ++ [v]) y) (hno : ∀ v' : Int, 0 ≤ v' → v' < v → v' ∉ x → ¬ ∃ y, SolX p q (x ++ [v']) y) : extC p q x = extC p q (x ++ [v]) := by
  obtain ⟨h1, h2⟩ := extC_some hex
  have hpre : x <+: extC p q (x ++ [v]) := (List.prefix_append x [v]).trans h1.2
  refine extC_eq hn ⟨h1.1, hpre⟩ fun y hy => ?_
  obtain ⟨v', s, rfl⟩ := prefix_step hy.2 (by rw [hy.1.1.2]; exact hx)
  have hd := hy.1.dig hn
  have hv' := hd v' (by simp)
  have hnx : v' ∉ x := by
    intro hm
    have hnd := hy.1.1.1.2.2.2
    rw [List.nodup_append] at hnd
    exact hnd.2.2 v' hm v' List.mem_cons_self rfl
  have hpy : SolX p q (x ++ [v']) (x ++ v' :: s) := ⟨hy.1, ⟨s, by simp⟩⟩
  have hvv : v ≤ v' := by
    apply Classical.byContradiction
    intro hc
    exact hno v' hv'.1 (by omega) hnx ⟨_, hpy⟩
  by_cases e : v' = v
  · subst e; exact h2 _ hpy
  · obtain ⟨s2, e2⟩ := h1.2
    have hd2 := h1.1.dig hn
    have hl2 := h1.1.1.2
    rw [← e2] at hd2 hl2 ⊢
    have hl1 := hy.1.1.2
    rw [List.append_assoc] at hd2 hl2 ⊢
    have hs : s2.length = s.length := by simp at hl1 hl2; omega
    simp only [List.singleton_append]
    rw [cd_append x (v :: s2), cd_append x (v' :: s)]
    simp only [List.length_cons, cd, hs]
    have hv := hd2 v (by simp)
    have hds : Dig s2 := fun z hz => hd2 z (by simp [hz])
    have := cd_lt hds
    rw [hs] at this
    have := dig_lt (b := cd s) this (show v.toNat < v'.toNat by omega)
    omega
theorem extC_stuck {p q x : List Int} (hx : x.length < p.length) (hno : ∀ v : Int, 0 ≤ v → v < p.length → v ∉ x → ¬ ∃ y, SolX p q (x ++ [v]) y) : ¬ ∃ y, SolX p q x y := by
  rintro ⟨y, hy⟩
  obtain ⟨v, s, rfl⟩ := prefix_step hy.2 (by rw [hy.1.1.2]; exact hx)
  have hr := hy.1.1.1.range v (by simp)
  rw [hy.1.1.2] at hr
  refine hno v hr.1 hr.2 (fun hm => ?_) ⟨_, hy.1, ⟨s, by simp⟩⟩
  have hnd := hy.1.1.1.2.2.2
  rw [List.nodup_append] at hnd
  exact hnd.2.2 v hm v List.mem_cons_self rfl
theorem extC_leaf {p q x : List Int} (hn : p.length ≤ 7) (hx : IsPerm x) (hl : x.length = p.length) : extC p q x = if cj p x = q then x else [] := by
  have key : ∀ y, SolX p q x y → y = x := by
    intro y hy
    obtain ⟨t, rfl⟩ := hy.2
    have := hy.1.1.2
    rw [List.length_append] at this
    rw [List.eq_nil_of_length_eq_zero (show t.length = 0 by omega), List.append_nil]
  by_cases e : cj p x = q
  · rw [if_pos e]
    refine extC_eq hn ⟨⟨⟨hx, hl⟩, e⟩, List.prefix_refl x⟩ fun y hy => ?_
    rw [key y hy]
    exact Nat.le_refl _
  · rw [if_neg e]
    refine extC_none ?_
    rintro ⟨y, hy⟩
    have := key y hy
    subst this
    exact e hy.1.2

/-! There is a conjugator where the cycle types are one. -/
noncomputable def srtC (p : List Int) : List (List Int) := (allC p).mergeSort fun c d => decide (d.length ≤ c.length)
theorem srtC_perm (p : List Int) : (srtC p).Perm (allC p) := List.mergeSort_perm _ _
theorem srtC_lens (p : List Int) : lens (srtC p) = ctype p := by
  have h := List.pairwise_mergeSort (le := fun (c d : List Int) => decide (d.length ≤ c.length)) (fun a b c h1 h2 => by simp only [decide_eq_true_eq] at *; omega) (fun a b => by simp only [Bool.or_eq_true, decide_eq_true_eq]; omega) (allC p)
  have h1 : (lens (srtC p)).Pairwise (· ≥ ·) := by
    unfold lens
    rw [List.pairwise_map]
    exact h.imp fun h => by have := of_decide_eq_true h; omega
  have h2 : (lens (srtC p)).Perm (lens (allC p)) := (srtC_perm p).map _
  unfold ctype
  rw [asc_eq (s := (lens (srtC p)).reverse) (h2.symm.trans (List.reverse_perm _).symm) (by rw [List.pairwise_reverse]; exact h1), List.reverse_reverse]
theorem srtC_next {p : List Int} (hp : IsPerm p) {c : List Int} (hc : c ∈ srtC p) {j : Nat} {x : Int} (hx : c[j]? = some x) : c[(j + 1) % c.length]? = some (at0 p x) := by
  have hc := (srtC_perm p).mem_iff.1 hc
  simp only [allC, List.mem_map, List.mem_filter] at hc
  obtain ⟨y, ⟨hy, _⟩, rfl⟩ := hc
  have hy := mem_idl.1 hy
  have hj : j < per p y := by rw [← cyc_length p y]; exact (List.getElem?_eq_some_iff.1 hx).1
  have e : it p j y = x := by rw [cyc_eq, run_get hj] at hx; exact Option.some.inj hx
  rw [cyc_length, cyc_eq, run_get (Nat.mod_lt _ (by omega)), ← it_mod (per_spec hp hy).2.2.1 (j + 1), it_succ, e]
theorem srtC_flat {p : List Int} (hp : IsPerm p) : (srtC p).flatten.Nodup ∧ ∀ x : Int, x ∈ (srtC p).flatten ↔ 0 ≤ x ∧ x < p.length := by
  have hsurj : ∀ x : Int, 0 ≤ x ∧ x < p.length → x ∈ (srtC p).flatten := by
    intro x hx
    obtain ⟨y, hy, hl⟩ := has_lead hp hx
    rw [List.mem_flatten]
    refine ⟨cyc p y, (srtC_perm p).mem_iff.2 ?_, mem_cyc_symm hp hx hy⟩
    simp only [allC, List.mem_map, List.mem_filter]
    exact ⟨y, ⟨mem_idl.2 (mem_cyc_range hp hx hy), by simpa using hl⟩, rfl⟩
  have hr : ∀ x : Int, x ∈ (srtC p).flatten → 0 ≤ x ∧ x < p.length := by
    intro x hx
    rw [List.mem_flatten] at hx
    obtain ⟨c, hc, hx⟩ := hx
    have hc := (srtC_perm p).mem_iff.1 hc
    simp only [allC, List.mem_map, List.mem_filter] at hc
    obtain ⟨y, ⟨hy, _⟩, rfl⟩ := hc
    exact mem_cyc_range hp (mem_idl.1 hy) hx
  have hl : (srtC p).flatten.length = p.length := by
    rw [(srtC_perm p).flatten.length_eq]
    exact cyc_flatten hp
  exact ⟨(nodup_iff_surj hl hr).2 fun i h0 h1 => hsurj i ⟨h0, h1⟩, fun x => ⟨hr x, hsurj x⟩⟩
theorem zip_flat : ∀ {A B : List (List Int)}, lens A = lens B → ∀ {v y : Int}, (v, y) ∈ List.zip A.flatten B.flatten ↔ ∃ c d, (c, d) ∈ List.zip A B ∧ (v, y) ∈ List.zip c d
  | [], [], _, v, y => by simp
  | [], d :: B, h, _, _ => by simp [lens] at h
  | c :: A, [], h, _, _ => by simp [lens] at h
  | c :: A, d :: B, h, v, y => by
    have h1 : c.length = d.length := by have h0 : (c.length : Int) = d.length := (List.cons.inj h).1; omega
    have h2 : lens A = lens B := (List.cons.inj h).2
    have e : List.zip (c :: A).flatten (d :: B).flatten = List.zip c d ++ List.zip A.flatten B.flatten := by
      rw [List.flatten_cons, List.flatten_cons]
      exact List.zip_append h1
    rw [e, List.mem_append, zip_flat h2]
    constructor
    · rintro (h | ⟨c', d', h3, h4⟩)
      · exact ⟨c, d, by simp, h⟩
      · exact ⟨c', d', by simp [h3], h4⟩
    · rintro ⟨c', d', h3, h4⟩
      rw [List.zip_cons_cons] at h3
      rcases List.mem_cons.1 h3 with h3 | h3
      · cases h3; exact .inl h4
      · exact .inr ⟨c', d', h3, h4⟩
theorem zip_get {c d : List Int} {v y : Int} : (v, y) ∈ List.zip c d ↔ ∃ j : Nat, c[j]? = some v ∧ d[j]? = some y := by
  rw [List.mem_iff_getElem?]
  constructor
  · rintro ⟨j, h⟩; exact ⟨j, by rw [List.getElem?_zip_eq_some] at h; exact h⟩
  · rintro ⟨j, h⟩; exact ⟨j, by rw [List.getElem?_zip_eq_some]; exact h⟩
theorem zip_len {A B : List (List Int)} (h : lens A = lens B) {c d : List Int} (hm : (c, d) ∈ List.zip A B) : c.length = d.length ∧ c ∈ A ∧ d ∈ B := by
  refine ⟨?_, (List.of_mem_zip hm).1, (List.of_mem_zip hm).2⟩
  rw [List.mem_iff_getElem?] at hm
  obtain ⟨j, hj⟩ := hm
  rw [List.getElem?_zip_eq_some] at hj
  have h1 : (lens A)[j]? = some (c.length : Int) := by simp [lens, hj.1]
  have h2 : (lens B)[j]? = some (d.length : Int) := by simp [lens, hj.2]
  rw [h, h2] at h1
  have := Option.some.inj h1
  omega
theorem has_conj {p q : List Int} (hp : IsPerm p) (hq : IsPerm q) (hl : p.length = q.length) (h : ctype p = ctype q) : ∃ x, SolC p q x := by
  have he : lens (srtC p) = lens (srtC q) := by rw [srtC_lens, srtC_lens, h]
  obtain ⟨np, mp⟩ := srtC_flat hp
  obtain ⟨nq, mq⟩ := srtC_flat hq
  obtain ⟨A, hA⟩ : ∃ A, A = (srtC p).flatten := ⟨_, rfl⟩
  obtain ⟨B, hB⟩ : ∃ B, B = (srtC q).flatten := ⟨_, rfl⟩
  have hAl : A.length = p.length := by rw [hA, (srtC_perm p).flatten.length_eq]; exact cyc_flatten hp
  have hBl : B.length = p.length := by rw [hB, (srtC_perm q).flatten.length_eq, hl]; exact cyc_flatten hq
  have hstep : ∀ v y : Int, (∃ j : Nat, A[j]? = some v ∧ B[j]? = some y) → ∃ j : Nat, A[j]? = some (at0 p v) ∧ B[j]? = some (at0 q y) := by
    intro v y hvy
    rw [← zip_get, hA, hB, zip_flat he] at hvy ⊢
    obtain ⟨c, d, h1, h2⟩ := hvy
    obtain ⟨h3, h4, h5⟩ := zip_len he h1
    rw [zip_get] at h2
    obtain ⟨j, h6, h7⟩ := h2
    refine ⟨c, d, h1, zip_get.2 ⟨(j + 1) % c.length, srtC_next hp h4 h6, ?_⟩⟩
    rw [h3]
    exact srtC_next hq h5 h7
  rw [← hA] at np mp
  rw [← hB] at nq mq
  clear he hA hB
  -- x v: what stands in B where v stands in A
  obtain ⟨f, hf⟩ : ∃ f : Int → Int, f = fun v => at0 B (A.idxOf v : Nat) := ⟨_, rfl⟩
  have hfv : ∀ v : Int, 0 ≤ v ∧ v < p.length → ∃ j : Nat, A[j]? = some v ∧ B[j]? = some (f v) := by
    intro v hv
    have hm := (mp v).2 hv
    have hi := List.idxOf_lt_length_of_mem hm
    refine ⟨A.idxOf v, by rw [List.getElem?_eq_getElem hi, List.getElem_idxOf hi], ?_⟩
    rw [hf]
    have : B[A.idxOf v]? = some B[A.idxOf v] := List.getElem?_eq_getElem (by omega)
    simp only [at0, Int.toNat_natCast, this, Option.getD_some]
  have hfu : ∀ (j : Nat) (v y : Int), A[j]? = some v → B[j]? = some y → f v = y := by
    intro j v y h1 h2
    obtain ⟨j', h3, h4⟩ := hfv v ((mp v).1 (List.mem_of_getElem? h1))
    have : j' = j := (List.getElem?_inj (List.getElem?_eq_some_iff.1 h3).1 np).1 (h3.trans h1.symm)
    subst this
    exact Option.some.inj (h4.symm.trans h2)
  obtain ⟨x, hx⟩ : ∃ x, x = (idl p.length).map f := ⟨_, rfl⟩
  have hxl : x.length = p.length := by rw [hx, List.length_map, idl_length]
  have hxa : ∀ v : Int, 0 ≤ v ∧ v < p.length → at0 x v = f v := by
    intro v hv
    refine at0_of ?_
    rw [hx, List.getElem?_map, idl_get (by omega), Option.map_some]
    congr 2
    omega
  have hfr : ∀ v : Int, 0 ≤ v ∧ v < p.length → 0 ≤ f v ∧ f v < p.length := by
    intro v hv
    obtain ⟨j, _, h2⟩ := hfv v hv
    have := (mq (f v)).1 (List.mem_of_getElem? h2)
    rw [hl]; exact this
  have hsurj : ∀ y : Int, 0 ≤ y ∧ y < p.length → ∃ v : Int, (0 ≤ v ∧ v < p.length) ∧ f v = y := by
    intro y hy
    have hm := (mq y).2 (by rw [← hl]; exact hy)
    obtain ⟨j, hj⟩ := List.mem_iff_getElem?.1 hm
    have hjl := (List.getElem?_eq_some_iff.1 hj).1
    have h1 : A[j]? = some (A[j]'(by omega)) := List.getElem?_eq_getElem (by omega)
    exact ⟨_, (mp _).1 (List.mem_of_getElem? h1), hfu j _ _ h1 hj⟩
  have hperm : IsPerm x := by
    refine isPerm_of_surj hxl hp.1 hp.2.1 ?_ ?_
    · intro z hz
      rw [hx, List.mem_map] at hz
      obtain ⟨v, hv, rfl⟩ := hz
      exact hfr v (mem_idl.1 hv)
    · intro z h0 h1
      obtain ⟨v, hv, e⟩ := hsurj z ⟨h0, h1⟩
      rw [hx, List.mem_map]
      exact ⟨v, mem_idl.2 hv, e⟩
  refine ⟨x, ⟨hperm, hxl⟩, ?_⟩
  have hil : (inv x).length = p.length := by rw [inv_length, hxl]
  refine List.ext_getElem? fun i => ?_
  by_cases hi : i < p.length
  · have hcl : (cj p x).length = p.length := by unfold cj; rw [comp_length, comp_length, hil]
    have e1 : (cj p x)[i]? = some (at0 (cj p x) i) := by
      rw [at0, Int.toNat_natCast, List.getElem?_eq_getElem (by omega)]; rfl
    have e2 : q[i]? = some (at0 q i) := by rw [at0, Int.toNat_natCast, List.getElem?_eq_getElem (by omega)]; rfl
    rw [e1, e2]
    congr 1
    have hzr : (0 : Int) ≤ i ∧ (i : Int) < p.length := ⟨by omega, by omega⟩
    unfold cj
    rw [comp_at0 (by omega) (by rw [comp_length, hil]; omega), comp_at0 (by omega) (by rw [hil]; omega)]
    have hvr := (isPerm_inv hperm).at0_range (x := (i : Int)) (by omega) (by rw [hil]; omega)
    rw [hil] at hvr
    have hback : f (at0 (inv x) i) = i := by
      rw [← hxa _ hvr]
      exact at0_inv hperm (by omega) (by omega)
    have hpr := hp.at0_range hvr.1 hvr.2
    rw [hxa _ hpr]
    obtain ⟨j, h1, h2⟩ := hfv _ hvr
    obtain ⟨j', h3, h4⟩ := hstep _ _ ⟨j, h1, h2⟩
    rw [hback] at h4
    exact hfu j' _ _ h3 h4
  · have hcl : (cj p x).length = p.length := by unfold cj; rw [comp_length, comp_length, hil]
    rw [List.getElem?_eq_none (by omega), List.getElem?_eq_none (by omega)]

end Go.Proofs.Ytkojonjcikgikaa
