/- Ascending order; the support and the cycle type of a permutation; no program in sight. -/
import Derived.Test.YtkojonjcikgikaaPureOrder
namespace Go.Proofs.Ytkojonjcikgikaa

def asc (l : List Int) : List Int := l.mergeSort fun x y => decide (x ≤ y)
theorem asc_perm (l : List Int) : (asc l).Perm l := List.mergeSort_perm _ _
theorem asc_sorted (l : List Int) : (asc l).Pairwise (· ≤ ·) := by
  have h := List.pairwise_mergeSort (le := fun (x y : Int) => decide (x ≤ y)) (fun a b c h1 h2 => by simp only [decide_eq_true_eq] at *; omega) (fun a b => by simp only [Bool.or_eq_true, decide_eq_true_eq]; omega) l
  exact h.imp fun h => by simpa using h
theorem asc_eq {l s : List Int} (h : l.Perm s) (hs : s.Pairwise (· ≤ ·)) : asc l = s :=
  List.Perm.eq_of_pairwise (le := fun a b : Int => a ≤ b) (fun _ _ _ _ h1 h2 => Int.le_antisymm h1 h2) (asc_sorted l) hs ((asc_perm l).trans h)
theorem asc_length (l : List Int) : (asc l).length = l.length := (asc_perm l).length_eq
theorem asc_mem (l : List Int) (x : Int) : x ∈ asc l ↔ x ∈ l := (asc_perm l).mem_iff

/-- The points below k that p moves; their images. -/
def supTo (p : List Int) (k : Nat) : List Int := (idl k).filter fun i => decide (at0 p i ≠ i)
def movTo (p : List Int) (k : Nat) : List Int := (supTo p k).map (at0 p)
theorem supTo_succ (p : List Int) (k : Nat) : supTo p (k + 1) = supTo p k ++ (if at0 p k ≠ k then [(k : Int)] else []) := by
  unfold supTo
  rw [idl_succ, List.filter_append]
  congr 1
  by_cases h : at0 p k = k <;> simp [h]
theorem movTo_succ (p : List Int) (k : Nat) : movTo p (k + 1) = movTo p k ++ (if at0 p k ≠ k then [at0 p k] else []) := by
  unfold movTo
  rw [supTo_succ, List.map_append]
  congr 1
  by_cases h : at0 p k = k <;> simp [h]
theorem supTo_le (p : List Int) (k : Nat) : (supTo p k).length ≤ k := by
  unfold supTo
  exact Nat.le_trans (List.length_filter_le _ _) (by rw [idl_length]; exact Nat.le_refl _)
theorem movTo_le (p : List Int) (k : Nat) : (movTo p k).length ≤ k := by unfold movTo; rw [List.length_map]; exact supTo_le p k
theorem mem_supTo {p : List Int} {k : Nat} {x : Int} : x ∈ supTo p k ↔ (0 ≤ x ∧ x < k) ∧ at0 p x ≠ x := by
  simp only [supTo, List.mem_filter, mem_idl, decide_eq_true_eq]
theorem idl_sorted (n : Nat) : (idl n).Pairwise (· < ·) := by
  unfold idl
  rw [List.pairwise_map]
  exact List.pairwise_lt_range.imp fun h => by exact_mod_cast h
theorem supTo_nodup (p : List Int) (k : Nat) : (supTo p k).Nodup := (idl_nodup k).filter _
theorem sup_asc {p : List Int} (hp : IsPerm p) : asc (movTo p p.length) = supTo p p.length := by
  refine asc_eq ?_ (((idl_sorted p.length).filter _).imp fun h => Int.le_of_lt h)
  have hn : (movTo p p.length).Nodup := by
    unfold movTo
    rw [List.Nodup, List.pairwise_map]
    refine List.Pairwise.imp_of_mem ?_ (supTo_nodup p p.length)
    intro x y hx hy hne e
    exact hne (at0_inj hp (mem_supTo.1 hx).1 (mem_supTo.1 hy).1 e)
  rw [List.perm_ext_iff_of_nodup hn (supTo_nodup p p.length)]
  intro y
  unfold movTo
  rw [List.mem_map]
  constructor
  · rintro ⟨x, hx, rfl⟩
    rw [mem_supTo] at hx ⊢
    have hr := hp.at0_range hx.1.1 hx.1.2
    exact ⟨hr, fun e => hx.2 (at0_inj hp hr hx.1 e)⟩
  · intro hy
    rw [mem_supTo] at hy
    have e := at0_inv hp hy.1.1 hy.1.2
    have hi := isPerm_inv hp
    have hr := hi.at0_range (x := y) hy.1.1 (by rw [inv_length]; exact hy.1.2)
    rw [inv_length] at hr
    refine ⟨at0 (inv p) y, ?_, e⟩
    rw [mem_supTo]
    refine ⟨hr, fun h => hy.2 ?_⟩
    rw [e] at h
    rw [← h] at e
    exact e
def pSupport (p : List Int) : List Int := if IsPerm p then supTo p p.length else []

/-- The lengths of rows. -/
def lens (l : List (List Int)) : List Int := l.map fun c => (c.length : Int)
theorem lens_snoc (l : List (List Int)) (c : List Int) : lens (l ++ [c]) = lens l ++ [(c.length : Int)] := by simp [lens]
theorem mem_lens {l : List (List Int)} {x : Int} : x ∈ lens l ↔ ∃ c ∈ l, x = c.length := by
  unfold lens; rw [List.mem_map]; exact ⟨fun ⟨c, h, e⟩ => ⟨c, h, e.symm⟩, fun ⟨c, h, e⟩ => ⟨c, h, e.symm⟩⟩
theorem allC_len {p : List Int} (hp : IsPerm p) {c : List Int} (hc : c ∈ allC p) : 1 ≤ c.length ∧ c.length ≤ p.length := by
  simp only [allC, List.mem_map, List.mem_filter] at hc
  obtain ⟨x, ⟨hx, _⟩, rfl⟩ := hc
  rw [cyc_length]
  have := per_spec hp (mem_idl.1 hx)
  exact ⟨this.1, this.2.1⟩
/-- The lengths of all cycles, falling. -/
noncomputable def ctype (p : List Int) : List Int := (asc (lens (allC p))).reverse
noncomputable def pCycleType (p : List Int) : List Int := if IsPerm p then ctype p else []

/-- The lengths above top - j, falling: as the reference counts them. -/
def dsc (L : List (List Int)) (top : Nat) : Nat → List Int
  | 0 => []
  | j + 1 => dsc L top j ++ lens (L.filter fun c => decide (c.length = top - j))
theorem dsc_count (L : List (List Int)) (top : Nat) : ∀ j, j ≤ top → ∀ x : Int, (dsc L top j).count x = if (top : Int) - j < x ∧ x ≤ top then (lens L).count x else 0 := by
  intro j
  induction j with
  | zero => intro _ x; rw [dsc, if_neg (by omega)]; rfl
  | succ j ih =>
    intro hj x
    rw [dsc, List.count_append, ih (by omega)]
    by_cases hx : x = ((top - j : Nat) : Int)
    · rw [if_neg (by omega), if_pos (by omega)]
      have : (lens (L.filter fun c => decide (c.length = top - j))) = (lens L).filter fun y => decide (y = x) := by
        unfold lens
        rw [List.filter_map]
        congr 1
        refine List.filter_congr fun c _ => ?_
        simp only [Function.comp, hx]
        congr 1
        exact propext ⟨fun h => by rw [h], fun h => by omega⟩
      rw [this, List.count_filter (by simp)]
      omega
    · have h0 : (lens (L.filter fun c => decide (c.length = top - j))).count x = 0 := by
        rw [List.count_eq_zero]
        intro h
        rw [mem_lens] at h
        obtain ⟨c, hc, e⟩ := h
        rw [List.mem_filter] at hc
        have := of_decide_eq_true hc.2
        rw [this] at e
        exact hx e
      rw [h0]
      by_cases h1 : (top : Int) - j < x ∧ x ≤ top
      · rw [if_pos h1, if_pos (by omega)]; rfl
      · rw [if_neg h1, if_neg (by omega)]
theorem dsc_sorted (L : List (List Int)) (top : Nat) : ∀ j, j ≤ top → (dsc L top j).Pairwise (· ≥ ·) ∧ ∀ x ∈ dsc L top j, (top : Int) - j < x := by
  intro j
  induction j with
  | zero => intro _; exact ⟨List.Pairwise.nil, by simp [dsc]⟩
  | succ j ih =>
    intro hj
    obtain ⟨h1, h2⟩ := ih (by omega)
    have h3 : ∀ x ∈ lens (L.filter fun c => decide (c.length = top - j)), x = (top : Int) - j := by
      intro x hx
      rw [mem_lens] at hx
      obtain ⟨c, hc, e⟩ := hx
      rw [List.mem_filter] at hc
      have := of_decide_eq_true hc.2
      omega
    constructor
    · rw [dsc, List.pairwise_append]
      refine ⟨h1, ?_, fun a ha b hb => by have := h2 a ha; have := h3 b hb; omega⟩
      rw [List.pairwise_iff_forall_sublist]
      intro a b hab
      have ha := h3 a (hab.subset (by simp))
      have hb := h3 b (hab.subset (by simp))
      omega
    · intro x hx
      rw [dsc, List.mem_append] at hx
      rcases hx with hx | hx
      · have := h2 x hx; omega
      · have := h3 x hx; omega
theorem ctype_dsc {p : List Int} (hp : IsPerm p) : dsc (allC p) p.length p.length = ctype p := by
  have h := (dsc_sorted (allC p) p.length p.length (Nat.le_refl _)).1
  have hc : (dsc (allC p) p.length p.length).Perm (lens (allC p)) := by
    rw [List.perm_iff_count]
    intro x
    rw [dsc_count _ _ _ (Nat.le_refl _)]
    by_cases hx : ((p.length : Nat) : Int) - (p.length : Nat) < x ∧ x ≤ (p.length : Nat)
    · rw [if_pos hx]
    · rw [if_neg hx]
      symm
      rw [List.count_eq_zero]
      intro hm
      rw [mem_lens] at hm
      obtain ⟨c, hc, e⟩ := hm
      have := allC_len hp hc
      omega
  unfold ctype
  rw [asc_eq (s := (dsc (allC p) p.length p.length).reverse) (hc.symm.trans (List.reverse_perm _).symm) (by rw [List.pairwise_reverse]; exact h), List.reverse_reverse]
theorem dsc_le (L : List (List Int)) (top : Nat) : ∀ j, j ≤ top → (dsc L top j).length ≤ L.length := by
  intro j hj
  have : ∀ j, j ≤ top → (dsc L top j).length ≤ (L.filter fun c => decide (top < c.length + j)).length := by
    intro j
    induction j with
    | zero => intro _; simp [dsc]
    | succ j ih =>
      intro hj
      have h := ih (by omega)
      rw [dsc, List.length_append, lens, List.length_map]
      have e : ∀ M : List (List Int), (M.filter fun c => decide (top < c.length + j)).length + (M.filter fun c => decide (c.length = top - j)).length ≤ (M.filter fun c => decide (top < c.length + (j + 1))).length := by
        intro M
        induction M with
        | nil => simp
        | cons c t iht =>
          simp only [List.filter_cons]
          by_cases h1 : c.length = top - j
          · rw [if_neg (by simp; omega), if_pos (by simpa using h1), if_pos (by simp; omega)]; simp only [List.length_cons]; omega
          · by_cases h2 : top < c.length + j
            · rw [if_pos (by simpa using h2), if_neg (by simpa using h1), if_pos (by simp; omega)]; simp only [List.length_cons]; omega
            · rw [if_neg (by simpa using h2), if_neg (by simpa using h1), if_neg (by simp; omega)]; exact iht
      have := e L
      omega
  exact Nat.le_trans (this j hj) (List.length_filter_le _ _)

/-- The program's way: the long cycles, and a one for each point that is left. -/
theorem sum_parts (L : List (List Int)) (h : ∀ c ∈ L, 1 ≤ c.length) : (L.map List.length).sum = ((L.filter fun c => decide (1 < c.length)).map List.length).sum + (L.filter fun c => !decide (1 < c.length)).length ∧ (lens (L.filter fun c => !decide (1 < c.length))) = List.replicate (L.filter fun c => !decide (1 < c.length)).length 1 := by
  induction L with
  | nil => simp [lens]
  | cons c t ih =>
    obtain ⟨h1, h2⟩ := ih fun d hd => h d (List.mem_cons_of_mem _ hd)
    have hc := h c List.mem_cons_self
    by_cases h3 : 1 < c.length
    · rw [List.filter_cons, if_pos (by simpa using h3), List.filter_cons, if_neg (by simpa using h3)]
      refine ⟨?_, h2⟩
      simp only [List.map_cons, List.sum_cons]
      omega
    · rw [List.filter_cons, if_neg (by simpa using h3), List.filter_cons, if_pos (by simpa using h3)]
      have e : c.length = 1 := by omega
      refine ⟨?_, ?_⟩
      · simp only [List.map_cons, List.sum_cons, List.length_cons]
        omega
      · rw [List.length_cons, List.replicate_succ, ← h2]
        simp [lens, e]
noncomputable def longSum (p : List Int) : Nat := ((longC p).map List.length).sum
theorem longSum_le {p : List Int} (hp : IsPerm p) : longSum p ≤ p.length ∧ (lens (longC p) ++ List.replicate (p.length - longSum p) 1).Perm (lens (allC p)) := by
  have hs := sum_parts (allC p) fun c hc => (allC_len hp hc).1
  have hf := cyc_flatten hp
  rw [List.length_flatten] at hf
  rw [hf] at hs
  refine ⟨by unfold longSum longC; omega, ?_⟩
  have e : p.length - longSum p = ((allC p).filter fun c => !decide (1 < c.length)).length := by unfold longSum longC; omega
  rw [e, ← hs.2]
  unfold lens longC
  rw [← List.map_append]
  exact (List.filter_append_perm _ _).map _
theorem ctype_prog {p : List Int} (hp : IsPerm p) : (asc (lens (longC p) ++ List.replicate (p.length - longSum p) 1)).reverse = ctype p := by
  unfold ctype
  congr 1
  exact asc_eq ((longSum_le hp).2.trans (asc_perm _).symm) (asc_sorted _)

/-- The long cycles cover the support. -/
theorem per_one {p : List Int} (hp : IsPerm p) {x : Int} (hx : 0 ≤ x ∧ x < p.length) : 1 < per p x ↔ at0 p x ≠ x := by
  have h := per_spec hp hx
  constructor
  · intro h1
    have := h.2.2.2 1 (Nat.le_refl _) h1
    exact this
  · intro h1
    refine Nat.lt_of_le_of_ne h.1 fun e => h1 ?_
    have := h.2.2.1
    rw [← e] at this
    exact this
theorem longC_cover {p : List Int} (hp : IsPerm p) : longSum p = (supTo p p.length).length := by
  have hnd : (longC p).flatten.Nodup := by
    rw [List.Nodup, List.pairwise_flatten]
    constructor
    · intro c hc
      obtain ⟨x, h0, h1, _, _, rfl⟩ := mem_longC.1 hc
      exact run_nodup hp ⟨h0, h1⟩ (Nat.le_refl _)
    · unfold longC allC
      refine List.Pairwise.filter _ ?_
      rw [List.pairwise_map]
      have h0 : ((idl p.length).filter fun x => decide (Lead p x)).Nodup := (idl_nodup p.length).filter _
      refine List.Pairwise.imp_of_mem ?_ h0
      intro x y hx hy hne z hz z' hz' e
      subst e
      rw [List.mem_filter] at hx hy
      have hxr := mem_idl.1 hx.1
      have hyr := mem_idl.1 hy.1
      refine hne (lead_unique hp hxr (by simpa using hx.2) (by simpa using hy.2) ?_)
      exact mem_cyc_trans hp hxr hz (mem_cyc_symm hp hyr hz')
  have hm : ∀ z, z ∈ (longC p).flatten ↔ z ∈ supTo p p.length := by
    intro z
    rw [List.mem_flatten, mem_supTo]
    constructor
    · rintro ⟨c, hc, hz⟩
      obtain ⟨x, h0, h1, _, h2, rfl⟩ := mem_longC.1 hc
      have hzr := mem_cyc_range hp ⟨h0, h1⟩ hz
      refine ⟨hzr, (per_one hp hzr).1 ?_⟩
      rw [per_same hp ⟨h0, h1⟩ hz]
      exact h2
    · rintro ⟨hzr, hne⟩
      obtain ⟨y, hy, hl⟩ := has_lead hp hzr
      have hyr := mem_cyc_range hp hzr hy
      refine ⟨cyc p y, mem_longC.2 ⟨y, hyr.1, hyr.2, hl, ?_, rfl⟩, mem_cyc_symm hp hzr hy⟩
      rw [per_same hp hzr hy]
      exact (per_one hp hzr).2 hne
  have h1 := ((List.perm_ext_iff_of_nodup hnd (supTo_nodup p p.length)).2 hm).length_eq
  rw [← h1, List.length_flatten]
  rfl
end Go.Proofs.Ytkojonjcikgikaa
