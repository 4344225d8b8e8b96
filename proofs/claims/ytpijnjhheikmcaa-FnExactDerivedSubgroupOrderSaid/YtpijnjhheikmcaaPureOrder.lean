/- The order and the sign of a permutation; no program in sight. -/
import Derived.Test.YtpijnjhheikmcaaPureCycle
namespace Go.Proofs.Ytpijnjhheikmcaa

theorem lcm_eq (o n : Nat) : o / Nat.gcd o n * n = Nat.lcm o n := by
  unfold Nat.lcm
  by_cases h0 : o = 0
  · subst h0; simp
  · obtain ⟨k, hk⟩ := Nat.gcd_dvd_left o n
    have hg : 0 < Nat.gcd o n := Nat.gcd_pos_of_pos_left n (by omega)
    have e1 : o / Nat.gcd o n = k := Nat.div_eq_of_eq_mul_right hg hk
    have e2 : o * n = Nat.gcd o n * (k * n) := by conv => lhs; rw [hk]; rw [Nat.mul_assoc]
    rw [e1, e2, Nat.mul_div_cancel_left _ hg]
def lcms (l : List Nat) : Nat := l.foldl Nat.lcm 1
theorem lcms_snoc (l : List Nat) (x : Nat) : lcms (l ++ [x]) = Nat.lcm (lcms l) x := by simp [lcms]
theorem foldl_lcm_dvd (l : List Nat) : ∀ (a m : Nat), l.foldl Nat.lcm a ∣ m ↔ a ∣ m ∧ ∀ x ∈ l, x ∣ m := by
  induction l with
  | nil => intro a m; simp
  | cons x t ih =>
    intro a m
    rw [List.foldl_cons, ih]
    constructor
    · rintro ⟨h1, h2⟩
      refine ⟨Nat.dvd_trans (Nat.dvd_lcm_left _ _) h1, fun y hy => ?_⟩
      rcases List.mem_cons.1 hy with rfl | hy
      · exact Nat.dvd_trans (Nat.dvd_lcm_right _ _) h1
      · exact h2 y hy
    · rintro ⟨h1, h2⟩
      exact ⟨Nat.lcm_dvd h1 (h2 x List.mem_cons_self), fun y hy => h2 y (List.mem_cons_of_mem _ hy)⟩
theorem lcms_dvd (l : List Nat) (m : Nat) : lcms l ∣ m ↔ ∀ x ∈ l, x ∣ m := by rw [lcms, foldl_lcm_dvd]; simp
theorem dvd_big : ∀ k, k < 21 → 0 < k → k ∣ 232792560 := by decide
theorem lcms_big {l : List Nat} (h : ∀ x ∈ l, 1 ≤ x ∧ x ≤ 20) : 1 ≤ lcms l ∧ lcms l ≤ 232792560 := by
  have hd : lcms l ∣ 232792560 := (lcms_dvd l _).2 fun x hx => dvd_big x (by have := h x hx; omega) (by have := h x hx; omega)
  exact ⟨Nat.pos_of_dvd_of_pos hd (by omega), Nat.le_of_dvd (by omega) hd⟩

/-- The periods of the numbers below k. -/
noncomputable def pers (p : List Int) (k : Nat) : List Nat := (idl k).map (per p)
theorem pers_succ (p : List Int) (k : Nat) : pers p (k + 1) = pers p k ++ [per p k] := by rw [pers, idl_succ, List.map_append]; rfl
noncomputable def orderN (p : List Int) : Nat := lcms (pers p p.length)
noncomputable def pOrder (p : List Int) : Int := if IsPerm p then (orderN p : Int) else 0
theorem pers_range {p : List Int} (hp : IsPerm p) {k : Nat} (hk : k ≤ p.length) : ∀ x ∈ pers p k, 1 ≤ x ∧ x ≤ 20 := by
  intro x hx
  simp only [pers, List.mem_map] at hx
  obtain ⟨y, hy, rfl⟩ := hx
  have hy := mem_idl.1 hy
  have h := per_spec hp (x := y) ⟨hy.1, by omega⟩
  have := hp.2.1
  omega
theorem mem_longC {p c : List Int} : c ∈ longC p ↔ ∃ x : Int, 0 ≤ x ∧ x < p.length ∧ Lead p x ∧ 1 < per p x ∧ c = cyc p x := by
  simp only [longC, allC, List.mem_filter, List.mem_map, decide_eq_true_eq]
  constructor
  · rintro ⟨⟨x, ⟨hx, hl⟩, rfl⟩, h⟩
    have hx := mem_idl.1 hx
    rw [cyc_length] at h
    exact ⟨x, hx.1, hx.2, hl, h, rfl⟩
  · rintro ⟨x, h0, h1, hl, h, rfl⟩
    exact ⟨⟨x, ⟨mem_idl.2 ⟨h0, h1⟩, hl⟩, rfl⟩, by rw [cyc_length]; exact h⟩
theorem longC_order {p : List Int} (hp : IsPerm p) : lcms ((longC p).map List.length) = orderN p := by
  have key : ∀ m, (∀ x ∈ (longC p).map List.length, x ∣ m) ↔ ∀ x ∈ pers p p.length, x ∣ m := by
    intro m
    constructor
    · intro h x hx
      simp only [pers, List.mem_map] at hx
      obtain ⟨y, hy, rfl⟩ := hx
      have hy := mem_idl.1 hy
      obtain ⟨z, hz, hl⟩ := has_lead hp hy
      have hzr := mem_cyc_range hp hy hz
      have e := per_same hp hy hz
      by_cases h1 : 1 < per p z
      · refine h _ ?_
        rw [List.mem_map]
        exact ⟨cyc p z, mem_longC.2 ⟨z, hzr.1, hzr.2, hl, h1, rfl⟩, by rw [cyc_length, e]⟩
      · have h2 := (per_spec hp hzr).1
        rw [← e, show per p z = 1 by omega]
        exact Nat.one_dvd m
    · intro h x hx
      rw [List.mem_map] at hx
      obtain ⟨c, hc, rfl⟩ := hx
      obtain ⟨y, h0, h1, _, _, rfl⟩ := mem_longC.1 hc
      rw [cyc_length]
      refine h _ ?_
      simp only [pers, List.mem_map]
      exact ⟨y, mem_idl.2 ⟨h0, h1⟩, rfl⟩
  refine Nat.dvd_antisymm ?_ ?_
  · rw [lcms_dvd, key]; exact (lcms_dvd _ _).1 (Nat.dvd_refl _)
  · unfold orderN; rw [lcms_dvd, ← key]; exact (lcms_dvd _ _).1 (Nat.dvd_refl _)
theorem longC_len {p : List Int} (hp : IsPerm p) {c : List Int} (hc : c ∈ longC p) : 1 < c.length ∧ c.length ≤ 20 := by
  obtain ⟨y, h0, h1, _, h2, rfl⟩ := mem_longC.1 hc
  rw [cyc_length]
  have := (per_spec hp ⟨h0, h1⟩).2.1
  have := hp.2.1
  omega
theorem longC_lens {p : List Int} (hp : IsPerm p) (k : Nat) : ∀ x ∈ ((longC p).take k).map List.length, 1 ≤ x ∧ x ≤ 20 := by
  intro x hx
  rw [List.mem_map] at hx
  obtain ⟨c, hc, rfl⟩ := hx
  have := longC_len hp (List.mem_of_mem_take hc)
  omega

/-- How many rows are of even length. -/
def evens (l : List (List Int)) : Nat := (l.filter fun c => decide (c.length % 2 = 0)).length
theorem evens_snoc (l : List (List Int)) (c : List Int) : evens (l ++ [c]) = evens l + (if c.length % 2 = 0 then 1 else 0) := by
  unfold evens
  rw [List.filter_append, List.length_append]
  by_cases h : c.length % 2 = 0 <;> simp [h]
theorem cyc_flatten {p : List Int} (hp : IsPerm p) : (allC p).flatten.length = p.length := by
  have hnd : (allC p).flatten.Nodup := by
    rw [List.Nodup, List.pairwise_flatten]
    constructor
    · intro c hc
      simp only [allC, List.mem_map, List.mem_filter] at hc
      obtain ⟨x, ⟨hx, _⟩, rfl⟩ := hc
      exact run_nodup hp (mem_idl.1 hx) (Nat.le_refl _)
    · unfold allC
      rw [List.pairwise_map]
      have h0 : ((idl p.length).filter fun x => decide (Lead p x)).Nodup := (idl_nodup p.length).filter _
      refine List.Pairwise.imp_of_mem ?_ h0
      intro x y hx hy hne z hz z' hz' e
      subst e
      rw [List.mem_filter] at hx hy
      have hxr := mem_idl.1 hx.1
      have hyr := mem_idl.1 hy.1
      refine hne (lead_unique hp hxr (by simpa using hx.2) (by simpa using hy.2) ?_)
      exact mem_cyc_trans hp hxr hz (mem_cyc_symm hp hyr hz')
  have h1 : (allC p).flatten ⊆ idl p.length := by
    intro z hz
    rw [List.mem_flatten] at hz
    obtain ⟨c, hc, hz⟩ := hz
    simp only [allC, List.mem_map, List.mem_filter] at hc
    obtain ⟨x, ⟨hx, _⟩, rfl⟩ := hc
    exact mem_idl.2 (mem_cyc_range hp (mem_idl.1 hx) hz)
  have h2 : idl p.length ⊆ (allC p).flatten := by
    intro z hz
    have hzr := mem_idl.1 hz
    obtain ⟨y, hy, hl⟩ := has_lead hp hzr
    rw [List.mem_flatten]
    refine ⟨cyc p y, ?_, mem_cyc_symm hp hzr hy⟩
    simp only [allC, List.mem_map, List.mem_filter]
    exact ⟨y, ⟨mem_idl.2 (mem_cyc_range hp hzr hy), by simpa using hl⟩, rfl⟩
  have := hnd.length_le_of_subset h1
  have := (idl_nodup p.length).length_le_of_subset h2
  rw [idl_length] at *
  omega
theorem evens_parity (l : List (List Int)) (h : ∀ c ∈ l, 1 ≤ c.length) : l.length ≤ (l.map List.length).sum ∧ ((l.map List.length).sum - l.length) % 2 = evens (l.filter fun c => decide (1 < c.length)) % 2 := by
  induction l with
  | nil => simp [evens]
  | cons c t ih =>
    obtain ⟨h1, h2⟩ := ih fun d hd => h d (List.mem_cons_of_mem _ hd)
    have hc := h c List.mem_cons_self
    simp only [List.map_cons, List.sum_cons, List.length_cons]
    refine ⟨by omega, ?_⟩
    by_cases h3 : 1 < c.length
    · rw [List.filter_cons, if_pos (by simpa using h3)]
      have e : evens (c :: t.filter fun c => decide (1 < c.length)) = evens (t.filter fun c => decide (1 < c.length)) + (if c.length % 2 = 0 then 1 else 0) := by
        unfold evens
        rw [List.filter_cons]
        by_cases h4 : c.length % 2 = 0 <;> simp [h4]
      rw [e]
      split <;> omega
    · rw [List.filter_cons, if_neg (by simpa using h3)]
      omega
def sgn (k : Nat) : Int := if k % 2 = 0 then 1 else -1
noncomputable def pSign (p : List Int) : Int := if IsPerm p then sgn (evens (longC p)) else 0
theorem sign_spec {p : List Int} (hp : IsPerm p) : (allC p).length ≤ p.length ∧ sgn (evens (longC p)) = if (p.length - (allC p).length) % 2 = 1 then -1 else 1 := by
  have h := evens_parity (allC p) (by
    intro c hc
    simp only [allC, List.mem_map, List.mem_filter] at hc
    obtain ⟨x, ⟨hx, _⟩, rfl⟩ := hc
    rw [cyc_length]
    exact (per_spec hp (mem_idl.1 hx)).1)
  have hf := cyc_flatten hp
  rw [List.length_flatten] at hf
  rw [hf] at h
  refine ⟨h.1, ?_⟩
  have h2 := h.2
  unfold sgn
  rw [show evens (longC p) % 2 = (p.length - (allC p).length) % 2 from h2.symm]
  split <;> split <;> omega
end Go.Proofs.Ytpijnjhheikmcaa
