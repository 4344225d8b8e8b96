/- Permutations form a group; no program in sight. -/
import Derived.Test.YtpijnjhheikmcaaPure
namespace Go.Proofs.Ytpijnjhheikmcaa

theorem IsPerm.range {p : List Int} (h : IsPerm p) : ∀ x ∈ p, 0 ≤ x ∧ x < p.length := h.2.2.1
theorem IsPerm.get {p : List Int} (_ : IsPerm p) {x : Int} (h0 : 0 ≤ x) (h1 : x < p.length) : p[x.toNat]? = some (at0 p x) := by
  have hl : x.toNat < p.length := by omega
  rw [at0, List.getElem?_eq_getElem hl]; rfl
theorem IsPerm.at0_range {p : List Int} (h : IsPerm p) {x : Int} (h0 : 0 ≤ x) (h1 : x < p.length) : 0 ≤ at0 p x ∧ at0 p x < p.length := h.lt (h.get h0 h1)
theorem comp_get (p q : List Int) (i : Nat) : (comp p q)[i]? = (p[i]?).map (at0 q) := by simp [comp]
theorem comp_at0 {p q : List Int} {x : Int} (h0 : 0 ≤ x) (h1 : x < p.length) : at0 (comp p q) x = at0 q (at0 p x) := by
  have hl : x.toNat < p.length := by omega
  unfold at0
  rw [comp_get, List.getElem?_eq_getElem hl]
  rfl
theorem isPerm_of_surj {p : List Int} {n : Nat} (hl : p.length = n) (h1 : 1 ≤ n) (h2 : n ≤ 20) (hr : ∀ x ∈ p, 0 ≤ x ∧ x < n) (hs : ∀ z : Int, 0 ≤ z → z < n → z ∈ p) : IsPerm p := by
  refine ⟨by omega, by omega, by rw [hl]; exact hr, (nodup_iff_surj hl hr).2 hs⟩
theorem isPerm_comp {p q : List Int} (h : PermPair p q) : IsPerm (comp p q) := by
  obtain ⟨hl, hp, hq⟩ := h
  refine isPerm_of_surj (n := p.length) (comp_length p q) hp.1 hp.2.1 ?_ ?_
  · intro x hx
    simp only [comp, List.mem_map] at hx
    obtain ⟨y, hy, rfl⟩ := hx
    have := hp.range y hy
    have := hq.at0_range (x := y) (by omega) (by omega)
    omega
  · intro z h0 h1
    obtain ⟨j, hj⟩ := hq.surj (x := z) h0 (by omega)
    have hjl := (List.getElem?_eq_some_iff.1 hj).1
    obtain ⟨i, hi⟩ := hp.surj (x := (j : Int)) (by omega) (by omega)
    refine List.mem_of_getElem? (i := i) ?_
    rw [comp_get, hi]
    simp [at0, hj]
theorem comp_assoc {p q r : List Int} (h : ∀ x ∈ p, 0 ≤ x ∧ x < q.length) : comp (comp p q) r = comp p (comp q r) := by
  simp only [comp, List.map_map]
  refine List.map_congr_left fun x hx => ?_
  have := h x hx
  exact (comp_at0 (p := q) (q := r) this.1 this.2).symm
theorem isPerm_inv {p : List Int} (hp : IsPerm p) : IsPerm (inv p) := by
  refine isPerm_of_surj (n := p.length) (inv_length p) hp.1 hp.2.1 ?_ ?_
  · intro x hx
    simp only [inv, List.mem_map] at hx
    obtain ⟨y, hy, rfl⟩ := hx
    have hy' := mem_idl.1 hy
    obtain ⟨i, hi⟩ := hp.surj hy'.1 hy'.2
    rw [hp.idxOf hi]
    have := (List.getElem?_eq_some_iff.1 hi).1
    omega
  · intro z h0 h1
    obtain ⟨x, hx⟩ : ∃ x, p[z.toNat]? = some x := ⟨_, hp.get h0 h1⟩
    have h := inv_get hp hx
    rw [show ((z.toNat : Nat) : Int) = z by omega] at h
    exact List.mem_of_getElem? h
theorem inv_at0 {p : List Int} (hp : IsPerm p) {x : Int} (h0 : 0 ≤ x) (h1 : x < p.length) : at0 (inv p) (at0 p x) = x := by
  have h := inv_get hp (hp.get h0 h1)
  rw [at0_of h]; omega
theorem at0_inv {p : List Int} (hp : IsPerm p) {x : Int} (h0 : 0 ≤ x) (h1 : x < p.length) : at0 p (at0 (inv p) x) = x := by
  obtain ⟨i, hi⟩ := hp.surj h0 h1
  rw [at0_of (inv_get hp hi)]
  exact at0_of (by simpa using hi)
theorem list_ext_idl {l : List Int} {n : Nat} (hl : l.length = n) (h : ∀ i : Nat, i < n → l[i]? = some (i : Int)) : l = idl n := by
  apply List.ext_getElem?
  intro i
  by_cases hi : i < n
  · rw [h i hi, idl_get hi]
  · rw [List.getElem?_eq_none (by omega), List.getElem?_eq_none (by rw [idl_length]; omega)]
theorem comp_inv {p : List Int} (hp : IsPerm p) : comp p (inv p) = idl p.length := by
  refine list_ext_idl (comp_length _ _) fun i hi => ?_
  rw [comp_get, List.getElem?_eq_getElem hi, Option.map_some, at0_of (inv_get hp (List.getElem?_eq_getElem hi))]
theorem inv_comp {p : List Int} (hp : IsPerm p) : comp (inv p) p = idl p.length := by
  refine list_ext_idl (by rw [comp_length, inv_length]) fun i hi => ?_
  rw [comp_get, inv, List.getElem?_map, idl_get hi, Option.map_some, Option.map_some]
  have h := at0_inv hp (x := (i : Int)) (by omega) (by omega)
  have e : at0 (inv p) (i : Int) = ((p.idxOf (i : Int) : Nat) : Int) := by
    rw [at0, Int.toNat_natCast, inv, List.getElem?_map, idl_get hi]; rfl
  rw [← e, h]
theorem isPerm_idl' {n : Nat} (h1 : 1 ≤ n) (h2 : n ≤ 20) : IsPerm (idl n) :=
  isPerm_of_surj (idl_length n) h1 h2 (fun _ hx => mem_idl.1 hx) (fun _ h0 h1 => mem_idl.2 ⟨h0, h1⟩)
theorem idl_at0 {n : Nat} {x : Int} (h0 : 0 ≤ x) (h1 : x < n) : at0 (idl n) x = x := by
  rw [at0_of (idl_get (n := n) (j := x.toNat) (by omega))]; omega
theorem comp_idl {p : List Int} {n : Nat} (h : ∀ x ∈ p, 0 ≤ x ∧ x < n) : comp p (idl n) = p := by
  unfold comp
  conv => rhs; rw [← List.map_id p]
  refine List.map_congr_left fun x hx => ?_
  have := h x hx
  exact idl_at0 this.1 this.2
theorem idl_comp {p : List Int} {n : Nat} (h : p.length = n) : comp (idl n) p = p := by
  apply List.ext_getElem?
  intro i
  rw [comp_get]
  by_cases hi : i < n
  · rw [idl_get hi, Option.map_some, at0, Int.toNat_natCast, List.getElem?_eq_getElem (by omega)]; rfl
  · rw [List.getElem?_eq_none (by rw [idl_length]; omega), List.getElem?_eq_none (by omega)]; rfl
theorem PermPair.comp_left {p q : List Int} (_ : PermPair p q) : (comp p q).length = p.length := comp_length p q
end Go.Proofs.Ytpijnjhheikmcaa
