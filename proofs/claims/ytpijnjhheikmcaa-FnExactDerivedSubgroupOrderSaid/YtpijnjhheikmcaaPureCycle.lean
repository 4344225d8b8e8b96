/- The cycles of a permutation; no program in sight. -/
import Derived.Test.YtpijnjhheikmcaaPureGroup
namespace Go.Proofs.Ytpijnjhheikmcaa

theorem exists_least {P : Nat → Prop} : ∀ {k : Nat}, P k → ∃ j, j ≤ k ∧ P j ∧ ∀ i, i < j → ¬ P i := by
  intro k
  induction k using Nat.strongRecOn with
  | _ k ih =>
    intro h
    by_cases hx : ∃ i, i < k ∧ P i
    · obtain ⟨i, hi, hp⟩ := hx
      obtain ⟨j, h1, h2, h3⟩ := ih i hi hp
      exact ⟨j, by omega, h2, h3⟩
    · exact ⟨k, Nat.le_refl _, h, fun i hi hp => hx ⟨i, hi, hp⟩⟩

/-- p applied k times. -/
def it (p : List Int) : Nat → Int → Int
  | 0, x => x
  | k + 1, x => at0 p (it p k x)
theorem it_succ (p : List Int) (k : Nat) (x : Int) : it p (k + 1) x = at0 p (it p k x) := rfl
theorem it_add (p : List Int) (j : Nat) : ∀ (k : Nat) (x : Int), it p (j + k) x = it p j (it p k x) := by
  induction j with
  | zero => intro k x; rw [Nat.zero_add]; rfl
  | succ j ih => intro k x; rw [show j + 1 + k = (j + k) + 1 by omega, it_succ, ih, it_succ]
theorem it_range {p : List Int} (hp : IsPerm p) {x : Int} (h0 : 0 ≤ x) (h1 : x < p.length) : ∀ k, 0 ≤ it p k x ∧ it p k x < p.length := by
  intro k
  induction k with
  | zero => exact ⟨h0, h1⟩
  | succ k ih => exact hp.at0_range ih.1 ih.2
theorem at0_inj {p : List Int} (hp : IsPerm p) {x y : Int} (hx : 0 ≤ x ∧ x < p.length) (hy : 0 ≤ y ∧ y < p.length) (h : at0 p x = at0 p y) : x = y := by
  rw [← inv_at0 hp hx.1 hx.2, h, inv_at0 hp hy.1 hy.2]
theorem it_inj {p : List Int} (hp : IsPerm p) {x y : Int} (hx : 0 ≤ x ∧ x < p.length) (hy : 0 ≤ y ∧ y < p.length) : ∀ k, it p k x = it p k y → x = y := by
  intro k
  induction k with
  | zero => exact id
  | succ k ih => exact fun h => ih (at0_inj hp (it_range hp hx.1 hx.2 k) (it_range hp hy.1 hy.2 k) h)
theorem it_back {p : List Int} (hp : IsPerm p) {x : Int} (hx : 0 ≤ x ∧ x < p.length) {i j : Nat} (hij : i ≤ j) (h : it p i x = it p j x) : it p (j - i) x = x := by
  have e : it p j x = it p i (it p (j - i) x) := by rw [← it_add]; congr 1; omega
  exact (it_inj hp hx (it_range hp hx.1 hx.2 (j - i)) i (h.trans e)).symm

theorem it_returns {p : List Int} (hp : IsPerm p) {x : Int} (hx : 0 ≤ x ∧ x < p.length) : ∃ k, k < p.length ∧ it p (k + 1) x = x := by
  have hno : ¬ ((List.range (p.length + 1)).map fun k => it p k x).Nodup := by
    intro hd
    have hsub : ((List.range (p.length + 1)).map fun k => it p k x) ⊆ idl p.length := by
      intro y hy
      simp only [List.mem_map] at hy
      obtain ⟨k, _, rfl⟩ := hy
      exact mem_idl.2 (it_range hp hx.1 hx.2 k)
    have := hd.length_le_of_subset hsub
    simp [idl_length] at this
    omega
  rw [List.Nodup, List.pairwise_map] at hno
  have hex : ∃ i j, i < j ∧ j ≤ p.length ∧ it p i x = it p j x := by
    apply Classical.byContradiction
    intro hne
    refine hno ?_
    rw [List.pairwise_iff_getElem]
    intro i j hi hj hij e
    simp at hi hj
    refine hne ⟨i, j, hij, by omega, ?_⟩
    simpa using e
  obtain ⟨i, j, hij, hj, e⟩ := hex
  have := it_back hp hx (by omega) e
  exact ⟨j - i - 1, by omega, by rw [show j - i - 1 + 1 = j - i by omega]; exact this⟩

open Classical in
/-- The length of the cycle of x. -/
noncomputable def per (p : List Int) (x : Int) : Nat :=
  if h : ∃ k, it p (k + 1) x = x then (Classical.choose (exists_least (P := fun k => it p (k + 1) x = x) (Classical.choose_spec h))) + 1 else 1

theorem per_spec {p : List Int} (hp : IsPerm p) {x : Int} (hx : 0 ≤ x ∧ x < p.length) : 1 ≤ per p x ∧ per p x ≤ p.length ∧ it p (per p x) x = x ∧ ∀ j, 1 ≤ j → j < per p x → it p j x ≠ x := by
  obtain ⟨k, hk, e⟩ := it_returns hp hx
  have hex : ∃ k, it p (k + 1) x = x := ⟨k, e⟩
  have hs := Classical.choose_spec (exists_least (P := fun k => it p (k + 1) x = x) (Classical.choose_spec hex))
  have hper : per p x = Classical.choose (exists_least (P := fun k => it p (k + 1) x = x) (Classical.choose_spec hex)) + 1 := by rw [per, dif_pos hex]
  refine ⟨by omega, ?_, by rw [hper]; exact hs.2.1, ?_⟩
  · have : Classical.choose (exists_least (P := fun k => it p (k + 1) x = x) (Classical.choose_spec hex)) ≤ k := by
      apply Classical.byContradiction
      intro hlt
      exact hs.2.2 k (by omega) e
    omega
  · intro j h1 h2 ej
    refine hs.2.2 (j - 1) (by omega) ?_
    rw [show j - 1 + 1 = j by omega]
    exact ej
theorem it_mul {p : List Int} {x : Int} {n : Nat} (h : it p n x = x) : ∀ k, it p (n * k) x = x := by
  intro k
  induction k with
  | zero => rfl
  | succ k ih => rw [Nat.mul_succ, Nat.add_comm, it_add, ih, h]
theorem it_mod {p : List Int} {x : Int} {n : Nat} (h : it p n x = x) (k : Nat) : it p k x = it p (k % n) x := by
  conv => lhs; rw [← Nat.mod_add_div k n, it_add, it_mul h]
theorem per_dvd {p : List Int} (hp : IsPerm p) {x : Int} (hx : 0 ≤ x ∧ x < p.length) {k : Nat} (h : it p k x = x) : per p x ∣ k := by
  have hs := per_spec hp hx
  have hm := it_mod hs.2.2.1 k
  have hlt := Nat.mod_lt k (show 0 < per p x by omega)
  by_cases h0 : k % per p x = 0
  · exact Nat.dvd_of_mod_eq_zero h0
  · exact absurd (hm.symm.trans h) (hs.2.2.2 _ (by omega) hlt)

/-- The cycle of x, from x on. -/
noncomputable def cyc (p : List Int) (x : Int) : List Int := (List.range (per p x)).map fun k => it p k x
/-- The first k of it. -/
def run (p : List Int) (x : Int) (k : Nat) : List Int := (List.range k).map fun j => it p j x
theorem run_succ (p : List Int) (x : Int) (k : Nat) : run p x (k + 1) = run p x k ++ [it p k x] := by simp [run, List.range_succ]
theorem run_length (p : List Int) (x : Int) (k : Nat) : (run p x k).length = k := by simp [run]
theorem mem_run {p : List Int} {x y : Int} {k : Nat} : y ∈ run p x k ↔ ∃ j, j < k ∧ it p j x = y := by simp [run]
theorem run_get {p : List Int} {x : Int} {j k : Nat} (h : j < k) : (run p x k)[j]? = some (it p j x) := by simp [run, h]
theorem cyc_eq (p : List Int) (x : Int) : cyc p x = run p x (per p x) := rfl
theorem cyc_length (p : List Int) (x : Int) : (cyc p x).length = per p x := run_length p x _
theorem mem_cyc {p : List Int} (hp : IsPerm p) {x y : Int} (hx : 0 ≤ x ∧ x < p.length) : y ∈ cyc p x ↔ ∃ j, it p j x = y := by
  have hs := per_spec hp hx
  rw [cyc_eq, mem_run]
  constructor
  · rintro ⟨j, _, h⟩; exact ⟨j, h⟩
  · rintro ⟨j, h⟩
    exact ⟨j % per p x, Nat.mod_lt _ (by omega), by rw [← it_mod hs.2.2.1]; exact h⟩
theorem run_nodup {p : List Int} (hp : IsPerm p) {x : Int} (hx : 0 ≤ x ∧ x < p.length) {k : Nat} (hk : k ≤ per p x) : (run p x k).Nodup := by
  rw [run, List.Nodup, List.pairwise_map, List.pairwise_iff_getElem]
  intro i j hi hj hij e
  simp at hi hj e
  exact (per_spec hp hx).2.2.2 (j - i) (by omega) (by omega) (it_back hp hx (by omega) e)
theorem mem_cyc_range {p : List Int} (hp : IsPerm p) {x y : Int} (hx : 0 ≤ x ∧ x < p.length) (h : y ∈ cyc p x) : 0 ≤ y ∧ y < p.length := by
  obtain ⟨j, rfl⟩ := (mem_cyc hp hx).1 h
  exact it_range hp hx.1 hx.2 j
theorem mem_cyc_self {p : List Int} (hp : IsPerm p) {x : Int} (hx : 0 ≤ x ∧ x < p.length) : x ∈ cyc p x := (mem_cyc hp hx).2 ⟨0, rfl⟩
theorem mem_cyc_symm {p : List Int} (hp : IsPerm p) {x y : Int} (hx : 0 ≤ x ∧ x < p.length) (h : y ∈ cyc p x) : x ∈ cyc p y := by
  have hy := mem_cyc_range hp hx h
  rw [cyc_eq, mem_run] at h
  obtain ⟨j, hj, rfl⟩ := h
  refine (mem_cyc hp hy).2 ⟨per p x - j, ?_⟩
  rw [← it_add, show per p x - j + j = per p x by omega]
  exact (per_spec hp hx).2.2.1
theorem mem_cyc_trans {p : List Int} (hp : IsPerm p) {x y z : Int} (hx : 0 ≤ x ∧ x < p.length) (h : y ∈ cyc p x) (h' : z ∈ cyc p y) : z ∈ cyc p x := by
  have hy := mem_cyc_range hp hx h
  obtain ⟨i, rfl⟩ := (mem_cyc hp hx).1 h
  obtain ⟨j, rfl⟩ := (mem_cyc hp hy).1 h'
  exact (mem_cyc hp hx).2 ⟨j + i, it_add p j i x⟩
theorem per_same {p : List Int} (hp : IsPerm p) {x y : Int} (hx : 0 ≤ x ∧ x < p.length) (h : y ∈ cyc p x) : per p y = per p x := by
  have hy := mem_cyc_range hp hx h
  obtain ⟨i, rfl⟩ := (mem_cyc hp hx).1 h
  have e1 : it p (per p x) (it p i x) = it p i x := by rw [← it_add, Nat.add_comm, it_add, (per_spec hp hx).2.2.1]
  have e2 : it p (per p (it p i x)) x = x := by
    refine it_inj hp (it_range hp hx.1 hx.2 _) hx i ?_
    rw [← it_add, Nat.add_comm, it_add]
    exact (per_spec hp hy).2.2.1
  exact Nat.dvd_antisymm (per_dvd hp hy e1) (per_dvd hp hx e2)

/-- x is the least of its cycle. -/
def Lead (p : List Int) (x : Int) : Prop := ∀ y ∈ cyc p x, x ≤ y
noncomputable instance (p : List Int) (x : Int) : Decidable (Lead p x) := Classical.propDecidable _
/-- The least of the cycle of x. -/
theorem has_lead {p : List Int} (hp : IsPerm p) {x : Int} (hx : 0 ≤ x ∧ x < p.length) : ∃ y, y ∈ cyc p x ∧ Lead p y := by
  obtain ⟨m, _, hm, hl⟩ := exists_least (P := fun m : Nat => (m : Int) ∈ cyc p x) (k := x.toNat) (by rw [show ((x.toNat : Nat) : Int) = x by omega]; exact mem_cyc_self hp hx)
  refine ⟨m, hm, fun y hy => ?_⟩
  have hyx := mem_cyc_trans hp hx hm hy
  have hyr := mem_cyc_range hp hx hyx
  apply Classical.byContradiction
  intro hlt
  refine hl y.toNat (by omega) ?_
  rw [show ((y.toNat : Nat) : Int) = y by omega]
  exact hyx
theorem lead_unique {p : List Int} (hp : IsPerm p) {x y : Int} (hx : 0 ≤ x ∧ x < p.length) (hlx : Lead p x) (hly : Lead p y) (h : y ∈ cyc p x) : x = y := by
  have := hlx y h
  have := hly x (mem_cyc_symm hp hx h)
  omega

/-- All cycles, in the order of their least members; those longer than one. -/
noncomputable def allC (p : List Int) : List (List Int) := ((idl p.length).filter fun x => decide (Lead p x)).map (cyc p)
noncomputable def longC (p : List Int) : List (List Int) := (allC p).filter fun c => decide (1 < c.length)
noncomputable def pCycles (p : List Int) : List (List Int) := if IsPerm p then longC p else []
end Go.Proofs.Ytpijnjhheikmcaa
