/- The laws of powers; no program in sight. -/
import Derived.Test.YtockombopcjldaaPower
namespace Go.Proofs.Ytockombopcjldaa

theorem it_order {p : List Int} (hp : IsPerm p) {x : Int} (hx : 0 ≤ x ∧ x < p.length) : it p (orderN p) x = x := by
  obtain ⟨k, hk⟩ := per_dvd_order hx
  rw [hk]
  exact it_mul (per_spec hp hx).2.2.1 k
theorem powN_mod {p : List Int} (hp : IsPerm p) (k : Nat) : powN p k = powN p (k % orderN p) := by
  unfold powN
  refine List.map_congr_left fun x hx => ?_
  exact it_mod (it_order hp (mem_idl.1 hx)) k
theorem powN_comp {p : List Int} (hp : IsPerm p) (a b : Nat) : comp (powN p a) (powN p b) = powN p (a + b) := by
  unfold comp powN
  rw [List.map_map]
  refine List.map_congr_left fun x hx => ?_
  have hr := it_range hp (mem_idl.1 hx).1 (mem_idl.1 hx).2 a
  show at0 ((idl p.length).map (it p b)) (it p a x) = it p (a + b) x
  rw [at0, List.getElem?_map, idl_get (by omega), show (((it p a x).toNat : Nat) : Int) = it p a x by omega, Nat.add_comm, it_add]
  rfl
noncomputable def powZ (p : List Int) (z : Int) : List Int := powN p (z % (orderN p : Int)).toNat
theorem powZ_eq {p : List Int} (hp : IsPerm p) (z : Int) : pPower p z = powZ p z := by simp [pPower, hp, powZ]
theorem powZ_length (p : List Int) (z : Int) : (powZ p z).length = p.length := powN_length p _
theorem powZ_nat {p : List Int} (hp : IsPerm p) (k : Nat) : powZ p k = powN p k := by
  rw [powN_mod hp k, powZ]
  rfl
theorem isPerm_powN {p : List Int} (hp : IsPerm p) : ∀ k, IsPerm (powN p k) := by
  intro k
  induction k with
  | zero => rw [powN_zero]; exact isPerm_idl hp.1 hp.2.1
  | succ k ih =>
    rw [← powN_succ]
    exact isPerm_comp ⟨powN_length p k, ih, hp⟩
theorem isPerm_powZ {p : List Int} (hp : IsPerm p) (z : Int) : IsPerm (powZ p z) := isPerm_powN hp _
theorem powZ_add {p : List Int} (hp : IsPerm p) (a b : Int) : comp (powZ p a) (powZ p b) = powZ p (a + b) := by
  have ho := (orderN_pos hp).1
  unfold powZ
  rw [powN_comp hp, powN_mod hp ((a % (orderN p : Int)).toNat + (b % (orderN p : Int)).toNat)]
  congr 1
  have h1 := Int.emod_nonneg a (show (orderN p : Int) ≠ 0 by omega)
  have h2 := Int.emod_nonneg b (show (orderN p : Int) ≠ 0 by omega)
  have h3 := Int.emod_nonneg (a + b) (show (orderN p : Int) ≠ 0 by omega)
  have h4 : ((((a % (orderN p : Int)).toNat + (b % (orderN p : Int)).toNat) % orderN p : Nat) : Int) = (a + b) % (orderN p : Int) := by
    rw [Int.natCast_emod, Int.natCast_add, Int.toNat_of_nonneg h1, Int.toNat_of_nonneg h2, ← Int.add_emod]
  omega
theorem powZ_order {p : List Int} (hp : IsPerm p) : powZ p (orderN p : Int) = idl p.length := by
  rw [powZ_nat hp, powN_mod hp, Nat.mod_self, powN_zero]
theorem powZ_small {p : List Int} (hp : IsPerm p) {k : Nat} (h0 : 1 ≤ k) (h1 : k < orderN p) : powZ p (k : Int) ≠ idl p.length := by
  rw [powZ_nat hp]
  intro e
  have hd : orderN p ∣ k := by
    unfold orderN
    rw [lcms_dvd]
    intro m hm
    simp only [pers, List.mem_map] at hm
    obtain ⟨x, hx, rfl⟩ := hm
    have hx := mem_idl.1 hx
    refine per_dvd hp hx ?_
    have h2 : (powN p k)[x.toNat]? = (idl p.length)[x.toNat]? := by rw [e]
    rw [powN, List.getElem?_map, idl_get (by omega), show ((x.toNat : Nat) : Int) = x by omega] at h2
    simpa using h2
  have := Nat.le_of_dvd (by omega) hd
  omega
theorem powZ_neg {p : List Int} (hp : IsPerm p) : powZ p (-1) = inv p := by
  have h1 : comp (powZ p (-1)) p = idl p.length := by
    have e : powZ p 1 = p := by
      have := powZ_nat hp 1
      rw [show ((1 : Nat) : Int) = 1 from rfl] at this
      rw [this, ← powN_succ, powN_zero]
      exact idl_comp rfl
    have h := powZ_add hp (-1) 1
    rw [e, show (-1 : Int) + 1 = 0 from rfl] at h
    have h0 := powZ_nat hp 0
    rw [show ((0 : Nat) : Int) = 0 from rfl] at h0
    rw [h, h0, powN_zero]
  have h2 : comp (comp (powZ p (-1)) p) (inv p) = powZ p (-1) := by
    rw [comp_assoc (fun x hx => by have := (isPerm_powZ hp (-1)).range x hx; rw [powZ_length] at this; exact this), comp_inv hp]
    exact comp_idl (fun x hx => by have := (isPerm_powZ hp (-1)).range x hx; rw [powZ_length] at this; exact this)
  rw [← h2, h1]
  exact idl_comp (inv_length p)
end Go.Proofs.Ytockombopcjldaa
