/- The points in a new order, and the stabilizer's order; no program in sight. -/
import Derived.Test.YtkojonjcikgikaaPureChain2
namespace Go.Proofs.Ytkojonjcikgikaa

/-- A strictly increasing list of points. -/
def PtSet (d : Nat) (ps : List Int) : Prop := ps.Pairwise (· < ·) ∧ ∀ x ∈ ps, 0 ≤ x ∧ x < (d : Int)
/-- The points below k that are not in the list. -/
def restTo (ps : List Int) (k : Nat) : List Int := (idl k).filter fun x => !ps.contains x
theorem restTo_in {ps : List Int} {k : Nat} (h : (k : Int) ∈ ps) : restTo ps (k + 1) = restTo ps k := by
  unfold restTo
  rw [idl_succ, List.filter_append]
  simp [h]
theorem restTo_out {ps : List Int} {k : Nat} (h : (k : Int) ∉ ps) : restTo ps (k + 1) = restTo ps k ++ [(k : Int)] := by
  unfold restTo
  rw [idl_succ, List.filter_append]
  simp [h]
theorem restTo_le (ps : List Int) (k : Nat) : (restTo ps k).length ≤ k := by
  unfold restTo
  refine Nat.le_trans (List.length_filter_le _ _) ?_
  rw [idl_length]; exact Nat.le_refl _
theorem mem_restTo {ps : List Int} {k : Nat} {x : Int} : x ∈ restTo ps k ↔ (0 ≤ x ∧ x < k) ∧ x ∉ ps := by
  unfold restTo
  rw [List.mem_filter]
  constructor
  · rintro ⟨a, b⟩
    exact ⟨mem_idl.1 a, by simpa using b⟩
  · rintro ⟨a, b⟩
    exact ⟨mem_idl.2 a, by simpa using b⟩
/-- The points in the new order. -/
def front (d : Nat) (ps : List Int) : List Int := ps ++ restTo ps d
theorem front_nodup {d : Nat} {ps : List Int} (h : PtSet d ps) : (front d ps).Nodup := by
  unfold front
  rw [List.nodup_append]
  refine ⟨h.1.imp fun hlt => by omega, (idl_nodup d).filter _, fun a ha b hb e => ?_⟩
  subst e
  exact (mem_restTo.1 hb).2 ha
theorem mem_front {d : Nat} {ps : List Int} (h : PtSet d ps) {x : Int} : x ∈ front d ps ↔ 0 ≤ x ∧ x < d := by
  unfold front
  rw [List.mem_append, mem_restTo]
  constructor
  · rintro (hx | hx)
    · exact h.2 x hx
    · exact hx.1
  · intro hx
    by_cases hm : x ∈ ps
    · exact .inl hm
    · exact .inr ⟨hx, hm⟩
theorem front_length {d : Nat} {ps : List Int} (h : PtSet d ps) : (front d ps).length = d := by
  have := ((List.perm_ext_iff_of_nodup (front_nodup h) (idl_nodup d)).2 fun a => (mem_front h).trans mem_idl.symm).length_eq
  rwa [idl_length] at this
theorem front_pm {d : Nat} (h1 : 1 ≤ d) (h2 : d ≤ 20) {ps : List Int} (h : PtSet d ps) : Pm d (front d ps) :=
  ⟨⟨by rw [front_length h]; exact h1, by rw [front_length h]; exact h2, fun x hx => by rw [front_length h]; exact (mem_front h).1 hx, front_nodup h⟩, front_length h⟩
theorem PtSet.length_le {d : Nat} {ps : List Int} (h : PtSet d ps) : ps.length ≤ d := by
  have := front_length h
  unfold front at this
  rw [List.length_append] at this
  omega
/-- Names given so far: the first i of the list; then, in order, the others below k. -/
structure Named (d : Nat) (ps : List Int) (i k : Nat) (nm : List Int) : Prop where
  len : nm.length = d
  fst : ∀ (j : Nat) (x : Int), j < i → ps[j]? = some x → at0 nm x = j
  snd : ∀ (j : Nat) (x : Int), (restTo ps k)[j]? = some x → at0 nm x = ((ps.length + j : Nat) : Int)
  oth : ∀ x : Int, 0 ≤ x → x < d → (∀ (j : Nat), j < i → ps[j]? ≠ some x) → ¬ (x < k ∧ x ∉ ps) → at0 nm x = -1
theorem at0_set {xs : List Int} {k : Nat} {v x : Int} (hk : k < xs.length) (hx : 0 ≤ x) : at0 (xs.set k v) x = if x = k then v else at0 xs x := by
  unfold at0
  rw [List.getElem?_set]
  by_cases e : x = k
  · subst e; simp [hk]
  · rw [if_neg e, if_neg (by omega)]
theorem Named.done {d : Nat} (h1 : 1 ≤ d) (h2 : d ≤ 20) {ps : List Int} (h : PtSet d ps) {nm : List Int} (hn : Named d ps ps.length d nm) : nm = inv (front d ps) := by
  have hf := front_pm h1 h2 h
  have key : ∀ (i : Nat) (x : Int), (front d ps)[i]? = some x → at0 nm x = i := by
    intro i x e
    unfold front at e
    by_cases hi : i < ps.length
    · rw [List.getElem?_append_left hi] at e
      exact hn.fst i x hi e
    · rw [List.getElem?_append_right (by omega)] at e
      rw [hn.snd _ x e]
      congr 1
      omega
  refine pm_ext hn.len hf.inv.2 fun x h0 hx => ?_
  have hr := hf.inv.rng h0 hx
  have e := hf.at_inv h0 hx
  generalize at0 (inv (front d ps)) x = y at hr e ⊢
  have e2 : (front d ps)[y.toNat]? = some x := by
    have hl : y.toNat < (front d ps).length := by rw [hf.2]; omega
    unfold at0 at e
    rw [List.getElem?_eq_getElem hl] at e ⊢
    simpa using e
  rw [key _ _ e2]
  omega
theorem Named.start {d : Nat} {ps : List Int} : Named d ps 0 0 (List.replicate d (-1)) := by
  refine ⟨by simp, fun j x hj => by omega, fun j x e => by simp [restTo, idl] at e, fun x h0 hx _ _ => ?_⟩
  unfold at0
  rw [List.getElem?_replicate, if_pos (by omega)]
  rfl
theorem pt_inj {d : Nat} {ps : List Int} (h : PtSet d ps) {i j : Nat} {x : Int} (hi : ps[i]? = some x) (hj : ps[j]? = some x) : i = j := by
  have hn : ps.Nodup := h.1.imp fun hlt => by omega
  have h1 := (List.getElem?_eq_some_iff.1 hi)
  have h2 := (List.getElem?_eq_some_iff.1 hj)
  obtain ⟨a, a'⟩ := h1
  obtain ⟨b, b'⟩ := h2
  exact (List.getElem_inj hn).1 (a'.trans b'.symm)
/-- The next of the list gets its name. -/
theorem Named.put {d : Nat} {ps : List Int} (h : PtSet d ps) {i : Nat} {nm : List Int} {x : Int} (hn : Named d ps i 0 nm) (hx : ps[i]? = some x) : Named d ps (i + 1) 0 (nm.set x.toNat i) := by
  have hr := h.2 x (List.mem_of_getElem? hx)
  refine ⟨by rw [List.length_set]; exact hn.len, fun j y hj e => ?_, fun j y e => by simp [restTo, idl] at e, fun y h0 hy hno hno2 => ?_⟩
  · have hry := h.2 y (List.mem_of_getElem? e)
    rw [at0_set (by rw [hn.len]; omega) hry.1]
    by_cases hji : j = i
    · subst hji
      rw [hx] at e; cases e
      rw [if_pos (by omega)]
    · rw [if_neg, hn.fst j y (by omega) e]
      intro e2
      have : y = x := by omega
      subst this
      exact hji (pt_inj h e hx)
  · rw [at0_set (by rw [hn.len]; omega) h0, if_neg, hn.oth y h0 hy (fun j hj => hno j (by omega)) hno2]
    intro e2
    have : y = x := by omega
    subst this
    exact hno i (by omega) hx
/-- A point of the list has its name already. -/
theorem Named.skip {d : Nat} {ps : List Int} {k : Nat} {nm : List Int} (hn : Named d ps ps.length k nm) (hx : (k : Int) ∈ ps) : Named d ps ps.length (k + 1) nm ∧ 0 ≤ at0 nm k := by
  obtain ⟨i, hi, e⟩ := List.mem_iff_getElem.1 hx
  have e' : ps[i]? = some (k : Int) := by rw [List.getElem?_eq_getElem hi, e]
  refine ⟨⟨hn.len, hn.fst, fun j x e => hn.snd j x (by rwa [restTo_in hx] at e), fun x h0 hxd hno hno2 => hn.oth x h0 hxd hno fun hh => hno2 ⟨by omega, hh.2⟩⟩, ?_⟩
  rw [hn.fst i _ hi e']
  omega
/-- Another point gets the next name. -/
theorem Named.next {d : Nat} {ps : List Int} {k : Nat} {nm : List Int} (hn : Named d ps ps.length k nm) (hk : k < d) (hx : (k : Int) ∉ ps) : Named d ps ps.length (k + 1) (nm.set k ((ps.length + (restTo ps k).length : Nat) : Int)) ∧ at0 nm k = -1 := by
  have hno : ∀ j, j < ps.length → ps[j]? ≠ some (k : Int) := fun j _ e => hx (List.mem_of_getElem? e)
  refine ⟨⟨by rw [List.length_set]; exact hn.len, fun j x hj e => ?_, fun j x e => ?_, fun x h0 hxd hno' hno2 => ?_⟩, hn.oth k (by omega) (by omega) hno (by omega)⟩
  · have hne : x ≠ (k : Int) := fun e2 => hno j hj (by rw [← e2]; exact e)
    by_cases hx0 : 0 ≤ x
    · rw [at0_set (by rw [hn.len]; exact hk) hx0, if_neg hne]; exact hn.fst j x hj e
    · have := hn.fst j x hj e
      unfold at0 at this ⊢
      rw [List.getElem?_set]
      by_cases hk0 : k = x.toNat
      · rw [if_pos hk0]
        have h0 : x.toNat = 0 := by omega
        exfalso
        have hz : k = 0 := by omega
        have hoth := hn.oth (k : Int) (by omega) (by omega) hno (by omega)
        unfold at0 at hoth
        rw [Int.toNat_natCast, hk0, this] at hoth
        omega
      · rw [if_neg hk0]; exact this
  · rw [restTo_out hx] at e
    have hxr : 0 ≤ x ∧ x < ((k + 1 : Nat) : Int) := by
      have := List.mem_of_getElem? e
      rw [← restTo_out hx] at this
      exact (mem_restTo.1 this).1
    rw [at0_set (by rw [hn.len]; exact hk) hxr.1]
    by_cases hj : j < (restTo ps k).length
    · rw [List.getElem?_append_left hj] at e
      have := (mem_restTo.1 (List.mem_of_getElem? e)).1
      rw [if_neg (by omega)]
      exact hn.snd j x e
    · rw [List.getElem?_append_right (by omega)] at e
      have hj2 : j = (restTo ps k).length := by
        apply Classical.byContradiction
        intro hne
        rw [List.getElem?_eq_none (by simp; omega)] at e
        cases e
      subst hj2
      simp at e
      rw [if_pos e.symm]
  · have hne : x ≠ (k : Int) := fun e2 => hno2 ⟨by omega, by rw [e2]; exact hx⟩
    rw [at0_set (by rw [hn.len]; exact hk) h0, if_neg hne]
    exact hn.oth x h0 hxd hno' fun hh => hno2 ⟨by omega, hh.2⟩
end Go.Proofs.Ytkojonjcikgikaa
