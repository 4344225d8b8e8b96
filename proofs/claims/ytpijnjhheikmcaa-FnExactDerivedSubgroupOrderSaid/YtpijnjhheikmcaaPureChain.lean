/- Stabilizer chains: a chain that is closed holds just the group that its generators generate; no program in sight. -/
import Derived.Test.YtpijnjhheikmcaaPureOrder
namespace Go.Proofs.Ytpijnjhheikmcaa

/-- A permutation of the degree d. -/
def Pm (d : Nat) (p : List Int) : Prop := IsPerm p ∧ p.length = d
theorem Pm.comp {d : Nat} {p q : List Int} (hp : Pm d p) (hq : Pm d q) : Pm d (comp p q) := ⟨isPerm_comp ⟨by rw [hp.2, hq.2], hp.1, hq.1⟩, by rw [comp_length]; exact hp.2⟩
theorem Pm.inv {d : Nat} {p : List Int} (hp : Pm d p) : Pm d (inv p) := ⟨isPerm_inv hp.1, by rw [inv_length]; exact hp.2⟩
theorem Pm.idl {d : Nat} (h1 : 1 ≤ d) (h2 : d ≤ 20) : Pm d (idl d) := ⟨isPerm_idl' h1 h2, idl_length d⟩
theorem Pm.rng {d : Nat} {p : List Int} (hp : Pm d p) {x : Int} (h0 : 0 ≤ x) (h1 : x < d) : 0 ≤ at0 p x ∧ at0 p x < d := by
  have := hp.1.at0_range h0 (by rw [hp.2]; exact h1)
  rw [hp.2] at this
  exact this
theorem Pm.at_comp {d : Nat} {p q : List Int} (hp : Pm d p) {x : Int} (h0 : 0 ≤ x) (h1 : x < d) : at0 (Go.Proofs.Ytpijnjhheikmcaa.comp p q) x = at0 q (at0 p x) := comp_at0 h0 (by rw [hp.2]; exact h1)
theorem Pm.inv_at {d : Nat} {p : List Int} (hp : Pm d p) {x : Int} (h0 : 0 ≤ x) (h1 : x < d) : at0 (Go.Proofs.Ytpijnjhheikmcaa.inv p) (at0 p x) = x := inv_at0 hp.1 h0 (by rw [hp.2]; exact h1)
theorem Pm.at_inv {d : Nat} {p : List Int} (hp : Pm d p) {x : Int} (h0 : 0 ≤ x) (h1 : x < d) : at0 p (at0 (Go.Proofs.Ytpijnjhheikmcaa.inv p) x) = x := at0_inv hp.1 h0 (by rw [hp.2]; exact h1)
theorem pm_ext {d : Nat} {p q : List Int} (hp : p.length = d) (hq : q.length = d) (h : ∀ x : Int, 0 ≤ x → x < d → at0 p x = at0 q x) : p = q := by
  apply List.ext_getElem?
  intro i
  by_cases hi : i < d
  · have := h i (by omega) (by omega)
    unfold at0 at this
    rw [List.getElem?_eq_getElem (by omega), List.getElem?_eq_getElem (by omega)] at this ⊢
    simpa using this
  · rw [List.getElem?_eq_none (by omega), List.getElem?_eq_none (by omega)]
theorem Pm.assoc {d : Nat} {p q r : List Int} (hp : Pm d p) (hq : Pm d q) : Go.Proofs.Ytpijnjhheikmcaa.comp (Go.Proofs.Ytpijnjhheikmcaa.comp p q) r = Go.Proofs.Ytpijnjhheikmcaa.comp p (Go.Proofs.Ytpijnjhheikmcaa.comp q r) := comp_assoc fun x hx => by
  have := hp.1.range x hx
  rw [hp.2] at this
  rw [hq.2]; exact this
theorem Pm.mul_inv {d : Nat} {p : List Int} (hp : Pm d p) : Go.Proofs.Ytpijnjhheikmcaa.comp p (Go.Proofs.Ytpijnjhheikmcaa.inv p) = Go.Proofs.Ytpijnjhheikmcaa.idl d := by rw [comp_inv hp.1, hp.2]
theorem Pm.inv_mul {d : Nat} {p : List Int} (hp : Pm d p) : Go.Proofs.Ytpijnjhheikmcaa.comp (Go.Proofs.Ytpijnjhheikmcaa.inv p) p = Go.Proofs.Ytpijnjhheikmcaa.idl d := by rw [inv_comp hp.1, hp.2]
theorem Pm.mul_one {d : Nat} {p : List Int} (hp : Pm d p) : Go.Proofs.Ytpijnjhheikmcaa.comp p (Go.Proofs.Ytpijnjhheikmcaa.idl d) = p := comp_idl fun x hx => by
  have := hp.1.range x hx
  rwa [hp.2] at this
theorem Pm.one_mul {d : Nat} {p : List Int} (hp : Pm d p) : Go.Proofs.Ytpijnjhheikmcaa.comp (Go.Proofs.Ytpijnjhheikmcaa.idl d) p = p := idl_comp hp.2
/-- (p / t) t = p. -/
theorem Pm.div_mul {d : Nat} {p t : List Int} (hp : Pm d p) (ht : Pm d t) : Go.Proofs.Ytpijnjhheikmcaa.comp (Go.Proofs.Ytpijnjhheikmcaa.comp p (Go.Proofs.Ytpijnjhheikmcaa.inv t)) t = p := by
  rw [hp.assoc ht.inv, ht.inv_mul, hp.mul_one]
theorem inv_idl {d : Nat} (h1 : 1 ≤ d) (h2 : d ≤ 20) : inv (idl d) = idl d := by
  have h := (Pm.idl h1 h2)
  have e := h.inv.one_mul
  rw [← e, h.mul_inv]

/-- The group that gs generate. -/
inductive Grp (d : Nat) (gs : List (List Int)) : List Int → Prop
  | one : Grp d gs (idl d)
  | mul {p g : List Int} : Grp d gs p → g ∈ gs → Grp d gs (comp p g)
/-- Generators of the degree d. -/
def Gs (d : Nat) (gs : List (List Int)) : Prop := ∀ g ∈ gs, Pm d g
theorem Grp.pm {d : Nat} {gs : List (List Int)} (h1 : 1 ≤ d) (h2 : d ≤ 20) (hg : Gs d gs) {p : List Int} (h : Grp d gs p) : Pm d p := by
  induction h with
  | one => exact .idl h1 h2
  | mul _ hm ih => exact ih.comp (hg _ hm)
theorem Grp.gen {d : Nat} {gs : List (List Int)} (hg : Gs d gs) {g : List Int} (h : g ∈ gs) : Grp d gs g := by
  have := Grp.mul Grp.one (d := d) h
  rwa [(hg g h).one_mul] at this
theorem Grp.comp {d : Nat} {gs : List (List Int)} (h1 : 1 ≤ d) (h2 : d ≤ 20) (hg : Gs d gs) {p q : List Int} (hp : Grp d gs p) (hq : Grp d gs q) : Grp d gs (comp p q) := by
  induction hq with
  | one => rw [(hp.pm h1 h2 hg).mul_one]; exact hp
  | mul hq hm ih =>
    rw [← (hp.pm h1 h2 hg).assoc (hq.pm h1 h2 hg)]
    exact ih.mul hm
theorem Grp.mono {d : Nat} {gs hs : List (List Int)} (h1 : 1 ≤ d) (h2 : d ≤ 20) (hh : Gs d hs) (hs' : ∀ g ∈ gs, Grp d hs g) {p : List Int} (h : Grp d gs p) : Grp d hs p := by
  induction h with
  | one => exact .one
  | mul _ hm ih => exact ih.comp h1 h2 hh (hs' _ hm)
/-- Powers. -/
def pw (d : Nat) (p : List Int) : Nat → List Int
  | 0 => idl d
  | k + 1 => comp (pw d p k) p
theorem pw_pm {d : Nat} (h1 : 1 ≤ d) (h2 : d ≤ 20) {p : List Int} (hp : Pm d p) : ∀ k, Pm d (pw d p k)
  | 0 => .idl h1 h2
  | k + 1 => (pw_pm h1 h2 hp k).comp hp
theorem pw_at {d : Nat} (h1 : 1 ≤ d) (h2 : d ≤ 20) {p : List Int} (hp : Pm d p) {x : Int} (h0 : 0 ≤ x) (hx : x < d) : ∀ k, at0 (pw d p k) x = it p k x
  | 0 => idl_at0 h0 hx
  | k + 1 => by rw [pw, (pw_pm h1 h2 hp k).at_comp h0 hx, pw_at h1 h2 hp h0 hx k]; rfl
theorem pw_grp {d : Nat} {gs : List (List Int)} (h1 : 1 ≤ d) (h2 : d ≤ 20) (hg : Gs d gs) {p : List Int} (h : Grp d gs p) : ∀ k, Grp d gs (pw d p k)
  | 0 => .one
  | k + 1 => (pw_grp h1 h2 hg h k).comp h1 h2 hg h
theorem it_big {d : Nat} {p : List Int} (hp : Pm d p) {x : Int} (h0 : 0 ≤ x) (hx : x < d) : it p 232792560 x = x := by
  have hr : 0 ≤ x ∧ x < p.length := ⟨h0, by rw [hp.2]; exact hx⟩
  have hs := per_spec hp.1 hr
  have h20 := hp.1.2.1
  obtain ⟨k, hk⟩ := dvd_big (per p x) (by omega) (by omega)
  rw [hk]
  exact it_mul hs.2.2.1 k
theorem grp_inv {d : Nat} {gs : List (List Int)} (h1 : 1 ≤ d) (h2 : d ≤ 20) (hg : Gs d gs) {p : List Int} (h : Grp d gs p) : Grp d gs (inv p) := by
  have hp := h.pm h1 h2 hg
  obtain ⟨N, hN⟩ : ∃ N, N + 1 = 232792560 := ⟨232792559, rfl⟩
  have e : inv p = pw d p N := by
    refine pm_ext hp.inv.2 (pw_pm h1 h2 hp N).2 fun x h0 hx => ?_
    rw [pw_at h1 h2 hp h0 hx]
    have hr : 0 ≤ it p N x ∧ it p N x < d := by have := it_range hp.1 h0 (by rw [hp.2]; exact hx) N; rwa [hp.2] at this
    have e2 : at0 p (it p N x) = x := by
      have := it_big hp h0 hx
      rw [← hN] at this
      exact this
    conv => lhs; rw [← e2]
    exact hp.inv_at hr.1 hr.2
  rw [e]
  exact pw_grp h1 h2 hg h N

/-- The points below k stay where they are. -/
def Fx (k : Nat) (p : List Int) : Prop := ∀ x : Nat, x < k → at0 p x = x
theorem Fx.idl (k d : Nat) (h : k ≤ d) : Fx k (idl d) := fun x hx => idl_at0 (by omega) (by omega)
theorem Fx.comp {d k : Nat} {p q : List Int} (hk : k ≤ d) (hp : Pm d p) (h : Fx k p) (h' : Fx k q) : Fx k (comp p q) := fun x hx => by
  rw [hp.at_comp (by omega) (by omega), h x hx, h' x hx]
theorem Fx.inv {d k : Nat} {p : List Int} (hk : k ≤ d) (hp : Pm d p) (h : Fx k p) : Fx k (inv p) := fun x hx => by
  have e := hp.inv_at (x := (x : Int)) (by omega) (by omega)
  rwa [h x hx] at e
theorem Fx.full {d : Nat} (_h1 : 1 ≤ d) {p : List Int} (hp : Pm d p) (h : Fx d p) : p = Go.Proofs.Ytpijnjhheikmcaa.idl d :=
  pm_ext hp.2 (idl_length d) fun x h0 hx => by
    rw [idl_at0 h0 hx]
    have := h x.toNat (by omega)
    rwa [show ((x.toNat : Nat) : Int) = x by omega] at this
theorem Fx.ge {d k : Nat} {p : List Int} (_hk : k ≤ d) (hp : Pm d p) (h : Fx k p) {x : Int} (hx : (k : Int) ≤ x) (hxd : x < d) : (k : Int) ≤ at0 p x := by
  apply Classical.byContradiction
  intro hlt
  have hr := hp.rng (x := x) (by omega) hxd
  have e1 := h (at0 p x).toNat (by omega)
  rw [show (((at0 p x).toNat : Nat) : Int) = at0 p x by omega] at e1
  have e2 := hp.inv_at (x := x) (by omega) hxd
  have e3 := hp.inv_at (x := at0 p x) hr.1 hr.2
  rw [e1] at e3
  rw [e2] at e3
  omega

/-- Representatives by level and point. -/
abbrev Tr := Nat → Nat → Option (List Int)
/-- Sifting through f levels from level k on. -/
def sifts (R : Tr) : Nat → Nat → List Int → Prop
  | 0, _, _ => True
  | f + 1, k, p => ∃ t, R k (at0 p k).toNat = some t ∧ sifts R f (k + 1) (comp p (inv t))
def Sf (d : Nat) (R : Tr) (k : Nat) (p : List Int) : Prop := sifts R (d - k) k p
theorem sf_end (d : Nat) (R : Tr) (p : List Int) : Sf d R d p := by unfold Sf; rw [Nat.sub_self]; trivial
theorem sf_step {d k : Nat} (hk : k < d) (R : Tr) (p : List Int) : Sf d R k p ↔ ∃ t, R k (at0 p k).toNat = some t ∧ Sf d R (k + 1) (comp p (inv t)) := by
  unfold Sf
  rw [show d - k = (d - (k + 1)) + 1 by omega]
  exact Iff.rfl
theorem sifts_congr {R R' : Tr} : ∀ (f k : Nat) (p : List Int), (∀ i, k ≤ i → R' i = R i) → (sifts R' f k p ↔ sifts R f k p)
  | 0, _, _, _ => Iff.rfl
  | f + 1, k, p, h => by
    unfold sifts
    rw [h k (Nat.le_refl _)]
    constructor
    · rintro ⟨t, e, h'⟩; exact ⟨t, e, (sifts_congr f (k + 1) _ fun i hi => h i (by omega)).1 h'⟩
    · rintro ⟨t, e, h'⟩; exact ⟨t, e, (sifts_congr f (k + 1) _ fun i hi => h i (by omega)).2 h'⟩
theorem sf_congr {d k : Nat} {R R' : Tr} {p : List Int} (h : ∀ i, k ≤ i → R' i = R i) : Sf d R' k p ↔ Sf d R k p := sifts_congr _ _ _ h

/-- One level by itself. -/
structure Lv (d : Nat) (R : Tr) (G : Nat → List (List Int)) (i : Nat) : Prop where
  row : ∀ y t, R i y = some t → Pm d t ∧ Fx i t ∧ at0 t i = y ∧ y < d ∧ Grp d (G i) t
  one : R i i = some (idl d)
  gen : ∀ g ∈ G i, Pm d g ∧ Fx i g
/-- A representative and a generator: what they make is held by the next level. -/
def Clo (d : Nat) (R : Tr) (i : Nat) (t g : List Int) : Prop := ∃ t', R i (at0 g (at0 t i)).toNat = some t' ∧ Sf d R (i + 1) (comp (comp t g) (inv t'))
/-- From level k on all is closed. -/
def Okc (d : Nat) (R : Tr) (G : Nat → List (List Int)) (k : Nat) : Prop :=
  ∀ i, k ≤ i → i < d → Lv d R G i ∧ (∀ y t g, R i y = some t → g ∈ G i → Clo d R i t g) ∧ (i + 1 < d → ∀ g ∈ G (i + 1), Grp d (G i) g)
theorem Okc.up {d : Nat} {R : Tr} {G : Nat → List (List Int)} {k j : Nat} (h : Okc d R G k) (hj : k ≤ j) : Okc d R G j := fun i h1 h2 => h i (by omega) h2
theorem Lv.gs {d : Nat} {R : Tr} {G : Nat → List (List Int)} {i : Nat} (h : Lv d R G i) : Gs d (G i) := fun g hg => (h.gen g hg).1

/-- What sifts through a closed chain is just the group. -/
theorem sf_grp {d : Nat} (h1 : 1 ≤ d) (h2 : d ≤ 20) {R : Tr} {G : Nat → List (List Int)} {k : Nat} (h : Okc d R G k) : ∀ (f i : Nat), d - i = f → k ≤ i → i < d → ∀ p, Pm d p → Fx i p → (Sf d R i p ↔ Grp d (G i) p) := by
  intro f
  induction f with
  | zero => intro i hf _ hi; omega
  | succ f ih =>
    intro i hf hki hi p hp hfx
    obtain ⟨hl, hc, hm⟩ := h i hki hi
    -- the next level
    have hnext : ∀ q, Pm d q → Fx (i + 1) q → Sf d R (i + 1) q → Grp d (G i) q := by
      intro q hq hqf hs
      by_cases hlast : i + 1 < d
      · have := (ih (i + 1) (by omega) (by omega) hlast q hq hqf).1 hs
        exact this.mono h1 h2 hl.gs (hm hlast)
      · have e : i + 1 = d := by omega
        rw [e] at hqf
        rw [Fx.full h1 hq hqf]; exact .one
    have hone : Sf d R (i + 1) (idl d) := by
      by_cases hlast : i + 1 < d
      · exact (ih (i + 1) (by omega) (by omega) hlast _ (.idl h1 h2) (.idl _ _ (by omega))).2 .one
      · have e : i + 1 = d := by omega
        rw [e]; exact sf_end d R _
    have hmul : ∀ q r, Pm d q → Fx (i + 1) q → Pm d r → Fx (i + 1) r → Sf d R (i + 1) q → Sf d R (i + 1) r → Sf d R (i + 1) (comp q r) := by
      intro q r hq hqf hr hrf hs hs'
      by_cases hlast : i + 1 < d
      · have a := (ih (i + 1) (by omega) (by omega) hlast q hq hqf).1 hs
        have b := (ih (i + 1) (by omega) (by omega) hlast r hr hrf).1 hs'
        exact (ih (i + 1) (by omega) (by omega) hlast _ (hq.comp hr) (hqf.comp (by omega) hq hrf)).2 (a.comp h1 h2 (h (i + 1) (by omega) hlast).1.gs b)
      · have e : i + 1 = d := by omega
        rw [e]; exact sf_end d R _
    have hdiv : ∀ q t, Pm d q → Fx i q → Pm d t → Fx i t → at0 t i = at0 q i → Fx (i + 1) (comp q (inv t)) := by
      intro q t hq hqf ht htf e x hx
      by_cases hxi : x < i
      · exact hqf.comp (by omega) hq (htf.inv (by omega) ht) x hxi
      · obtain rfl : x = i := by omega
        rw [hq.at_comp (by omega) (by omega), ← e, ht.inv_at (by omega) (by omega)]
    rw [sf_step hi]
    constructor
    · rintro ⟨t, e, hs⟩
      obtain ⟨ht, htf, hty, _, htg⟩ := hl.row _ t e
      have hr := hp.rng (x := (i : Int)) (by omega) (by omega)
      have hti : at0 t i = at0 p i := by rw [hty]; omega
      have := hnext _ (hp.comp ht.inv) (hdiv p t hp hfx ht htf hti) hs
      have e2 := this.comp h1 h2 hl.gs htg
      rwa [hp.div_mul ht] at e2
    · intro hg
      clear hfx hp
      induction hg with
      | one =>
        refine ⟨idl d, ?_, ?_⟩
        · rw [idl_at0 (by omega) (by omega), Int.toNat_natCast]; exact hl.one
        · rw [(Pm.idl h1 h2).mul_inv]; exact hone
      | @mul q g hq hg ihq =>
        obtain ⟨t, e, hs⟩ := ihq
        have hqp := hq.pm h1 h2 hl.gs
        have hqf : Fx i q := by
          clear e hs hqp hg g t
          induction hq with
          | one => exact .idl _ _ (by omega)
          | mul hq hg ih' => exact ih'.comp (by omega) (hq.pm h1 h2 hl.gs) (hl.gen _ hg).2
        obtain ⟨ht, htf, hty, _, htg⟩ := hl.row _ t e
        have hgp := hl.gen g hg
        have hr := hqp.rng (x := (i : Int)) (by omega) (by omega)
        have hti : at0 t i = at0 q i := by rw [hty]; omega
        obtain ⟨t', e', hs'⟩ := hc _ t g e hg
        obtain ⟨ht', htf', hty', _, htg'⟩ := hl.row _ t' e'
        have hr2 := hgp.1.rng (x := at0 q i) hr.1 hr.2
        have eq : at0 (comp q g) i = at0 g (at0 q i) := hqp.at_comp (by omega) (by omega)
        refine ⟨t', by rw [eq, ← hti]; exact e', ?_⟩
        have htg2 : Pm d (comp t g) := ht.comp hgp.1
        have hfx2 : Fx (i + 1) (comp (comp t g) (inv t')) := hdiv _ _ htg2 (htf.comp (by omega) ht hgp.2) ht' htf' (by
          rw [ht.at_comp (by omega) (by omega), hty', hti]; omega)
        have hm2 := hmul _ _ (hqp.comp ht.inv) (hdiv q t hqp hqf ht htf hti) (htg2.comp ht'.inv) hfx2 hs hs'
        have e3 : comp (comp q (inv t)) (comp (comp t g) (inv t')) = comp (comp q g) (inv t') := by
          rw [← (hqp.comp ht.inv).assoc htg2, ← (hqp.comp ht.inv).assoc ht, hqp.div_mul ht]
        rwa [e3] at hm2
end Go.Proofs.Ytpijnjhheikmcaa
