/- What a chain says, in terms of the group alone; no program in sight. -/
import Derived.Test.YtpijnjhheikmcaaChainNew
namespace Go.Proofs.Ytpijnjhheikmcaa

/-- A member that fixes the points below i maps i to y. -/
def Hit (d : Nat) (xss : List (List Int)) (i y : Nat) : Prop := ∃ p, Grp d xss p ∧ Fx i p ∧ at0 p (i : Int) = (y : Int)
open Classical in
noncomputable def osz (d : Nat) (xss : List (List Int)) (i : Nat) : Nat := ((List.range d).filter fun y => decide (Hit d xss i y)).length
open Classical in
noncomputable def memB (d : Nat) (xss : List (List Int)) (p : List Int) : Bool := decide (Grp d xss p)
noncomputable def oszs (d : Nat) (xss : List (List Int)) (k : Nat) : List Int := (List.range k).map fun i => (osz d xss i : Int)
/-- The product of f at k, .., i - 1. -/
def ordF (f : Nat → Nat) (k : Nat) : Nat → Nat
  | 0 => 1
  | i + 1 => if k ≤ i then ordF f k i * f i else 1
theorem ordF_self (f : Nat → Nat) (k : Nat) : ordF f k k = 1 := by
  cases k with
  | zero => rfl
  | succ k => unfold ordF; rw [if_neg (by omega)]
theorem ordF_succ (f : Nat → Nat) {k i : Nat} (h : k ≤ i) : ordF f k (i + 1) = ordF f k i * f i := by
  conv => lhs; unfold ordF
  rw [if_pos h]
theorem ordF_congr {f g : Nat → Nat} {k : Nat} : ∀ i, (∀ j, k ≤ j → j < i → f j = g j) → ordF f k i = ordF g k i
  | 0, _ => rfl
  | i + 1, h => by
    unfold ordF
    split
    · rename_i hk
      rw [ordF_congr i fun j h1 h2 => h j h1 (by omega), h i hk (by omega)]
    · rfl
def fac : Nat → Nat
  | 0 => 1
  | n + 1 => (n + 1) * fac n
theorem fac_pos : ∀ n, 0 < fac n
  | 0 => by decide
  | n + 1 => Nat.mul_pos (Nat.succ_pos _) (fac_pos n)
theorem fac_mono {n m : Nat} (h : n ≤ m) : fac n ≤ fac m := by
  induction m with
  | zero => obtain rfl : n = 0 := by omega
            exact Nat.le_refl _
  | succ m ih =>
    by_cases e : n = m + 1
    · subst e; exact Nat.le_refl _
    · have := ih (by omega)
      have h2 : fac m * 1 ≤ fac m * (m + 1) := Nat.mul_le_mul (Nat.le_refl _) (by omega)
      show fac n ≤ (m + 1) * fac m
      rw [Nat.mul_comm]
      omega
theorem fac_20 : fac 20 = 2432902008176640000 := by decide
/-- No product leaves the numbers. -/
theorem ordF_fac {d : Nat} {f : Nat → Nat} (hf : ∀ j, j < d → f j ≤ d - j) (k : Nat) : ∀ i, i ≤ d → ordF f k i * fac (d - i) ≤ fac d
  | 0, _ => by simp [ordF]
  | i + 1, hi => by
    unfold ordF
    split
    · have ih := ordF_fac hf k i (by omega)
      have e : fac (d - i) = (d - i) * fac (d - (i + 1)) := by
        obtain ⟨m, hm⟩ : ∃ m, d - i = m + 1 := ⟨d - i - 1, by omega⟩
        rw [show d - (i + 1) = m by omega, hm]; rfl
      rw [e] at ih
      have h1 : f i * fac (d - (i + 1)) ≤ (d - i) * fac (d - (i + 1)) := Nat.mul_le_mul (hf i (by omega)) (Nat.le_refl _)
      have h2 := Nat.mul_le_mul (Nat.le_refl (ordF f k i)) h1
      rw [← Nat.mul_assoc] at h2
      omega
    · have := fac_mono (n := d - (i + 1)) (m := d) (by omega)
      omega
theorem ordF_le {d : Nat} {f : Nat → Nat} (hd : d ≤ 20) (hf : ∀ j, j < d → f j ≤ d - j) (k i : Nat) (hi : i ≤ d) : ordF f k i ≤ 2432902008176640000 := by
  have h1 := ordF_fac hf k i hi
  have h2 := fac_pos (d - i)
  have h3 := fac_mono hd
  rw [fac_20] at h3
  have h4 : ordF f k i * 1 ≤ ordF f k i * fac (d - i) := Nat.mul_le_mul (Nat.le_refl _) h2
  omega

section
variable {d : Nat} {xss : List (List Int)} {R : Tr} {G : Nat → List (List Int)}
theorem Built.down (h1 : 1 ≤ d) (h2 : d ≤ 20) (h : Built d xss R G) {p : List Int} (hp : Pm d p) : ∀ i, i ≤ d → Fx i p → (Sf d R 0 p ↔ Sf d R i p)
  | 0, _, _ => Iff.rfl
  | i + 1, hi, hf => by
    rw [h.down h1 h2 hp i (by omega) fun x hx => hf x (by omega), sf_step (by omega)]
    have e : (at0 p (i : Int)).toNat = i := by rw [hf i (by omega)]; exact Int.toNat_natCast i
    have hone := (h.1.okc i (Nat.zero_le _) (by omega)).1.one
    have e2 : comp p (inv (idl d)) = p := by rw [inv_idl h1 h2, hp.mul_one]
    rw [e]
    constructor
    · rintro ⟨t, ht, hs⟩
      rw [hone] at ht
      cases ht
      rwa [e2] at hs
    · intro hs
      exact ⟨_, hone, by rwa [e2]⟩
theorem Built.mem (h1 : 1 ≤ d) (h2 : d ≤ 20) (h : Built d xss R G) {p : List Int} (hp : Pm d p) : Sf d R 0 p ↔ Grp d xss p :=
  (sf_grp h1 h2 h.1.okc _ 0 rfl (Nat.le_refl _) h1 p hp (fx_zero p)).trans (h.2 p)
theorem Built.hit (h1 : 1 ≤ d) (h2 : d ≤ 20) (h : Built d xss R G) {i y : Nat} (hi : i < d) : (R i y).isSome = true ↔ Hit d xss i y := by
  constructor
  · intro hs
    obtain ⟨t, ht⟩ := Option.isSome_iff_exists.1 hs
    obtain ⟨a, b, c, _, e⟩ := (h.1.okc i (Nat.zero_le _) hi).1.row y t ht
    exact ⟨t, (h.mem h1 h2 a).1 ((h.down h1 h2 a i (by omega) b).2 ((sf_grp h1 h2 h.1.okc _ i rfl (Nat.zero_le _) hi t a b).2 e)), b, c⟩
  · rintro ⟨p, hp, hf, e⟩
    have hg := (h.2 p).2 hp
    have hpm := hg.pm h1 h2 (h.gs h1)
    have hs := (h.down h1 h2 hpm i (by omega) hf).1 ((h.mem h1 h2 hpm).2 hp)
    obtain ⟨t, ht, _⟩ := (sf_step hi R p).1 hs
    rw [e, Int.toNat_natCast] at ht
    rw [ht]; rfl
open Classical in
theorem Built.osz (h1 : 1 ≤ d) (h2 : d ≤ 20) (h : Built d xss R G) {i : Nat} (hi : i < d) : szR d R i = osz d xss i := by
  unfold szR Go.Proofs.Ytpijnjhheikmcaa.osz
  congr 1
  refine List.filter_congr fun y _ => ?_
  have := h.hit h1 h2 (y := y) hi
  by_cases e : Hit d xss i y
  · rw [decide_eq_true e]; exact this.2 e
  · rw [decide_eq_false e]
    cases e2 : (R i y).isSome with
    | false => rfl
    | true => exact absurd (this.1 e2) e
end
theorem osz_le {d : Nat} {xss : List (List Int)} (h1 : 1 ≤ d) (h2 : d ≤ 20) (hg : Gs d xss) (i : Nat) (hi : i < d) : osz d xss i ≤ d - i := by
  have h : ∀ m, m ≤ d → ((List.range m).filter fun y => @decide (Hit d xss i y) (Classical.propDecidable _)).length ≤ m - i := by
    intro m
    induction m with
    | zero => intro _; simp
    | succ m ih =>
      intro hm
      have ih := ih (by omega)
      rw [List.range_succ, List.filter_append, List.length_append]
      by_cases hmi : i ≤ m
      · have : (List.filter (fun y => @decide (Hit d xss i y) (Classical.propDecidable _)) [m]).length ≤ 1 := Nat.le_trans (List.length_filter_le _ _) (by simp)
        omega
      · have hn : ¬ Hit d xss i m := by
          rintro ⟨p, hp, hf, e⟩
          have := hf.ge (by omega) (hp.pm h1 h2 hg) (x := (i : Int)) (by omega) (by omega)
          omega
        have : (List.filter (fun y => @decide (Hit d xss i y) (Classical.propDecidable _)) [m]).length = 0 := by simp [hn]
        omega
  exact h d (Nat.le_refl _)
/-- The same groups. -/
theorem osz_congr {d : Nat} {xss yss : List (List Int)} (h : ∀ p, Grp d xss p ↔ Grp d yss p) : osz d xss = osz d yss := by
  have : Hit d xss = Hit d yss := by
    funext i y
    exact propext ⟨fun ⟨p, a, b⟩ => ⟨p, (h p).1 a, b⟩, fun ⟨p, a, b⟩ => ⟨p, (h p).2 a, b⟩⟩
  funext i
  unfold osz
  rw [this]
theorem memB_congr {d : Nat} {xss yss : List (List Int)} (h : ∀ p, Grp d xss p ↔ Grp d yss p) : memB d xss = memB d yss := by
  have : Grp d xss = Grp d yss := funext fun p => propext (h p)
  funext p
  unfold memB
  rw [this]
theorem memB_iff {d : Nat} {xss : List (List Int)} {p : List Int} : memB d xss p = true ↔ Grp d xss p := by unfold memB; simp
theorem Built.memB {d : Nat} {xss : List (List Int)} {R : Tr} {G : Nat → List (List Int)} (h1 : 1 ≤ d) (h2 : d ≤ 20) (h : Built d xss R G) {p : List Int} (hp : Pm d p) {b : Bool} (hb : b = true ↔ Sf d R 0 p) : b = memB d xss p := by
  have e := (hb.trans (h.mem h1 h2 hp)).trans memB_iff.symm
  cases b <;> cases hm : Go.Proofs.Ytpijnjhheikmcaa.memB d xss p <;> simp_all
end Go.Proofs.Ytpijnjhheikmcaa
