/- What the laws of orbits call: Orbit, Orbits, IsTransitive, FixedPoints, by both. -/
import Derived.Test.YtkojonjcikgikaaOrbTop
namespace Go.Proofs.Ytkojonjcikgikaa
open Go.RowKit

def OrbOk (z : Int) (xss : List (List Int)) (x : Int) : Prop := GenSet z xss ∧ 0 ≤ x ∧ x < z
instance (z : Int) (xss : List (List Int)) (x : Int) : Decidable (OrbOk z xss x) := inferInstanceAs (Decidable (_ ∧ _))
noncomputable def pOrbit (z : Int) (xss : List (List Int)) (x : Int) : List Int := if OrbOk z xss x then orb z.toNat xss x else []
noncomputable def pOrbits (z : Int) (xss : List (List Int)) : List (List Int) := if GenSet z xss then orbs z.toNat xss else []
noncomputable def pTrans (z : Int) (xss : List (List Int)) : Bool := decide (GenSet z xss) && decide ((orbs z.toNat xss).length = 1)
/-- The points that are alone in their orbit. -/
noncomputable def fixTo (d : Nat) (xss : List (List Int)) (k : Nat) : List Int := (idl k).filter fun x => decide ((orb d xss x).length = 1)
noncomputable def pFixed (z : Int) (xss : List (List Int)) : List Int := if GenSet z xss then fixTo z.toNat xss z.toNat else []
theorem fixTo_succ (d : Nat) (xss : List (List Int)) (k : Nat) : fixTo d xss (k + 1) = fixTo d xss k ++ (if (orb d xss k).length = 1 then [(k : Int)] else []) := by
  unfold fixTo
  rw [idl_succ, List.filter_append]
  congr 1
  by_cases h : (orb d xss k).length = 1 <;> simp [h]
theorem fixTo_le (d : Nat) (xss : List (List Int)) (k : Nat) : (fixTo d xss k).length ≤ k := by
  unfold fixTo
  refine Nat.le_trans (List.length_filter_le _ _) ?_
  rw [idl_length]; exact Nat.le_refl _
/-- The only point of a short orbit. -/
theorem orb_one {d : Nat} {xss : List (List Int)} (hg : Gens d xss) {x : Int} (hx : 0 ≤ x ∧ x < d) (h : (orb d xss x).length = 1) : orb d xss x = [x] ∧ ∀ y, Reach xss x y → y = x := by
  match e : orb d xss x, h with
  | [a], _ =>
    have hm := (mem_orb hg hx (y := x)).2 .refl
    rw [e] at hm
    obtain rfl := List.mem_singleton.1 hm
    refine ⟨rfl, fun y hy => ?_⟩
    have := (mem_orb hg hx (y := y)).2 hy
    rw [e] at this
    exact List.mem_singleton.1 this
theorem fix_of_orbs {d : Nat} {xss : List (List Int)} (hg : Gens d xss) : ∀ k, k ≤ d → (((orbsTo d xss k).filter fun o => decide (o.length = 1)).map fun o => o.headD 0) = fixTo d xss k
  | 0, _ => by simp [orbsTo, fixTo, idl]
  | k + 1, hk => by
    rw [orbsTo_succ, List.filter_append, List.map_append, fix_of_orbs hg k (by omega), fixTo_succ]
    congr 1
    by_cases hL : LeadO xss k
    · rw [if_pos hL]
      by_cases h : (orb d xss k).length = 1
      · rw [if_pos h]
        have := (orb_one hg (x := (k : Int)) (by omega) h).1
        simp [this]
      · rw [if_neg h]; simp [h]
    · rw [if_neg hL, if_neg]
      · rfl
      · intro h
        refine hL fun y hy => ?_
        have := (orb_one hg (x := (k : Int)) (by omega) h).2 y hy
        omega
theorem cells_each {n : Nat} : ∀ l : List (List Int), (∀ c ∈ l, c.length ≤ n) → cells l ≤ n * l.length := by
  intro l
  induction l with
  | nil => simp [cells]
  | cons x t ih =>
    intro hl
    have h1 := hl x List.mem_cons_self
    have h2 := ih fun y hy => hl y (List.mem_cons_of_mem _ hy)
    unfold cells at *
    simp only [List.map_cons, List.sum_cons, List.length_cons, Nat.mul_succ]
    omega
theorem pOrbits_cells (z : Int) (xss : List (List Int)) : cells (pOrbits z xss) ≤ 400 := by
  unfold pOrbits
  split
  · rename_i hg
    have hz : z.toNat ≤ 20 := by have := hg.2.1; omega
    have h1 : ∀ c ∈ orbs z.toNat xss, c.length ≤ 20 := by
      intro c hc
      simp only [orbs, orbsTo, List.mem_map] at hc
      obtain ⟨x, _, rfl⟩ := hc
      exact Nat.le_trans (orb_le _ _ _) hz
    have h2 := cells_each _ h1
    have h3 : (orbs z.toNat xss).length ≤ z.toNat := orbsTo_le _ _ _
    have : 20 * (orbs z.toNat xss).length ≤ 20 * 20 := Nat.mul_le_mul_left _ (by omega)
    omega
  · simp [cells]

theorem topSpecIsTransitive {R : Ending → World → Prop} {B : Nat} (z : Int) (a : Option Addr) (n cap : Nat) (hs : List Hdr) (xss : List (List Int)) (w : World) (_ : -9223372036854775808 ≤ z ∧ z ≤ 9223372036854775807) (hx : OwnH w B a n cap hs xss)
    (H : Gives R w (.bool (pTrans z xss))) : Calls Try.prog 57 #[.int .i64 z, .slice a n cap] w R := by
  have H' := Hd.i H; clear H
  have hm := hx.rows
  by_cases hg : GenSet z xss
  · have hdec := Hd.i (decide_eq_true hg)
    obtain ⟨d, rfl⟩ : ∃ d : Nat, z = d := ⟨z.toNat, by have := hg.1; omega⟩
    have e : pTrans (d : Int) xss = decide ((orbs d xss).length = 1) := by simp [pTrans, hg]
    replace hg := Hd.i hg
    replace e := Hd.i e
    go_enter Try.func57, Try.ntmps57
    go_wp2_with fail
    refine specGenSet_c (d : Int) _ _ _ xss _ hm ?_
    intro w1 hd
    rw [hdec.o]
    have hb1 := hd.below w.heap.size
    go_wp2_with fail
    refine allOrbits_c d _ _ _ xss _ (hm.up hb1) hg ?_
    intro a2 m2 d2 hs2 w3 hb3 ho2
    have hm2 := Hd.i ho2.length
    have hle := ho2.le
    go_wp2_with fail
    exact retB (H'.o _ (below_ups hb1 hb3 hb1.size)) (by rw [e.o, hm2.o, Bool.eq_iff_iff]; simp <;> omega)
  · have hdec := Hd.i (decide_eq_false hg)
    have e : pTrans z xss = false := by simp [pTrans, hg]
    replace hg := Hd.i hg
    replace e := Hd.i e
    go_enter Try.func57, Try.ntmps57
    go_wp2_with fail
    refine specGenSet_c z _ _ _ xss _ hm ?_
    intro w1 hd
    rw [hdec.o]
    have hb1 := hd.below w.heap.size
    go_wp2_with fail
    exact retB (H'.o _ hb1) e.o
theorem topImplIsTransitive {R : Ending → World → Prop} {B : Nat} (z : Int) (a : Option Addr) (n cap : Nat) (hs : List Hdr) (xss : List (List Int)) (w : World) (_ : -9223372036854775808 ≤ z ∧ z ≤ 9223372036854775807) (hx : OwnH w B a n cap hs xss)
    (H : Gives R w (.bool (pTrans z xss))) : Calls Try.prog 59 #[.int .i64 z, .slice a n cap] w R := by
  have H' := Hd.i H; clear H
  have hm := hx.rows
  by_cases hg : GenSet z xss
  · have hdec := Hd.i (decide_eq_true hg)
    obtain ⟨d, rfl⟩ : ∃ d : Nat, z = d := ⟨z.toNat, by have := hg.1; omega⟩
    have e : pTrans (d : Int) xss = decide ((orbs d xss).length = 1) := by simp [pTrans, hg]
    replace hg := Hd.i hg
    replace e := Hd.i e
    go_enter Try.func59, Try.ntmps59
    go_wp2_with fail
    refine implGenSet_c (d : Int) _ _ _ xss _ hm ?_
    intro w1 hb1
    rw [hdec.o]
    go_wp2_with fail
    refine implOrbits_c d _ _ _ xss _ (hm.up hb1) hg ?_
    intro a2 m2 d2 hs2 w3 hb3 ho2
    have hm2 := Hd.i ho2.length
    have hle := ho2.le
    go_wp2_with fail
    exact retB (H'.o _ (below_ups hb1 hb3 hb1.size)) (by rw [e.o, hm2.o, Bool.eq_iff_iff]; simp <;> omega)
  · have hdec := Hd.i (decide_eq_false hg)
    have e : pTrans z xss = false := by simp [pTrans, hg]
    replace hg := Hd.i hg
    replace e := Hd.i e
    go_enter Try.func59, Try.ntmps59
    go_wp2_with fail
    refine implGenSet_c z _ _ _ xss _ hm ?_
    intro w1 hb1
    rw [hdec.o]
    go_wp2_with fail
    exact retB (H'.o _ hb1) e.o

end Go.Proofs.Ytkojonjcikgikaa
