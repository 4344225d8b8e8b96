/- What the laws of orbits call: Orbit, Orbits, IsTransitive, FixedPoints, by both. -/
import Derived.Test.YtiekjklhojmnoaaOrbTop
namespace Go.Proofs.Ytiekjklhojmnoaa
open Go.RowKit

def OrbOk (z : Int) (xss : List (List Int)) (x : Int) : Prop := GenSet z xss ∧ 0 ≤ x ∧ x < z
instance (z : Int) (xss : List (List Int)) (x : Int) : Decidable (OrbOk z xss x) := inferInstanceAs (Decidable (_ ∧ _))
noncomputable def pOrbit (z : Int) (xss : List (List Int)) (x : Int) : List Int := if OrbOk z xss x then orb z.toNat xss x else []
noncomputable def pOrbits (z : Int) (xss : List (List Int)) : List (List Int) := if GenSet z xss then orbs z.toNat xss else []
noncomputable def pTrans (z : Int) (xss : List (List Int)) : Bool := decide (GenSet z xss) && decide ((orbs z.toNat xss).length = 1)
/-- The points that are alone in their orbit. -/
noncomputable def fixTo (d : Nat) (xss : List (List Int)) (k : Nat) : List Int := (idl k).filter fun x => decide ((orb d xss x).length = 1)
noncomputable def pFixed (z : Int) (xss : List (List Int)) : List Int := if GenSet z xss then fixTo z.toNat xss z.toNat else []
theorem fixTo_succ (d : Nat) (xss : List (List Int)) (k : Nat) : fixTo d xss (k + 1) = fixTo d xss k ++ (if (orb d xss k).length = 1 then [(k : Int)] else []) := by
  unfold fixTo
  rw [idl_succ, List.filter_append]
  congr 1
  by_cases h : (orb d xss k).length = 1 <;> simp [h]
theorem fixTo_le (d : Nat) (xss : List (List Int)) (k : Nat) : (fixTo d xss k).length ≤ k := by
  unfold fixTo
  refine Nat.le_trans (List.length_filter_le _ _) ?_
  rw [idl_length]; exact Nat.le_refl _
/-- The only point of a short orbit. -/
theorem orb_one {d : Nat} {xss : List (List Int)} (hg : Gens d xss) {x : Int} (hx : 0 ≤ x ∧ x < d) (h : (orb d xss x).length = 1) : orb d xss x = [x] ∧ ∀ y, Reach xss x y → y = x := by
  match e : orb d xss x, h with
  | [a], _ =>
    have hm := (mem_orb hg hx (y := x)).2 .refl
    rw [e] at hm
    obtain rfl := List.mem_singleton.1 hm
    refine ⟨rfl, fun y hy => ?_⟩
    have := (mem_orb hg hx (y := y)).2 hy
    rw [e] at this
    exact List.mem_singleton.1 this
theorem fix_of_orbs {d : Nat} {xss : List (List Int)} (hg : Gens d xss) : ∀ k, k ≤ d → (((orbsTo d xss k).filter fun o => decide (o.length = 1)).map fun o => o.headD 0) = fixTo d xss k
  | 0, _ => by simp [orbsTo, fixTo, idl]
  | k + 1, hk => by
    rw [orbsTo_succ, List.filter_append, List.map_append, fix_of_orbs hg k (by omega), fixTo_succ]
    congr 1
    by_cases hL : LeadO xss k
    · rw [if_pos hL]
      by_cases h : (orb d xss k).length = 1
      · rw [if_pos h]
        have := (orb_one hg (x := (k : Int)) (by omega) h).1
        simp [this]
      · rw [if_neg h]; simp [h]
    · rw [if_neg hL, if_neg]
      · rfl
      · intro h
        refine hL fun y hy => ?_
        have := (orb_one hg (x := (k : Int)) (by omega) h).2 y hy
        omega
theorem cells_each {n : Nat} : ∀ l : List (List Int), (∀ c ∈ l, c.length ≤ n) → cells l ≤ n * l.length := by
  intro l
  induction l with
  | nil => simp [cells]
  | cons x t ih =>
    intro hl
    have h1 := hl x List.mem_cons_self
    have h2 := ih fun y hy => hl y (List.mem_cons_of_mem _ hy)
    unfold cells at *
    simp only [List.map_cons, List.sum_cons, List.length_cons, Nat.mul_succ]
    omega
theorem pOrbits_cells (z : Int) (xss : List (List Int)) : cells (pOrbits z xss) ≤ 400 := by
  unfold pOrbits
  split
  · rename_i hg
    have hz : z.toNat ≤ 20 := by have := hg.2.1; omega
    have h1 : ∀ c ∈ orbs z.toNat xss, c.length ≤ 20 := by
      intro c hc
      simp only [orbs, orbsTo, List.mem_map] at hc
      obtain ⟨x, _, rfl⟩ := hc
      exact Nat.le_trans (orb_le _ _ _) hz
    have h2 := cells_each _ h1
    have h3 : (orbs z.toNat xss).length ≤ z.toNat := orbsTo_le _ _ _
    have : 20 * (orbs z.toNat xss).length ≤ 20 * 20 := Nat.mul_le_mul_left _ (by omega)
    omega
  · simp [cells]

theorem topSpecOrbit {R : Ending → World → Prop} {B : Nat} (z : Int) (a : Option Addr) (n cap : Nat) (hs : List Hdr) (xss : List (List Int)) (x : Int) (w : World) (_ : -9223372036854775808 ≤ z ∧ z ≤ 9223372036854775807) (hx : OwnH w B a n cap hs xss) (_ : -9223372036854775808 ≤ x ∧ x ≤ 9223372036854775807)
    (H : MakesI R w (pOrbit z xss x)) : Calls Try.prog 29 #[.int .i64 z, .slice a n cap, .int .i64 x] w R := by
  have H' := Hd.i H; clear H
  have hm := hx.rows
  by_cases hg : GenSet z xss
  · have hdec := Hd.i (decide_eq_true hg)
    obtain ⟨d, rfl⟩ : ∃ d : Nat, z = d := ⟨z.toNat, by have := hg.1; omega⟩
    have hd1 : 1 ≤ d := by have := hg.1; omega
    have hd20 : d ≤ 20 := by have := hg.2.1; omega
    have hgs := Hd.i (genSet_gens hg)
    by_cases hp : 0 ≤ x ∧ x < d
    · have hpd := Hd.i (decide_eq_true hp)
      have e := Hd.i (show pOrbit (d : Int) xss x = orb d xss x from if_pos ⟨hg, hp⟩)
      replace hg := Hd.i hg
      replace hp := Hd.i hp
      go_enter Try.func29, Try.ntmps29
      go_wp2_with fail
      refine specGenSet_c (d : Int) _ _ _ xss _ hm ?_
      intro w1 hd
      rw [hdec.o]
      have hb1 := hd.below w.heap.size
      go_wp2_with fail
      refine specPoint_c d x _ hd1 hd20 ?_
      rw [hpd.o]
      go_wp2_with fail
      refine orbitOf_c d _ _ _ xss x _ (hm.up hb1) hgs hd20 hp ?_
      intro a1 m1 d1 os w2 hos hb2 ho1
      have hso := Hd.i (sortI_orb hgs.o hp.o hos.o)
      have hm1 : m1 ≤ 1000 := by rw [← ho1.length]; have := found_le hgs.o hp.o hos.o; omega
      have hbw := below_ups hb1 hb2 hb1.size
      go_wp2_with fail
      refine sortedInts_c _ _ _ os _ ho1.ints hm1 hos.o.1 ?_
      intro a2 m2 d2 w3 hb3 ho2
      rw [hso.o, ← e.o] at ho2
      go_wp2_with fail
      exact H'.o _ _ _ _ (below_ups hbw hb3 hbw.size) (ho2.mono hbw.size)
    · have hpd := Hd.i (decide_eq_false hp)
      have e := Hd.i (show pOrbit (d : Int) xss x = [] from if_neg (fun h => hp h.2))
      replace hg := Hd.i hg
      replace hp := Hd.i hp
      go_enter Try.func29, Try.ntmps29
      go_wp2_with fail
      refine specGenSet_c (d : Int) _ _ _ xss _ hm ?_
      intro w1 hd
      rw [hdec.o]
      have hb1 := hd.below w.heap.size
      go_wp2_with fail
      refine specPoint_c d x _ hd1 hd20 ?_
      rw [hpd.o]
      go_wp2_with fail
      exact H'.o _ _ _ _ (hb1.alloc hb1.size _) (by rw [e.o]; exact OwnI.emptyLit _ hb1.size)
  · have hdec := Hd.i (decide_eq_false hg)
    have e := Hd.i (show pOrbit z xss x = [] from if_neg (fun h => hg h.1))
    replace hg := Hd.i hg
    go_enter Try.func29, Try.ntmps29
    go_wp2_with fail
    refine specGenSet_c z _ _ _ xss _ hm ?_
    intro w1 hd
    rw [hdec.o]
    have hb1 := hd.below w.heap.size
    go_wp2_with fail
    exact H'.o _ _ _ _ (hb1.alloc hb1.size _) (by rw [e.o]; exact OwnI.emptyLit _ hb1.size)

theorem topImplOrbit {R : Ending → World → Prop} {B : Nat} (z : Int) (a : Option Addr) (n cap : Nat) (hs : List Hdr) (xss : List (List Int)) (x : Int) (w : World) (_ : -9223372036854775808 ≤ z ∧ z ≤ 9223372036854775807) (hx : OwnH w B a n cap hs xss) (_ : -9223372036854775808 ≤ x ∧ x ≤ 9223372036854775807)
    (H : MakesI R w (pOrbit z xss x)) : Calls Try.prog 30 #[.int .i64 z, .slice a n cap, .int .i64 x] w R := by
  have H' := Hd.i H; clear H
  have hm := hx.rows
  by_cases hg : GenSet z xss
  · have hdec := Hd.i (decide_eq_true hg)
    obtain ⟨d, rfl⟩ : ∃ d : Nat, z = d := ⟨z.toNat, by have := hg.1; omega⟩
    have hd1 : 1 ≤ d := by have := hg.1; omega
    have hd20 : d ≤ 20 := by have := hg.2.1; omega
    by_cases hp : 0 ≤ x ∧ x < d
    · obtain ⟨x, rfl⟩ : ∃ k : Nat, x = k := ⟨x.toNat, by omega⟩
      have hxd : x < d := by omega
      have hpd := Hd.i (decide_eq_true hp)
      have e := Hd.i (show pOrbit (d : Int) xss x = orb d xss x from if_pos ⟨hg, hp⟩)
      replace hg := Hd.i hg
      replace hp := Hd.i hp
      go_enter Try.func30, Try.ntmps30
      go_wp2_with fail
      refine implGenSet_c (d : Int) _ _ _ xss _ hm ?_
      intro w1 hb1
      rw [hdec.o]
      go_wp2_with fail
      refine implPoint_c d (x : Int) _ hd1 hd20 ?_
      rw [hpd.o]
      go_wp2_with fail
      refine implOrb_c d _ _ _ xss x _ (hm.up hb1) hg hxd ?_
      intro a2 m2 d2 w3 hb3 ho2
      rw [← e.o] at ho2
      go_wp2_with fail
      exact H'.o _ _ _ _ (below_ups hb1 hb3 hb1.size) (ho2.mono hb1.size)
    · have hpd := Hd.i (decide_eq_false hp)
      have e := Hd.i (show pOrbit (d : Int) xss x = [] from if_neg (fun h => hp h.2))
      replace hg := Hd.i hg
      replace hp := Hd.i hp
      go_enter Try.func30, Try.ntmps30
      go_wp2_with fail
      refine implGenSet_c (d : Int) _ _ _ xss _ hm ?_
      intro w1 hb1
      rw [hdec.o]
      go_wp2_with fail
      refine implPoint_c d x _ hd1 hd20 ?_
      rw [hpd.o]
      go_wp2_with fail
      exact H'.o _ _ _ _ hb1 (by rw [e.o]; exact OwnI.nil _ _)
  · have hdec := Hd.i (decide_eq_false hg)
    have e := Hd.i (show pOrbit z xss x = [] from if_neg (fun h => hg h.1))
    replace hg := Hd.i hg
    go_enter Try.func30, Try.ntmps30
    go_wp2_with fail
    refine implGenSet_c z _ _ _ xss _ hm ?_
    intro w1 hb1
    rw [hdec.o]
    go_wp2_with fail
    exact H'.o _ _ _ _ hb1 (by rw [e.o]; exact OwnI.nil _ _)

theorem topSpecOrbits {R : Ending → World → Prop} {B : Nat} (z : Int) (a : Option Addr) (n cap : Nat) (hs : List Hdr) (xss : List (List Int)) (w : World) (_ : -9223372036854775808 ≤ z ∧ z ≤ 9223372036854775807) (hx : OwnH w B a n cap hs xss)
    (H : MakesR R w (pOrbits z xss)) : Calls Try.prog 33 #[.int .i64 z, .slice a n cap] w R := by
  have H' := Hd.i H; clear H
  have hm := hx.rows
  by_cases hg : GenSet z xss
  · have hdec := Hd.i (decide_eq_true hg)
    obtain ⟨d, rfl⟩ : ∃ d : Nat, z = d := ⟨z.toNat, by have := hg.1; omega⟩
    have e := Hd.i (show pOrbits (d : Int) xss = orbs d xss from if_pos hg)
    replace hg := Hd.i hg
    go_enter Try.func33, Try.ntmps33
    go_wp2_with fail
    refine specGenSet_c (d : Int) _ _ _ xss _ hm ?_
    intro w1 hd
    rw [hdec.o]
    have hb1 := hd.below w.heap.size
    go_wp2_with fail
    refine allOrbits_c d _ _ _ xss _ (hm.up hb1) hg ?_
    intro a2 m2 d2 hs2 w3 hb3 ho2
    rw [← e.o] at ho2
    go_wp2_with fail
    exact H'.o _ _ _ _ _ (below_ups hb1 hb3 hb1.size) (ho2.mono hb1.size)
  · have hdec := Hd.i (decide_eq_false hg)
    have e := Hd.i (show pOrbits z xss = [] from if_neg hg)
    replace hg := Hd.i hg
    go_enter Try.func33, Try.ntmps33
    go_wp2_with fail
    refine specGenSet_c z _ _ _ xss _ hm ?_
    intro w1 hd
    rw [hdec.o]
    have hb1 := hd.below w.heap.size
    go_wp2_with fail
    exact H'.o _ _ _ _ _ (hb1.alloc hb1.size _) (by rw [e.o]; exact OwnH.emptyLit _ hb1.size)
theorem topImplOrbits {R : Ending → World → Prop} {B : Nat} (z : Int) (a : Option Addr) (n cap : Nat) (hs : List Hdr) (xss : List (List Int)) (w : World) (_ : -9223372036854775808 ≤ z ∧ z ≤ 9223372036854775807) (hx : OwnH w B a n cap hs xss)
    (H : MakesR R w (pOrbits z xss)) : Calls Try.prog 34 #[.int .i64 z, .slice a n cap] w R := by
  have H' := Hd.i H; clear H
  have hm := hx.rows
  by_cases hg : GenSet z xss
  · have hdec := Hd.i (decide_eq_true hg)
    obtain ⟨d, rfl⟩ : ∃ d : Nat, z = d := ⟨z.toNat, by have := hg.1; omega⟩
    have e := Hd.i (show pOrbits (d : Int) xss = orbs d xss from if_pos hg)
    replace hg := Hd.i hg
    go_enter Try.func34, Try.ntmps34
    go_wp2_with fail
    refine implGenSet_c (d : Int) _ _ _ xss _ hm ?_
    intro w1 hb1
    rw [hdec.o]
    go_wp2_with fail
    refine implOrbits_c d _ _ _ xss _ (hm.up hb1) hg ?_
    intro a2 m2 d2 hs2 w3 hb3 ho2
    rw [← e.o] at ho2
    go_wp2_with fail
    exact H'.o _ _ _ _ _ (below_ups hb1 hb3 hb1.size) (ho2.mono hb1.size)
  · have hdec := Hd.i (decide_eq_false hg)
    have e := Hd.i (show pOrbits z xss = [] from if_neg hg)
    replace hg := Hd.i hg
    go_enter Try.func34, Try.ntmps34
    go_wp2_with fail
    refine implGenSet_c z _ _ _ xss _ hm ?_
    intro w1 hb1
    rw [hdec.o]
    go_wp2_with fail
    exact H'.o _ _ _ _ _ hb1 (by rw [e.o]; exact OwnH.nil _ _)

theorem topSpecIsTransitive {R : Ending → World → Prop} {B : Nat} (z : Int) (a : Option Addr) (n cap : Nat) (hs : List Hdr) (xss : List (List Int)) (w : World) (_ : -9223372036854775808 ≤ z ∧ z ≤ 9223372036854775807) (hx : OwnH w B a n cap hs xss)
    (H : Gives R w (.bool (pTrans z xss))) : Calls Try.prog 27 #[.int .i64 z, .slice a n cap] w R := by
  have H' := Hd.i H; clear H
  have hm := hx.rows
  by_cases hg : GenSet z xss
  · have hdec := Hd.i (decide_eq_true hg)
    obtain ⟨d, rfl⟩ : ∃ d : Nat, z = d := ⟨z.toNat, by have := hg.1; omega⟩
    have e : pTrans (d : Int) xss = decide ((orbs d xss).length = 1) := by simp [pTrans, hg]
    replace hg := Hd.i hg
    replace e := Hd.i e
    go_enter Try.func27, Try.ntmps27
    go_wp2_with fail
    refine specGenSet_c (d : Int) _ _ _ xss _ hm ?_
    intro w1 hd
    rw [hdec.o]
    have hb1 := hd.below w.heap.size
    go_wp2_with fail
    refine allOrbits_c d _ _ _ xss _ (hm.up hb1) hg ?_
    intro a2 m2 d2 hs2 w3 hb3 ho2
    have hm2 := Hd.i ho2.length
    have hle := ho2.le
    go_wp2_with fail
    exact retB (H'.o _ (below_ups hb1 hb3 hb1.size)) (by rw [e.o, hm2.o, Bool.eq_iff_iff]; simp <;> omega)
  · have hdec := Hd.i (decide_eq_false hg)
    have e : pTrans z xss = false := by simp [pTrans, hg]
    replace hg := Hd.i hg
    replace e := Hd.i e
    go_enter Try.func27, Try.ntmps27
    go_wp2_with fail
    refine specGenSet_c z _ _ _ xss _ hm ?_
    intro w1 hd
    rw [hdec.o]
    have hb1 := hd.below w.heap.size
    go_wp2_with fail
    exact retB (H'.o _ hb1) e.o
theorem topImplIsTransitive {R : Ending → World → Prop} {B : Nat} (z : Int) (a : Option Addr) (n cap : Nat) (hs : List Hdr) (xss : List (List Int)) (w : World) (_ : -9223372036854775808 ≤ z ∧ z ≤ 9223372036854775807) (hx : OwnH w B a n cap hs xss)
    (H : Gives R w (.bool (pTrans z xss))) : Calls Try.prog 28 #[.int .i64 z, .slice a n cap] w R := by
  have H' := Hd.i H; clear H
  have hm := hx.rows
  by_cases hg : GenSet z xss
  · have hdec := Hd.i (decide_eq_true hg)
    obtain ⟨d, rfl⟩ : ∃ d : Nat, z = d := ⟨z.toNat, by have := hg.1; omega⟩
    have e : pTrans (d : Int) xss = decide ((orbs d xss).length = 1) := by simp [pTrans, hg]
    replace hg := Hd.i hg
    replace e := Hd.i e
    go_enter Try.func28, Try.ntmps28
    go_wp2_with fail
    refine implGenSet_c (d : Int) _ _ _ xss _ hm ?_
    intro w1 hb1
    rw [hdec.o]
    go_wp2_with fail
    refine implOrbits_c d _ _ _ xss _ (hm.up hb1) hg ?_
    intro a2 m2 d2 hs2 w3 hb3 ho2
    have hm2 := Hd.i ho2.length
    have hle := ho2.le
    go_wp2_with fail
    exact retB (H'.o _ (below_ups hb1 hb3 hb1.size)) (by rw [e.o, hm2.o, Bool.eq_iff_iff]; simp <;> omega)
  · have hdec := Hd.i (decide_eq_false hg)
    have e : pTrans z xss = false := by simp [pTrans, hg]
    replace hg := Hd.i hg
    replace e := Hd.i e
    go_enter Try.func28, Try.ntmps28
    go_wp2_with fail
    refine implGenSet_c z _ _ _ xss _ hm ?_
    intro w1 hb1
    rw [hdec.o]
    go_wp2_with fail
    exact retB (H'.o _ hb1) e.o

set_option maxHeartbeats 1000000 in
theorem topSpecFixedPoints {R : Ending → World → Prop} {B : Nat} (z : Int) (a : Option Addr) (n cap : Nat) (hs : List Hdr) (xss : List (List Int)) (w : World) (_ : -9223372036854775808 ≤ z ∧ z ≤ 9223372036854775807) (hx : OwnH w B a n cap hs xss)
    (H : MakesI R w (pFixed z xss)) : Calls Try.prog 31 #[.int .i64 z, .slice a n cap] w R := by
  have H' := Hd.i H; clear H
  have hm := hx.rows
  have hb0 := (Below.refl w.heap.size w).alloc (Nat.le_refl _) (.cells #[] 2)
  have ho0 := OwnI.emptyLit w (B := w.heap.size) (Nat.le_refl _)
  by_cases hg : GenSet z xss
  · have hdec := Hd.i (decide_eq_true hg)
    obtain ⟨d, rfl⟩ : ∃ d : Nat, z = d := ⟨z.toNat, by have := hg.1; omega⟩
    have hd20 : d ≤ 20 := by have := hg.2.1; omega
    have hgs := Hd.i (genSet_gens hg)
    have e := Hd.i (show pFixed (d : Int) xss = fixTo d xss d from if_pos hg)
    replace hg := Hd.i hg
    go_enter Try.func31, Try.ntmps31
    go_wp2
    go_loopw [5, 6] (fun v i wr => ∃ (k : Nat) (c : Option Addr) (m capc : Nat), k ≤ d ∧ i = .int .i64 k ∧ v = .slice c m capc ∧ OwnI wr w.heap.size c m capc (fixTo d xss k) ∧ Below w.heap.size w wr) (fun _ i _ => d - (intOf i).toNat)
    case atStart => exact ⟨0, _, 0, 0, Nat.zero_le _, rfl, rfl, by simpa [fixTo, idl] using ho0, hb0⟩
    case round =>
      obtain ⟨k, c, m, capc, hk, rfl, rfl, ho, hb⟩ := hrel
      by_cases hlt : k < d
      · have hkr := Hd.i (show 0 ≤ (k : Int) ∧ (k : Int) < d by omega)
        have hmk : m ≤ k := by rw [← ho.length]; exact fixTo_le d xss k
        go_wp2_with fail
        refine specGenSet_c (d : Int) _ _ _ xss _ (hm.up hb) ?_
        intro w1 hd
        rw [hdec.o]
        have hb1 := hd.up hb
        have ho1 := hd.ownI ho
        go_wp2_with fail
        refine orbitOf_c d _ _ _ xss (k : Int) _ (hm.up hb1) hgs hd20 hkr ?_
        intro a1 m1 d1 os w2 hos hb2 ho2
        have hlen : m1 = (orb d xss k).length := by rw [← ho2.length, ← sortI_orb hgs.o hkr.o hos.o]; exact (sortI_spec _ os rfl hos.o.1).2.2.symm
        have hle2 := ho2.le
        have ho3 := ho1.up hb2
        have hb3 := below_ups hb1 hb2 hb1.size
        have hs3 := hb3.size
        have c1' : (m + 1) * 8 ≤ 140737488355328 := by omega
        have c2' : m + 1 ≤ 281474976710656 := by omega
        by_cases h1 : m1 = 1
        · subst h1
          have el := Hd.i (show fixTo d xss (k + 1) = fixTo d xss k ++ [(k : Int)] by rw [fixTo_succ, if_pos hlen.symm])
          replace hlen := Hd.i hlen
          go_wp2_with (at_builtin; refine appendL_c rfl _ _ _ rfl w.heap.size 2 (.int .i64 0) 8 Try.underlying23 infoInt rfl _ _ _ _ rfl ho3.1 [.int .i64 k] 1 rfl rfl oneInt c1' c2' hs3 ?_; intro a4 n4 cap4 w4 hn4 ho4 hg4 ha4)
          exact ⟨⟨k + 1, a4, n4, cap4, by omega, by go_num, rfl, by rw [el.o]; exact OwnI.snoc ho4 ho3.2 (by omega) (by omega), ho3.grewBelow hg4 hb3 hs3⟩, by simp [intOf]; omega⟩
        · have el := Hd.i (show fixTo d xss (k + 1) = fixTo d xss k by rw [fixTo_succ, if_neg (by omega), List.append_nil])
          have hne : ((m1 : Int) == 1) = false := by simp; omega
          replace hlen := Hd.i hlen
          go_wp2
          exact ⟨⟨k + 1, c, m, capc, by omega, by go_num, rfl, by rw [el.o]; exact ho3, hb3⟩, by simp [intOf]; omega⟩
      · obtain rfl : k = d := by omega
        go_wp2
        exact H'.o _ _ _ _ hb (by rw [e.o]; exact ho)
  · have hdec := Hd.i (decide_eq_false hg)
    have e := Hd.i (show pFixed z xss = [] from if_neg hg)
    replace hg := Hd.i hg
    by_cases hz : 0 < z
    · go_enter Try.func31, Try.ntmps31
      go_wp2
      refine wp_loop_rounds 1 ?_
      rw [rounds_succ]
      go_wp2_with fail
      refine specGenSet_c z _ _ _ xss _ (hm.up hb0) ?_
      intro w1 hd
      rw [hdec.o]
      go_wp2
      exact H'.o _ _ _ _ (hd.up hb0) (by rw [e.o]; exact hd.ownI ho0)
    · go_enter Try.func31, Try.ntmps31
      go_wp2
      refine wp_loop_rounds 1 ?_
      rw [rounds_succ]
      go_wp2
      exact H'.o _ _ _ _ hb0 (by rw [e.o]; exact ho0)

set_option maxHeartbeats 1000000 in
theorem topImplFixedPoints {R : Ending → World → Prop} {B : Nat} (z : Int) (a : Option Addr) (n cap : Nat) (hs : List Hdr) (xss : List (List Int)) (w : World) (hz : -9223372036854775808 ≤ z ∧ z ≤ 9223372036854775807) (hx : OwnH w B a n cap hs xss)
    (H : MakesI R w (pFixed z xss)) : Calls Try.prog 32 #[.int .i64 z, .slice a n cap] w R := by
  have H' := Hd.i H; clear H
  have hval : Hd (pFixed z xss = ((pOrbits z xss).filter fun o => decide (o.length = 1)).map fun o => o.headD 0) := by
    show _ = _
    unfold pFixed pOrbits
    split
    · rename_i hg
      obtain ⟨d, rfl⟩ : ∃ d : Nat, z = d := ⟨z.toNat, by have := hg.1; omega⟩
      rw [Int.toNat_natCast]
      exact (fix_of_orbs (genSet_gens hg) d (Nat.le_refl _)).symm
    · rfl
  have hcl : Hd ((pOrbits z xss).length ≤ 20) := by
    show _ ≤ _
    unfold pOrbits
    split
    · rename_i hg
      have := orbsTo_le z.toNat xss z.toNat
      have := hg.2.1
      unfold orbs
      omega
    · simp
  go_enter Try.func32, Try.ntmps32
  go_wp2_with fail
  refine topImplOrbits z _ _ _ hs xss _ hz hx ?_
  intro a1 m1 d1 hs1 w1 hb1 ho1
  have hm1 := Hd.i ho1.length
  have hle1 := ho1.le
  obtain ⟨oo, hoo⟩ : ∃ oo, pOrbits z xss = oo := ⟨_, rfl⟩
  rw [hoo] at ho1 hm1 hval hcl
  clear hoo
  have hm1b : m1 ≤ 20 := by have := hm1.o; have := hcl.o; omega
  go_wp2
  go_loopw [5, 12] (fun v i wr => ∃ (k : Nat) (c : Option Addr) (m capc : Nat), k ≤ m1 ∧ i = .int .i64 k ∧ v = .slice c m capc ∧ OwnI wr w1.heap.size c m capc (((oo.take k).filter fun o => decide (o.length = 1)).map fun o => o.headD 0) ∧ Below w1.heap.size w1 wr) (fun _ i _ => m1 - (intOf i).toNat)
  case atStart => exact ⟨0, none, 0, 0, Nat.zero_le _, rfl, rfl, OwnI.nil _ _, Below.refl _ _⟩
  case round =>
    obtain ⟨k, c, m, capc, hk, rfl, rfl, ho, hb⟩ := hrel
    by_cases hlt : k < m1
    · obtain ⟨b, a', n', c', ys, rfl, hbB, hbl, hcell, hhk, hyk, hrow⟩ := (ho1.up hb).head hlt
      have hyl := hrow.length
      have hrl := hrow.le
      have hmk : m ≤ 20 := by rw [← ho.length, List.length_map]; have := List.length_filter_le (fun o : List Int => decide (o.length = 1)) (oo.take k); rw [List.length_take] at this; omega
      have c1' : (m + 1) * 8 ≤ 140737488355328 := by omega
      have c2' : m + 1 ≤ 281474976710656 := by omega
      have hs := hb.size
      by_cases h1 : n' = 1
      · subst h1
        obtain ⟨g', y, e, _, hgl, hcy, _, hy⟩ := hrow.look (k := 0) (by omega)
        subst e
        have hyr := hrow.2 y (List.mem_of_getElem? hy.o)
        have el := Hd.i (show (((oo.take (k + 1)).filter fun o => decide (o.length = 1)).map fun o => o.headD 0) = (((oo.take k).filter fun o => decide (o.length = 1)).map fun o => o.headD 0) ++ [y] by
          rw [take_succ_some hyk.o, List.filter_append, List.map_append]
          congr 1
          have hy := hy.o
          match ys, hyl with
          | [u], _ => simp at hy; simp [hy])
        replace hyl := Hd.i hyl
        go_wp2_with (at_builtin; refine appendL_c rfl _ _ _ rfl w1.heap.size 2 (.int .i64 0) 8 Try.underlying23 infoInt rfl _ _ _ _ rfl ho.1 [.int .i64 y] 1 rfl rfl oneInt c1' c2' hs ?_; intro a4 n4 cap4 w4 hn4 ho4 hg4 ha4)
        exact ⟨⟨k + 1, a4, n4, cap4, by omega, by go_num, rfl, by rw [el.o]; exact OwnI.snoc ho4 ho.2 hyr.1 hyr.2, ho.grewBelow hg4 hb hs⟩, by simp [intOf]; omega⟩
      · have el := Hd.i (show (((oo.take (k + 1)).filter fun o => decide (o.length = 1)).map fun o => o.headD 0) = (((oo.take k).filter fun o => decide (o.length = 1)).map fun o => o.headD 0) by
          rw [take_succ_some hyk.o, List.filter_append, List.map_append]
          have : ¬ ys.length = 1 := by omega
          simp [this])
        have hne : ((n' : Int) == 1) = false := by simp; omega
        replace hyl := Hd.i hyl
        go_wp2
        exact ⟨⟨k + 1, c, m, capc, by omega, by go_num, rfl, by rw [el.o]; exact ho, hb⟩, by simp [intOf]; omega⟩
    · obtain rfl : k = m1 := by omega
      go_wp2
      rw [List.take_of_length_le (by have := hm1.o; omega), ← hval.o] at ho
      exact H'.o _ _ _ _ (below_ups hb1 hb hb1.size) (ho.mono hb1.size)
end Go.Proofs.Ytiekjklhojmnoaa
