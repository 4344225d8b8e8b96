/- IsPrimitive: the tops. -/
import Derived.Test.YtkojonjcikgikaaMbt
import Derived.Test.YtkojonjcikgikaaOrbTop2
namespace Go.Proofs.Ytkojonjcikgikaa
open Go.RowKit

noncomputable def pPrim (z : Int) (xss : List (List Int)) : Bool := pTrans z xss && decide (pMinAll z xss = [])
theorem minTo_none {d : Nat} {xss : List (List Int)} : ∀ k, minTo d xss k = [] ↔ ∀ y : Nat, 1 ≤ y → y ≤ k → ¬ 1 < (pMin d xss 0 (y : Int)).length
  | 0 => by simp [minTo]; intro y h1 h2; omega
  | k + 1 => by
    have ih := minTo_none (d := d) (xss := xss) k
    rw [minTo]
    constructor
    · intro h y h1 h2
      split at h
      · exact absurd h (by simp)
      · rename_i hc
        by_cases hy : y = k + 1
        · subst hy
          rw [h] at hc
          intro h3
          exact hc ⟨h3, by simp⟩
        · exact ih.1 h y h1 (by omega)
    · intro h
      have h0 := ih.2 fun y h1 h2 => h y h1 (by omega)
      rw [if_neg (fun hc => h (k + 1) (by omega) (by omega) hc.1)]
      exact h0
theorem pTrans_gen {z : Int} {xss : List (List Int)} (h : pTrans z xss = true) : GenSet z xss := by
  unfold pTrans at h
  rw [Bool.and_eq_true] at h
  exact of_decide_eq_true h.1
theorem topImplIsPrimitive {R : Ending → World → Prop} {B : Nat} (z : Int) (a : Option Addr) (n cap : Nat) (hs : List Hdr) (xss : List (List Int)) (w : World) (hz : -9223372036854775808 ≤ z ∧ z ≤ 9223372036854775807) (hx : OwnH w B a n cap hs xss)
    (H : Gives R w (.bool (pPrim z xss))) : Calls Try.prog 35 #[.int .i64 z, .slice a n cap] w R := by
  have H' := Hd.i H; clear H
  obtain ⟨t, ht⟩ : ∃ t, t = pTrans z xss := ⟨_, rfl⟩
  have hp := Hd.i (show pPrim z xss = (t && decide (pMinAll z xss = [])) by rw [ht]; rfl)
  replace ht := Hd.i ht
  cases t with
  | true =>
    go_enter Try.func35, Try.ntmps35
    go_wp2_with (first
      | (go_at_call 59; refine topImplIsTransitive z _ _ _ _ xss _ hz hx ?_; rw [← ht.o]; intro w1 hb1; have hx1 := hx.up hb1; replace hx1 := hx1.rows)
      | (go_at_call 60; refine implMinAll_c z _ _ _ xss _ hx1 ?_; intro a2 n2 c2 E w2 hb2 ho2))
    refine retB (H'.o _ (below_ups hb1 hb2 hb1.size)) ?_
    rw [hp.o, Bool.true_and]
    have hl := ho2.length
    by_cases h0 : n2 = 0
    · have e : pMinAll z xss = [] := List.eq_nil_of_length_eq_zero (by omega)
      rw [decide_eq_true e, h0]; rfl
    · have e : ¬ pMinAll z xss = [] := fun e => by rw [e] at hl; exact h0 hl.symm
      rw [decide_eq_false e]
      symm
      rw [beq_eq_false_iff_ne]
      omega
  | false =>
    go_enter Try.func35, Try.ntmps35
    go_wp2_with (first
      | (go_at_call 59; refine topImplIsTransitive z _ _ _ _ xss _ hz hx ?_; rw [← ht.o]; intro w1 hb1))
    refine retB (H'.o _ hb1) ?_
    rw [hp.o]; rfl

set_option maxHeartbeats 1000000 in
theorem topSpecIsPrimitive {R : Ending → World → Prop} {B : Nat} (z : Int) (a : Option Addr) (n cap : Nat) (hs : List Hdr) (xss : List (List Int)) (w : World) (hz : -9223372036854775808 ≤ z ∧ z ≤ 9223372036854775807) (hx : OwnH w B a n cap hs xss)
    (H : Gives R w (.bool (pPrim z xss))) : Calls Try.prog 33 #[.int .i64 z, .slice a n cap] w R := by
  have H' := Hd.i H; clear H
  obtain ⟨t, ht⟩ : ∃ t, t = pTrans z xss := ⟨_, rfl⟩
  have hp := Hd.i (show pPrim z xss = (t && decide (pMinAll z xss = [])) by rw [ht]; rfl)
  cases t with
  | true =>
    have hg := pTrans_gen ht.symm
    obtain ⟨d, rfl⟩ := genD hg
    have h1 : 1 ≤ d := by have := hg.1; omega
    have h2 : d ≤ 20 := by have := hg.2.1; omega
    have hp2 := Hd.i (show pPrim (d : Int) xss = decide (minTo d xss (d - 1) = []) by
      rw [hp.o, Bool.true_and]
      have e : pMinAll (d : Int) xss = minTo d xss (d - 1) := by unfold pMinAll; rw [if_pos hg, Int.toNat_natCast]
      rw [e])
    have hgs := Hd.i (show Gs d xss from gsB hg)
    replace hg := Hd.i hg
    replace ht := Hd.i ht
    go_enter Try.func33, Try.ntmps33
    go_wp2_with (first
      | (go_at_call 57; refine topSpecIsTransitive (d : Int) _ _ _ _ xss _ hz hx ?_; rw [← ht.o]; intro w1 hb1; have hx1 := hx.up hb1; replace hx1 := hx1.rows))
    have hs1 := hb1.size
    go_loopw [5] (fun yv wr => ∃ y : Nat, 1 ≤ y ∧ y ≤ d ∧ yv = .int .i64 y ∧ Hd (∀ y' : Nat, 1 ≤ y' → y' ≤ y - 1 → ¬ 1 < (pMin d xss 0 (y' : Int)).length) ∧ Below w1.heap.size w1 wr) (fun yv _ => d - (intOf yv).toNat)
    case atStart => exact ⟨1, Nat.le_refl _, h1, rfl, fun y' h3 h4 => by omega, Below.refl _ _⟩
    case round =>
      obtain ⟨y, hy1, hyd, rfl, hall, hb⟩ := hrel
      have hsz := hb.size
      have hm2 := hx1.up hb
      by_cases hlt : y < d
      · go_wp2_with fail
        refine specMin_c d _ _ _ xss 0 (y : Int) _ h2 hm2 hgs (by omega) (by omega) ?_
        intro a3 n3 c3 hs3 w3 hb3 ho3
        have hn3 := Hd.i ho3.length
        by_cases hlen : 1 < n3
        · have hno := Hd.i (show ¬ minTo d xss (d - 1) = [] from fun h => (minTo_none _).1 h y hy1 (by omega) (by rw [hn3.o]; exact hlen))
          go_wp2
          refine retB (H'.o _ (below_ups hb1 (below_ups hb hb3 hsz) hs1)) ?_
          rw [hp2.o, decide_eq_false hno.o]
        · have hall' : Hd (∀ y' : Nat, 1 ≤ y' → y' ≤ y + 1 - 1 → ¬ 1 < (pMin d xss 0 (y' : Int)).length) := by
            intro y' h3 h4
            by_cases hyy : y' = y
            · rw [hyy, hn3.o]; exact hlen
            · exact hall.o y' h3 (by omega)
          go_wp2
          exact ⟨⟨y + 1, by omega, by omega, by go_num, hall', below_ups hb hb3 hsz⟩, by simp [intOf]; omega⟩
      · obtain rfl : y = d := by omega
        have hyes := Hd.i ((minTo_none _).2 hall.o)
        go_wp2
        refine retB (H'.o _ (below_ups hb1 hb hs1)) ?_
        rw [hp2.o, decide_eq_true hyes.o]
  | false =>
    replace ht := Hd.i ht
    go_enter Try.func33, Try.ntmps33
    go_wp2_with (first
      | (go_at_call 57; refine topSpecIsTransitive z _ _ _ _ xss _ hz hx ?_; rw [← ht.o]; intro w1 hb1))
    refine retB (H'.o _ hb1) ?_
    rw [hp.o]; rfl
end Go.Proofs.Ytkojonjcikgikaa
