/- FindConjugator: the program's. -/
import Derived.Test.YtkojonjcikgikaaNextP
import Derived.Test.YtkojonjcikgikaaType
namespace Go.Proofs.Ytkojonjcikgikaa
open Go.RowKit

noncomputable def pFindC (p q : List Int) : List Int := if pSameType p q = true ∧ p.length ≤ 7 then extC p q [] else []
theorem perm_of_len {x y : List Int} (hx : IsPerm x) (hy : IsPerm y) (hl : x.length = y.length) : x.Perm y := by
  rw [List.perm_ext_iff_of_nodup hx.2.2.2 hy.2.2.2]
  intro z
  constructor
  · intro h; have := hx.range z h; exact List.mem_of_getElem? (hy.surj (x := z) this.1 (by omega)).choose_spec
  · intro h; have := hy.range z h; exact List.mem_of_getElem? (hx.surj (x := z) this.1 (by omega)).choose_spec
theorem perm_isPerm {x y : List Int} (hx : IsPerm x) (h : y.Perm x) : IsPerm y :=
  ⟨by rw [h.length_eq]; exact hx.1, by rw [h.length_eq]; exact hx.2.1, fun z hz => by rw [h.length_eq]; exact hx.2.2.1 z (h.mem_iff.1 hz), h.nodup_iff.2 hx.2.2.2⟩
theorem dig_perm {x : List Int} (hx : IsPerm x) (hn : x.length ≤ 7) : Dig x := fun z hz => by have := hx.range z hz; omega
theorem cd_small {x : List Int} (hx : IsPerm x) (hn : x.length ≤ 7) : cd x < 2097152 := by
  have h1 := cd_lt (dig_perm hx hn)
  have h2 : 8 ^ x.length ≤ 8 ^ 7 := Nat.pow_le_pow_right (by omega) hn
  omega
theorem start_least {p q : List Int} {n : Nat} (h1 : 1 ≤ n) (hn : n ≤ 7) (hl : p.length = n) : ∀ y, SolC p q y → cd (idl n) ≤ cd y := by
  intro y hy
  have hi : IsPerm (idl n) := isPerm_idl' h1 (by omega)
  have hyl : y.length = (idl n).length := by rw [idl_length, hy.1.2, hl]
  exact asc_least (dig_perm hi (by rw [idl_length]; exact hn)) ((idl_sorted n).imp fun h => Int.le_of_lt h) (perm_of_len hy.1.1 hi hyl)

set_option maxHeartbeats 2000000 in
set_option maxRecDepth 100000 in
theorem topImplFindConjugator {R : Ending → World → Prop} {B B' : Nat} (a : Option Addr) (n cap : Nat) (p : List Int) (a' : Option Addr) (n' cap' : Nat) (q : List Int) (w : World) (h : OwnI w B a n cap p) (h' : OwnI w B' a' n' cap' q)
    (H : MakesIB R w (pFindC p q) (pSameType p q && decide (p.length ≤ 7))) : Calls Try.prog 11 #[.slice a n cap, .slice a' n' cap'] w R := by
  have H' := Hd.i H; clear H
  have hln := Hd.i h.length
  by_cases hs : pSameType p q = true
  · have hs' := of_decide_eq_true hs
    have hp := Hd.i hs'.1
    have hq := Hd.i hs'.2.1
    have hlq := Hd.i (same_len hs'.1 hs'.2.1 hs'.2.2)
    by_cases hn : n ≤ 7
    · have e1 := Hd.i (show pFindC p q = extC p q [] by unfold pFindC; rw [if_pos ⟨hs, by have := hln.o; omega⟩])
      have e2 := Hd.i (show (pSameType p q && decide (p.length ≤ 7)) = true by rw [hs, decide_eq_true (by have := hln.o; omega)]; rfl)
      obtain ⟨y0, hy0⟩ := has_conj hs'.1 hs'.2.1 (same_len hs'.1 hs'.2.1 hs'.2.2) hs'.2.2
      replace hy0 := Hd.i hy0
      have hn1 : 1 ≤ n := by have := hp.o.1; have := hln.o; omega
      replace hs := Hd.i hs
      clear hs'
      go_enter Try.func11, Try.ntmps11
      go_wp2_with (first | (go_at_call 18; refine topImplSameCycleType _ _ _ p _ _ _ q _ h h' ?_; intro w1 hb1; rw [hs.o]) | (go_at_call 39; refine length_c _ _ _ _ ?_) | (go_at_call 38; refine implIdentity_c n _ (by omega) ?_; intro bx mx cx w2 hb2 ho2))
      have hmx : mx = n := by have := ho2.length; rw [idl_length] at this; omega
      subst hmx
      obtain ⟨g, z0, rfl, _⟩ := ho2.look (k := 0) (by omega)
      have hs1 := hb1.size
      replace ho2 := ho2.mono hs1
      have hb2' := below_ups hb1 hb2 hs1
      clear hb1 hb2
      go_loopg [] 2097152 (fun gk wr => ∃ x, OwnI wr w.heap.size (some ⟨g, 0, none⟩) mx cx x ∧ Below w.heap.size w wr ∧ Hd (IsPerm x ∧ x.length = p.length) ∧ Hd (∀ y, SolC p q y → cd x ≤ cd y) ∧ Hd (2097152 ≤ gk + cd x))
      case atStart => exact ⟨idl mx, ho2, hb2', ⟨isPerm_idl' hn1 (by omega), by rw [idl_length, hln.o]⟩, start_least hn1 hn hln.o, by show _ ≤ _; omega⟩
      case round =>
        obtain ⟨x, ho, hb, hx, hmin, hgk⟩ := hrel
        have hpp : PermPair p x := ⟨hx.o.2.symm, hp.o, hx.o.1⟩
        have hsz := hb.size
        by_cases hc : cj p x = q
        · have hdec := Hd.i (decide_eq_true (show conj p x = q from hc))
          have e3 := Hd.i (show extC p q [] = x from extC_eq (by have := hln.o; omega) ⟨⟨hx.o, hc⟩, List.nil_prefix⟩ fun y hy => hmin.o y hy.1)
          go_wp2_with (first | (go_at_call 41; refine implConjugate_c _ _ _ p _ _ _ x _ (h.ints.up hb) ho.ints hpp ?_; intro b3 m3 c3 w3 hb3 ho3) | (go_at_call 40; refine slicesEqual_c _ _ _ (conj p x) _ _ _ q _ ho3.ints (h'.ints.up (below_ups hb hb3 hsz)) ?_; intro w4 hd4; rw [hdec.o]))
          have hf := H'.o _ _ _ _ (hd4.up (below_ups hb hb3 hsz)) (by rw [e1.o, e3.o]; exact hd4.ownI (ho.up hb3))
          rw [e2.o] at hf
          exact hf
        · have hdec := Hd.i (decide_eq_false (show ¬ conj p x = q from hc))
          have hlt : cd x < cd y0 := by
            have h1 := hmin.o y0 hy0.o
            rcases Nat.lt_or_ge (cd x) (cd y0) with h2 | h2
            · exact h2
            · have h3 : x = y0 := cd_inj (hx.o.2.trans hy0.o.1.2.symm) (dig_perm hx.o.1 (by rw [hx.o.2]; have := hln.o; omega)) (hy0.o.dig (by have := hln.o; omega)) (by omega)
              exact absurd (h3 ▸ hy0.o.2) hc
          have hdx := dig_perm hx.o.1 (by rw [hx.o.2]; have := hln.o; omega)
          have hnf : ¬ x.Pairwise (· > ·) := by
            intro hf
            have := desc_most hdx (hf.imp fun h => Int.le_of_lt h) (perm_of_len hy0.o.1.1 hx.o.1 (hy0.o.1.2.trans hx.o.2.symm))
            omega
          obtain ⟨u0, u1, u2, u3, u4, rfl, f1, f2, f3⟩ := next_split hx.o.1.2.2.2 hnf
          have hnm := next_min hdx f1 f2 f3
          have hnp := next_perm u0 u2 u4 u1 u3
          have hx' : Hd (IsPerm (u0 ++ u3 :: (u2 ++ u1 :: u4).reverse) ∧ (u0 ++ u3 :: (u2 ++ u1 :: u4).reverse).length = p.length) := ⟨perm_isPerm hx.o.1 hnp, hnp.length_eq.trans hx.o.2⟩
          have hmin' : Hd (∀ y, SolC p q y → cd (u0 ++ u3 :: (u2 ++ u1 :: u4).reverse) ≤ cd y) := by
            intro y hy
            have h1 := hmin.o y hy
            refine hnm.2 y (perm_of_len hy.1.1 hx.o.1 (hy.1.2.trans hx.o.2.symm)) ?_
            rcases Nat.lt_or_ge (cd (u0 ++ u1 :: (u2 ++ u3 :: u4))) (cd y) with h2 | h2
            · exact h2
            · have h3 := cd_inj (hx.o.2.trans hy.1.2.symm) hdx (hy.dig (by have := hln.o; omega)) (by omega)
              exact absurd (h3 ▸ hy.2) hc
          have hgk' : Hd (0 < gk ∧ 2097152 ≤ gk - 1 + cd (u0 ++ u3 :: (u2 ++ u1 :: u4).reverse)) := by
            have h1 := cd_small hx.o.1 (by rw [hx.o.2]; have := hln.o; omega)
            have h2 := hgk.o
            have h3 := hnm.1
            exact ⟨by omega, by omega⟩
          replace f1 := Hd.i f1
          replace f2 := Hd.i f2
          replace f3 := Hd.i f3
          replace hdx := Hd.i hdx
          clear hlt hnf hnm hnp hc
          go_wp2_with (first | (go_at_call 41; refine implConjugate_c _ _ _ p _ _ _ _ _ (h.ints.up hb) ho.ints hpp ?_; intro b3 m3 c3 w3 hb3 ho3) | (go_at_call 40; refine slicesEqual_c _ _ _ (conj p (u0 ++ u1 :: (u2 ++ u3 :: u4))) _ _ _ q _ ho3.ints (h'.ints.up (below_ups hb hb3 hsz)) ?_; intro w4 hd4; rw [hdec.o]; have ho4 := hd4.ownI (ho.up hb3); have hb4 := hd4.up (below_ups hb hb3 hsz)) | (go_at_call 42; refine nextPerm_c g mx cx u0 u2 u4 u1 u3 _ ho4 hn f1 f2 f3 ?_; intro w5 hg5 ho5))
          go_roundg (gk - 1)
          case measure => have := hgk'.o; omega
          case rel => exact ⟨_, ho5, ho4.grewBelow hg5 hb4 hb4.size, hx', hmin', hgk'.o.2⟩
    · have e1 := Hd.i (show pFindC p q = [] by unfold pFindC; rw [if_neg (by have := hln.o; omega)])
      have e2 := Hd.i (show (pSameType p q && decide (p.length ≤ 7)) = false by rw [decide_eq_false (by have := hln.o; omega)]; simp)
      replace hs := Hd.i hs
      clear hs'
      go_enter Try.func11, Try.ntmps11
      go_wp2_with (first | (go_at_call 18; refine topImplSameCycleType _ _ _ p _ _ _ q _ h h' ?_; intro w1 hb1; rw [hs.o]))
      have hf := H'.o _ _ _ _ hb1 (by rw [e1.o]; exact OwnI.nil _ _)
      rw [e2.o] at hf
      exact hf
  · have hs0 := Hd.i (show pSameType p q = false by simpa using hs)
    have e1 := Hd.i (show pFindC p q = [] by unfold pFindC; rw [if_neg (fun h => hs h.1)])
    have e2 := Hd.i (show (pSameType p q && decide (p.length ≤ 7)) = false by rw [hs0.o]; rfl)
    clear hs
    go_enter Try.func11, Try.ntmps11
    go_wp2_with (first | (go_at_call 18; refine topImplSameCycleType _ _ _ p _ _ _ q _ h h' ?_; intro w1 hb1; rw [hs0.o]))
    have hf := H'.o _ _ _ _ hb1 (by rw [e1.o]; exact OwnI.nil _ _)
    rw [e2.o] at hf
    exact hf
end Go.Proofs.Ytkojonjcikgikaa
