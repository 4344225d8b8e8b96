/- FindConjugator: the reference's. -/
import Derived.Test.YtkojonjcikgikaaFindI
import Derived.Test.YtkojonjcikgikaaOrbitS
namespace Go.Proofs.Ytkojonjcikgikaa
open Go.RowKit

/-- A beginning of a permutation of n points. -/
def PreP (n : Nat) (x : List Int) : Prop := x.Nodup ∧ x.length ≤ n ∧ ∀ v ∈ x, 0 ≤ v ∧ v < (n : Int)
theorem PreP.snoc {n : Nat} {x : List Int} {v : Nat} (h : PreP n x) (hl : x.length < n) (hv : v < n) (hx : (v : Int) ∉ x) : PreP n (x ++ [(v : Int)]) := by
  refine ⟨?_, by rw [List.length_append]; exact hl, fun y hy => ?_⟩
  · rw [List.nodup_append]
    exact ⟨h.1, by simp, fun a ha b hb => by rw [List.mem_singleton] at hb; subst hb; exact fun e => hx (e ▸ ha)⟩
  · rcases List.mem_append.1 hy with hy | hy
    · exact h.2.2 y hy
    · rw [List.mem_singleton] at hy; omega
theorem PreP.full {n : Nat} {x : List Int} (h : PreP n x) (hl : x.length = n) (h1 : 1 ≤ n) (h2 : n ≤ 20) : IsPerm x := ⟨by omega, by omega, fun v hv => by have := h.2.2 v hv; omega, h.1⟩

def ExtAt (K : Nat) : Prop := ∀ {R : Ending → World → Prop} {B B' B'' : Nat} (a : Option Addr) (n cap : Nat) (p : List Int) (a' : Option Addr) (n' cap' : Nat) (q : List Int) (c : Option Addr) (m capc : Nat) (x : List Int) (w : World)
    (_ : OwnI w B a n cap p) (_ : OwnI w B' a' n' cap' q) (_ : OwnI w B'' c m capc x) (_ : B'' ≤ w.heap.size) (_ : Hd (IsPerm p)) (_ : n ≤ 7) (_ : Hd (PreP n x)) (_ : Hd (n - m = K))
    (_ : ∀ c' m' cap' w', Below w.heap.size w w' → OwnI w' B'' c' m' cap' (extC p q x) → R (.returned (.slice c' m' cap')) w'),
    Calls Try.prog 37 #[.slice a n cap, .slice a' n' cap', .slice c m capc] w R

set_option maxHeartbeats 2000000 in
set_option maxRecDepth 100000 in
theorem ext_leaf {R : Ending → World → Prop} {B B' B'' : Nat} (a : Option Addr) (n cap : Nat) (p : List Int) (a' : Option Addr) (n' cap' : Nat) (q : List Int) (c : Option Addr) (capc : Nat) (x : List Int) (w : World)
    (h : OwnI w B a n cap p) (h' : OwnI w B' a' n' cap' q) (hx : OwnI w B'' c n capc x) (hB : B'' ≤ w.heap.size) (hp : Hd (IsPerm p)) (hn : n ≤ 7) (hpre : Hd (PreP n x))
    (H : ∀ c' m' cap' w', Below w.heap.size w w' → OwnI w' B'' c' m' cap' (extC p q x) → R (.returned (.slice c' m' cap')) w') :
    Calls Try.prog 37 #[.slice a n cap, .slice a' n' cap', .slice c n capc] w R := by
  have H' := Hd.i H; clear H
  have hln := Hd.i h.length
  have hlx := Hd.i hx.length
  have hxp := Hd.i (hpre.o.full hlx.o (by have := hp.o.1; have := hln.o; omega) (by omega))
  have hpp := Hd.i (show PermPair p x from ⟨hln.o.trans hlx.o.symm, hp.o, hxp.o⟩)
  have ev := Hd.i (show pConjugate p x = cj p x by unfold pConjugate; rw [if_pos hpp.o]; rfl)
  have el := Hd.i (extC_leaf (p := p) (q := q) (x := x) (by have := hln.o; omega) hxp.o (hlx.o.trans hln.o.symm))
  by_cases hc : cj p x = q
  · have hdec := Hd.i (decide_eq_true hc)
    rw [if_pos hc] at el
    go_enter Try.func37, Try.ntmps37
    go_wp2_with (first | (go_at_call 61; refine topSpecConjugate _ _ _ p _ _ _ x _ h hx ?_; rw [ev.o]; intro b1 m1 c1 w1 hb1 ho1) | (go_at_call 47; refine equalInts_c _ _ _ (cj p x) _ _ _ q _ ho1.ints (h'.ints.up hb1) ?_; intro w2 hd2; rw [hdec.o]))
    exact H'.o _ _ _ _ (hd2.up hb1) (by rw [el.o]; exact hd2.ownI (hx.up hb1))
  · have hdec := Hd.i (decide_eq_false hc)
    rw [if_neg hc] at el
    go_enter Try.func37, Try.ntmps37
    go_wp2_with (first | (go_at_call 61; refine topSpecConjugate _ _ _ p _ _ _ x _ h hx ?_; rw [ev.o]; intro b1 m1 c1 w1 hb1 ho1) | (go_at_call 47; refine equalInts_c _ _ _ (cj p x) _ _ _ q _ ho1.ints (h'.ints.up hb1) ?_; intro w2 hd2; rw [hdec.o]))
    have hb2 := hd2.up hb1
    have hs2 := hb2.size
    exact H'.o _ _ _ _ (hb2.alloc hs2 _) (by rw [el.o]; exact OwnI.emptyLit _ (by omega))

set_option maxHeartbeats 4000000 in
set_option maxRecDepth 100000 in
theorem ext_step (K : Nat) (hK : ExtAt K) : ExtAt (K + 1) := by
  intro R B B' B'' a n cap p a' n' cap' q c m capc x w h h' hx hB hp hn hpre hKe H
  have H' := Hd.i H; clear H
  have hln := Hd.i h.length
  have hlx := Hd.i hx.length
  have hmn : m < n := by have := hKe.o; omega
  have hne : ((m : Int) == (n : Int)) = false := by rw [beq_eq_false_iff_ne]; omega
  have hlt7 := Hd.i (show p.length ≤ 7 by have := hln.o; omega)
  have hxl := Hd.i (show x.length < p.length by have := hln.o; have := hlx.o; omega)
  go_enter Try.func37, Try.ntmps37
  go_wp2
  go_loopw [10] (fun iv wr => ∃ v : Nat, v ≤ n ∧ iv = .int .i64 v ∧ Below w.heap.size w wr ∧ Hd (∀ v' : Int, 0 ≤ v' → v' < v → v' ∉ x → ¬ ∃ y, SolX p q (x ++ [v']) y)) (fun iv _ => n - (intOf iv).toNat)
  case atStart => exact ⟨0, Nat.zero_le _, rfl, Below.refl _ _, fun v' h0 h1 => by omega⟩
  case round =>
    obtain ⟨v, hv, rfl, hb, hno⟩ := hrel
    have hsz := hb.size
    have hx1 := hx.up hb
    by_cases hlt : v < n
    · by_cases hin : (v : Int) ∈ x
      · have hdec := Hd.i (show x.contains (v : Int) = true by rw [List.contains_iff_mem]; exact hin)
        have hno' : Hd (∀ v' : Int, 0 ≤ v' → v' < ((v + 1 : Nat) : Int) → v' ∉ x → ¬ ∃ y, SolX p q (x ++ [v']) y) := by
          intro v' h0 h1 h2
          by_cases e : v' = v
          · subst e; exact absurd hin h2
          · exact hno.o v' h0 (by omega) h2
        clear hin hno
        go_wp2_with (first | (go_at_call 62; refine containsInt_c _ _ _ x _ _ hx1.ints ?_; rw [hdec.o]))
        exact ⟨⟨v + 1, by omega, by go_num, hb, hno'⟩, by simp [intOf]; omega⟩
      · have hdec := Hd.i (show x.contains (v : Int) = false by simpa using hin)
        have hpre2 := Hd.i (hpre.o.snoc (by have := hlx.o; omega) hlt hin)
        have hm6 : m ≤ 1000000 := by omega
        by_cases hex : ∃ y, SolX p q (x ++ [(v : Int)]) y
        · have est := Hd.i (extC_step hlt7.o hxl.o hex hno.o)
          have hlen := Hd.i (extC_some hex).1.1.1.2
          clear hin hno hex
          go_wp2_with (first | (go_at_call 62; refine containsInt_c _ _ _ x _ _ hx1.ints ?_; rw [hdec.o]) | (go_at_call 63; go_loud (refine copyInts_c _ _ _ x _ hx1.ints hm6 ?_; intro g3 m3 c3 w3 hb3 ho3; have hm3 := Hd.i (show m3 = m by have e3 := ho3.length; have e4 := hlx.o; omega); have c1 : (m3 + 1) * 8 ≤ 140737488355328 := (by have := hm3.o; omega); have c2 : m3 + 1 ≤ 281474976710656 := (by have := hm3.o; omega); have hs3 : w.heap.size ≤ w3.heap.size := (by have := hb3.size; omega))) | (at_builtin; go_loud (refine appendL_c rfl _ _ _ rfl w.heap.size 2 (.int .i64 0) 8 Try.underlying22 infoInt rfl _ _ _ _ rfl (ho3.mono hsz).1 [.int .i64 (v : Int)] 1 rfl rfl oneInt c1 c2 hs3 ?_; intro a4 n4 cap4 w4 hn4 ho4 hg4 ha4; have hb33 := below_ups hb hb3 hsz; have hb4 := (ho3.mono hsz).grewBelow hg4 hb33 hb33.size; have ho4' := OwnI.snoc ho4 ho3.2 (by omega) (by omega))))
          refine hK _ _ _ p _ _ _ q _ _ _ _ _ (h.up hb4) (h'.up hb4) ho4' hb4.size hp hn hpre2 ?_ ?_
          · show _ = _
            have := hn4.o; have := hKe.o; have := hm3.o; omega
          intro b5 m5 c5 w5 hb5 ho5
          have hb55 := below_ups hb4 hb5 hb4.size
          obtain ⟨m5, rfl⟩ : ∃ k5, m5 = k5 + 1 := ⟨m5 - 1, by have e5 := ho5.length; have e6 := hlen.o; have e7 := hxl.o; omega⟩
          go_wp2
          exact H'.o _ _ _ _ hb55 (by rw [est.o]; exact ho5.mono hB)
        · have hno' : Hd (∀ v' : Int, 0 ≤ v' → v' < ((v + 1 : Nat) : Int) → v' ∉ x → ¬ ∃ y, SolX p q (x ++ [v']) y) := by
            intro v' h0 h1 h2
            by_cases e : v' = v
            · subst e; exact hex
            · exact hno.o v' h0 (by omega) h2
          have hlen := Hd.i (extC_none hex)
          clear hin hno hex
          go_wp2_with (first | (go_at_call 62; refine containsInt_c _ _ _ x _ _ hx1.ints ?_; rw [hdec.o]) | (go_at_call 63; go_loud (refine copyInts_c _ _ _ x _ hx1.ints hm6 ?_; intro g3 m3 c3 w3 hb3 ho3; have hm3 := Hd.i (show m3 = m by have e3 := ho3.length; have e4 := hlx.o; omega); have c1 : (m3 + 1) * 8 ≤ 140737488355328 := (by have := hm3.o; omega); have c2 : m3 + 1 ≤ 281474976710656 := (by have := hm3.o; omega); have hs3 : w.heap.size ≤ w3.heap.size := (by have := hb3.size; omega))) | (at_builtin; go_loud (refine appendL_c rfl _ _ _ rfl w.heap.size 2 (.int .i64 0) 8 Try.underlying22 infoInt rfl _ _ _ _ rfl (ho3.mono hsz).1 [.int .i64 (v : Int)] 1 rfl rfl oneInt c1 c2 hs3 ?_; intro a4 n4 cap4 w4 hn4 ho4 hg4 ha4; have hb33 := below_ups hb hb3 hsz; have hb4 := (ho3.mono hsz).grewBelow hg4 hb33 hb33.size; have ho4' := OwnI.snoc ho4 ho3.2 (by omega) (by omega))))
          refine hK _ _ _ p _ _ _ q _ _ _ _ _ (h.up hb4) (h'.up hb4) ho4' hb4.size hp hn hpre2 ?_ ?_
          · show _ = _
            have := hn4.o; have := hKe.o; have := hm3.o; omega
          intro b5 m5 c5 w5 hb5 ho5
          have hb55 := below_ups hb4 hb5 hb4.size
          obtain rfl : m5 = 0 := by have e5 := ho5.length; rw [hlen.o] at e5; simp at e5; omega
          go_wp2
          exact ⟨⟨v + 1, by omega, by go_num, hb55, hno'⟩, by simp [intOf]; omega⟩
    · obtain rfl : v = n := by omega
      have est := Hd.i (extC_none (extC_stuck hxl.o fun v' h0 h1 h2 => hno.o v' h0 (by have := hln.o; omega) h2))
      go_wp2
      exact H'.o _ _ _ _ (hb.alloc hsz _) (by rw [est.o]; exact OwnI.emptyLit _ (by omega))
theorem ext_zero : ExtAt 0 := by
  intro R B B' B'' a n cap p a' n' cap' q c m capc x w h h' hx hB hp hn hpre hKe H
  have hl := hx.length
  have hm : m = n := by have h1 := hpre.o.2.1; have h2 := hKe.o; omega
  subst hm
  exact ext_leaf _ _ _ p _ _ _ q _ _ x _ h h' hx hB hp hn hpre H
theorem ext_c (K : Nat) : ExtAt K := by
  induction K with
  | zero => exact ext_zero
  | succ K ih => exact ext_step K ih

set_option maxHeartbeats 1000000 in
set_option maxRecDepth 100000 in
theorem topSpecFindConjugator {R : Ending → World → Prop} {B B' : Nat} (a : Option Addr) (n cap : Nat) (p : List Int) (a' : Option Addr) (n' cap' : Nat) (q : List Int) (w : World) (h : OwnI w B a n cap p) (h' : OwnI w B' a' n' cap' q)
    (H : MakesIB R w (pFindC p q) (pSameType p q && decide (p.length ≤ 7))) : Calls Try.prog 9 #[.slice a n cap, .slice a' n' cap'] w R := by
  have H' := Hd.i H; clear H
  have hln := Hd.i h.length
  have hln' := Hd.i h'.length
  by_cases hs : pSameType p q = true
  · have hs' := of_decide_eq_true hs
    have hp := Hd.i hs'.1
    have hlq := Hd.i (same_len hs'.1 hs'.2.1 hs'.2.2)
    have hnn : n' = n := by have := hln.o; have := hln'.o; have := hlq.o; omega
    subst hnn
    by_cases hn : n' ≤ 7
    · have e1 := Hd.i (show pFindC p q = extC p q [] by unfold pFindC; rw [if_pos ⟨hs, by have := hln.o; omega⟩])
      have e2 := Hd.i (show (pSameType p q && decide (p.length ≤ 7)) = true by rw [hs, decide_eq_true (by have := hln.o; omega)]; rfl)
      have hpre : Hd (PreP n' []) := ⟨List.nodup_nil, by simp, by simp⟩
      replace hs := Hd.i hs
      clear hs'
      have ht : decide ((n' : Int) > 7) = false := decide_eq_false (by omega)
      go_enter Try.func9, Try.ntmps9
      go_wp2_with (first | (go_at_call 17; refine topSpecSameCycleType _ _ _ p _ _ _ q _ h h' ?_; intro w1 hb1; rw [hs.o]; have hs1 := hb1.size) | (go_at_call 37; refine ext_c n' _ _ _ p _ _ _ q _ _ _ [] _ (h.up (hb1.alloc hs1 _)) (h'.up (hb1.alloc hs1 _)) (OwnI.emptyLit _ hs1) (hb1.alloc hs1 _).size hp hn hpre (by (show _ = _; omega)) ?_; intro b5 m5 c5 w5 hb5 ho5))
      have hf := H'.o _ _ _ _ (below_ups (hb1.alloc hs1 _) hb5 (hb1.alloc hs1 _).size) (by rw [e1.o]; exact ho5)
      rw [e2.o] at hf
      exact hf
    · have e1 := Hd.i (show pFindC p q = [] by unfold pFindC; rw [if_neg (by have := hln.o; omega)])
      have e2 := Hd.i (show (pSameType p q && decide (p.length ≤ 7)) = false by rw [decide_eq_false (by have := hln.o; omega)]; simp)
      replace hs := Hd.i hs
      clear hs'
      have ht : decide ((n' : Int) > 7) = true := decide_eq_true (by omega)
      go_enter Try.func9, Try.ntmps9
      go_wp2_with (first | (go_at_call 17; refine topSpecSameCycleType _ _ _ p _ _ _ q _ h h' ?_; intro w1 hb1; rw [hs.o]; have hs1 := hb1.size))
      have hf := H'.o _ _ _ _ (hb1.alloc hs1 _) (by rw [e1.o]; exact OwnI.emptyLit _ hs1)
      rw [e2.o] at hf
      exact hf
  · have hs0 := Hd.i (show pSameType p q = false by simpa using hs)
    have e1 := Hd.i (show pFindC p q = [] by unfold pFindC; rw [if_neg (fun h => hs h.1)])
    have e2 := Hd.i (show (pSameType p q && decide (p.length ≤ 7)) = false by rw [hs0.o]; rfl)
    clear hs
    go_enter Try.func9, Try.ntmps9
    go_wp2_with (first | (go_at_call 17; refine topSpecSameCycleType _ _ _ p _ _ _ q _ h h' ?_; intro w1 hb1; rw [hs0.o]; have hs1 := hb1.size))
    have hf := H'.o _ _ _ _ (hb1.alloc hs1 _) (by rw [e1.o]; exact OwnI.emptyLit _ hs1)
    rw [e2.o] at hf
    exact hf
end Go.Proofs.Ytkojonjcikgikaa
