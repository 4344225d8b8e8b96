/- ParseImages: what it answers; the reference's. -/
import Derived.Test.YtkojonjcikgikaaDoorParseS
namespace Go.Proofs.YtkojonjcikgikaaDoor
open Go.RowKit

theorem wsplit_len {c : UInt8} : ∀ (l : List UInt8), (wsplit c l).length ≤ l.length + 1 ∧ ∀ x ∈ wsplit c l, x.length ≤ l.length
  | [] => by simp [wsplit]
  | y :: t => by
    obtain ⟨h1, h2⟩ := wsplit_len (c := c) t
    rw [wsplit]
    split
    · refine ⟨by simp; omega, fun x hx => ?_⟩
      rcases List.mem_cons.1 hx with rfl | hx
      · simp
      · have := h2 x hx; simp; omega
    · cases hw : wsplit c t with
      | nil => simp
      | cons h r =>
        rw [hw] at h1 h2
        refine ⟨by simp at h1 ⊢; omega, fun x hx => ?_⟩
        rcases List.mem_cons.1 hx with rfl | hx
        · have := h2 h List.mem_cons_self; simp; omega
        · have := h2 x (List.mem_cons_of_mem _ hx); simp; omega
/-- The text is that of the permutation p. -/
def PI (l : List UInt8) (p : List Int) : Prop := l.length ≤ 200 ∧ IsPerm p ∧ wsplit 32 l = p.map dig
theorem PI.vals {l : List UInt8} {p : List Int} (h : PI l p) : (wsplit 32 l).map (valD 0) = p := by
  rw [h.2.2, List.map_map]
  conv => rhs; rw [← List.map_id p]
  refine List.map_congr_left fun x hx => ?_
  have := h.2.1.small x hx
  exact (num_dig this.1 this.2).2
theorem PI.num {l : List UInt8} {p : List Int} (h : PI l p) : ∀ y ∈ wsplit 32 l, numOk y := by
  intro y hy
  rw [h.2.2, List.mem_map] at hy
  obtain ⟨x, hx, rfl⟩ := hy
  have := h.2.1.small x hx
  exact (num_dig this.1 this.2).1
open Classical in
noncomputable def pPIok (l : List UInt8) : Bool := decide (∃ p, PI l p)
open Classical in
noncomputable def pPI (l : List UInt8) : List Int := if ∃ p, PI l p then (wsplit 32 l).map (valD 0) else []
open Classical in
theorem pPI_yes {l : List UInt8} (hl : l.length ≤ 200) (hn : ∀ y ∈ wsplit 32 l, numOk y) (hp : IsPerm ((wsplit 32 l).map (valD 0))) : pPI l = (wsplit 32 l).map (valD 0) ∧ pPIok l = true := by
  have h : ∃ p, PI l p := by
    refine ⟨_, hl, hp, ?_⟩
    rw [List.map_map]
    conv => lhs; rw [← List.map_id (wsplit 32 l)]
    refine List.map_congr_left fun y hy => ?_
    have := hp.small (valD 0 y) (List.mem_map.2 ⟨y, hy, rfl⟩)
    exact dig_num (hn y hy) rfl this.2
  exact ⟨by unfold pPI; rw [if_pos h], by unfold pPIok; exact decide_eq_true h⟩
open Classical in
theorem pPI_no {l : List UInt8} (h : ¬ ∃ p, PI l p) : pPI l = [] ∧ pPIok l = false := ⟨by unfold pPI; rw [if_neg h], by unfold pPIok; exact decide_eq_false h⟩

set_option maxHeartbeats 1000000 in
set_option maxRecDepth 100000 in
theorem specParseI_c {R : Ending → World → Prop} (l : List UInt8) (w : World) (H : MakesIB R w (pPI l) (pPIok l)) :
    Calls Tryd.prog 7 #[.string (S l)] w R := by
  have H' := Hd.i H; clear H
  have bad : Hd (¬ (∃ p, PI l p)) → Hd (∀ a n cap w', Below w.heap.size w w' → OwnI w' w.heap.size a n cap [] → R (.returned (.tuple #[.slice a n cap, .bool false])) w') := by
    intro h a n cap w' hb ho
    obtain ⟨e1, e2⟩ := pPI_no h.o
    have := H'.o a n cap w' hb (by rw [e1]; exact ho)
    rw [e2] at this
    exact this
  replace bad := Hd.i bad
  have hz := S_size l
  obtain ⟨n, hln⟩ : ∃ n, n = l.length := ⟨_, rfl⟩
  rw [← hln] at hz
  replace hln := Hd.i hln
  by_cases h200 : n ≤ 200
  · have hl := Hd.i (show l.length ≤ 200 by have := hln.o; omega)
    have hwl := Hd.i (wsplit_len (c := 32) l)
    go_enter Tryd.func7, Tryd.ntmps7
    go_wp2_with (first | (go_at_call 19; refine splitText_c l _ hl.o ?_; intro a1 n1 c1 w1 hb1 ho1))
    have hn1 := Hd.i (show (wsplit 32 l).length = n1 by have := ho1.length; simpa [strs] using this)
    have hn201 : n1 ≤ 201 := by have := hwl.o.1; have := hn1.o; have := hl.o; omega
    have hs1 := hb1.size
    have hv := ho1.vals
    go_loopw [5, 6] (fun v i wr => ∃ (k : Nat) (c : Option Addr) (m capc : Nat), k ≤ n1 ∧ i = .int .i64 k ∧ v = .slice c m capc ∧ OwnI wr w1.heap.size c m capc (((wsplit 32 l).take k).map (valD 0)) ∧ Hd (∀ y ∈ (wsplit 32 l).take k, numOk y) ∧ Below w1.heap.size w1 wr) (fun _ i _ => n1 - (intOf i).toNat)
    case atStart => exact ⟨0, _, 0, 0, Nat.zero_le _, rfl, rfl, OwnI.emptyLit _ (Nat.le_refl _), by simp [Hd], (Below.refl _ _).alloc (Nat.le_refl _) _⟩
    case round =>
      obtain ⟨k, c, m, capc, hk, rfl, rfl, ho, hnum, hb⟩ := hrel
      have hsz := hb.size
      by_cases hlt : k < n1
      · obtain ⟨b, off, v, rfl, hbl, hcell, hvk⟩ := (hv.up hb).at hlt
        have hvk' := hvk.o
        rw [strs, List.getElem?_map, Option.map_eq_some_iff] at hvk'
        obtain ⟨y, hy, rfl⟩ := hvk'
        have hyl := Hd.i (Nat.le_trans (hwl.o.2 y (List.mem_of_getElem? hy)) hl.o)
        have hmem := Hd.i (List.mem_of_getElem? hy)
        have etk := Hd.i (take_succ_some hy)
        clear hvk
        replace hy := Hd.i hy
        by_cases hok : numOk y
        · have hvr := valD_lt _ y rfl hok.2.2
          have hvb : valD 0 y < 1000000000 := by
            have h6 : (10 : Int) ^ y.length ≤ 10 ^ 9 := by
              have : (10 : Nat) ^ y.length ≤ 10 ^ 9 := Nat.pow_le_pow_right (by omega) hok.1.2
              exact_mod_cast this
            omega
          have hv0 := hvr.1
          have hmk : m ≤ k := by have := ho.length; rw [List.length_map, List.length_take] at this; omega
          have c1' : (m + 1) * 8 ≤ 140737488355328 := by omega
          have c2' : m + 1 ≤ 281474976710656 := by omega
          have hdec := Hd.i (decide_eq_true hok)
          have hif := Hd.i (show (if numOk y then valD 0 y else 0) = valD 0 y from if_pos hok)
          have hnum' : Hd (∀ z ∈ (wsplit 32 l).take (k + 1), numOk z) := by
            intro z hz
            rw [etk.o, List.mem_append] at hz
            rcases hz with hz | hz
            · exact hnum.o z hz
            · rw [List.mem_singleton] at hz; rw [hz]; exact hok
          clear hok hvr
          go_wp2_with (first | (go_at_call 20; refine parseInt_c y _ hyl.o ?_; rw [hdec.o, hif.o]) | (at_builtin; refine appendL_c rfl _ _ _ rfl w1.heap.size 2 (.int .i64 0) 8 Tryd.underlying22 infoInt rfl _ _ _ _ rfl ho.1 [.int .i64 (valD 0 y)] 1 rfl rfl oneInt c1' c2' hsz ?_; intro a2 n2 cap2 w2 hn2 ho2 hg2 ha2))
          refine ⟨⟨k + 1, a2, n2, cap2, by omega, by go_num, rfl, ?_, hnum', ho.grewBelow hg2 hb hsz⟩, by simp [intOf]; omega⟩
          rw [etk.o, List.map_append]
          exact OwnI.snoc ho2 ho.2 (by omega) (by omega)
        · have hdec := Hd.i (decide_eq_false hok)
          have hif := Hd.i (show (if numOk y then valD 0 y else 0) = 0 from if_neg hok)
          have hno : Hd (¬ ∃ p, PI l p) := fun ⟨p, hp⟩ => hok (hp.num y hmem.o)
          clear hok
          go_wp2_with (first | (go_at_call 20; refine parseInt_c y _ hyl.o ?_; rw [hdec.o, hif.o]))
          exact (bad.o hno).o _ _ _ _ (below_ups hb1 (hb.alloc hsz _) hs1) (OwnI.emptyLit _ (by omega))
      · obtain rfl : k = n1 := by omega
        rw [List.take_of_length_le (by have := hn1.o; omega)] at ho hnum
        by_cases hp : IsPerm ((wsplit 32 l).map (valD 0))
        · have hdec := Hd.i (decide_eq_true hp)
          have hyes := Hd.i (pPI_yes hl.o hnum.o hp)
          clear hp
          go_wp2_with (first | (go_at_call 21; refine specIsPerm_c _ _ _ _ _ ho.ints ho.cap ?_; intro w3 hd3; rw [hdec.o]))
          have hf := H'.o _ _ _ _ (below_ups hb1 (hd3.up hb) hs1) (by rw [hyes.o.1]; exact (hd3.ownI ho).mono hs1)
          rw [hyes.o.2] at hf
          exact hf
        · have hdec := Hd.i (decide_eq_false hp)
          have hno : Hd (¬ ∃ p, PI l p) := fun ⟨p, hpp⟩ => hp (by rw [hpp.vals]; exact hpp.2.1)
          clear hp
          go_wp2_with (first | (go_at_call 21; refine specIsPerm_c _ _ _ _ _ ho.ints ho.cap ?_; intro w3 hd3; rw [hdec.o]))
          have hb3 := hd3.up hb
          exact (bad.o hno).o _ _ _ _ (below_ups hb1 (hb3.alloc hb3.size _) hs1) (OwnI.emptyLit _ (by have := hb3.size; omega))
  · have hno : Hd (¬ ∃ p, PI l p) := fun ⟨p, hp⟩ => by have := hp.1; have := hln.o; omega
    go_enter Tryd.func7, Tryd.ntmps7
    go_wp2
    exact (bad.o hno).o _ _ _ _ ((Below.refl _ _).alloc (Nat.le_refl _) _) (OwnI.emptyLit _ (Nat.le_refl _))
end Go.Proofs.YtkojonjcikgikaaDoor
