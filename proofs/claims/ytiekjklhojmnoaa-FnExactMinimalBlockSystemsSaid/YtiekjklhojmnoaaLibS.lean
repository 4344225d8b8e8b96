/- slices.Repeat of one element, slices.Index, slices.Contains: at int64. -/
import Derived.Test.YtiekjklhojmnoaaPut
import Derived.Laws.CopyOwn
import Derived.Deep.RegionHeld3
namespace Go.Proofs.Ytiekjklhojmnoaa
open Go.RowKit

theorem Own.heapEq {w : World} {B E g n : Nat} {vs : List Value} (h : Own w B E (some ⟨g, 0, none⟩) n n vs) : w.heap[g]? = some (.cells vs.toArray E (0, 0)) := by
  rcases h.2.2.2 with ⟨h5, _⟩ | ⟨g', cap', cur, h5, _, h7, _, _, h10, h11⟩
  · simp at h5
  · simp only [Value.slice.injEq, Option.some.injEq, Addr.mk.injEq, and_true, true_and] at h5
    obtain ⟨rfl, rfl⟩ := h5
    rw [h7]
    have e : cur.toList = vs := by rw [← h11, List.take_of_length_le (by simp; omega)]
    rw [← e]
theorem Own.ofHeap {w : World} {B E g n : Nat} {vs : List Value} (hh : w.heap[g]? = some (.cells vs.toArray E (0, 0))) (hl : vs.length = n) (hn : n ≤ 281474976710656) (hB : B ≤ g) : Own w B E (some ⟨g, 0, none⟩) n n vs := by
  refine ⟨hl, hn, by omega, .inr ⟨g, n, vs.toArray, rfl, hB, hh, Nat.le_refl _, by rw [maxLen_eq]; omega, by simp; omega, ?_⟩⟩
  rw [List.take_of_length_le (by simp; omega)]

set_option maxHeartbeats 4000000 in
theorem bitsMul_c {K : Ending → World → Prop} (d : Nat) (w : World) (h1 : 1 ≤ d) (h2 : d ≤ 20) (H : K (.returned (.tuple #[.int .u64 0, .int .u64 d])) w) :
    Calls Try.prog 118 #[.int .u64 1, .int .u64 d] w K := by
  have H' := Hd.i H; clear H
  rcases (by omega : d = 1 ∨ d = 2 ∨ d = 3 ∨ d = 4 ∨ d = 5 ∨ d = 6 ∨ d = 7 ∨ d = 8 ∨ d = 9 ∨ d = 10 ∨ d = 11 ∨ d = 12 ∨ d = 13 ∨ d = 14 ∨ d = 15 ∨ d = 16 ∨ d = 17 ∨ d = 18 ∨ d = 19 ∨ d = 20) with rfl | rfl | rfl | rfl | rfl | rfl | rfl | rfl | rfl | rfl | rfl | rfl | rfl | rfl | rfl | rfl | rfl | rfl | rfl | rfl
  all_goals
    go_enter Try.func118, Try.ntmps118
    go_wp2
    exact H'.o

theorem splice_rep {k m d : Nat} {x z : Value} : splice (List.replicate k x ++ List.replicate (d - k) z) k (List.replicate m x) = List.replicate (k + m) x ++ List.replicate (d - (k + m)) z := by
  unfold splice
  have e1 : (List.replicate k x ++ List.replicate (d - k) z).take k = List.replicate k x := by rw [List.take_left' (by simp)]
  have e2 : (List.replicate k x ++ List.replicate (d - k) z).drop (k + (List.replicate m x).length) = List.replicate (d - (k + m)) z := by
    rw [List.drop_append, List.drop_of_length_le (by simp), List.nil_append, List.length_replicate, List.drop_replicate]
    congr 1
    simp
    omega
  rw [e1, e2, ← List.append_assoc, List.replicate_append_replicate]

set_option maxRecDepth 100000 in
set_option maxHeartbeats 4000000 in
theorem repeat_c {K : Ending → World → Prop} (d b off capx : Nat) (w : World) (h1 : 1 ≤ d) (h2 : d ≤ 20) (hx : Ints w (some ⟨b, off, none⟩) 1 [-1]) (H : MakesI K w (List.replicate d (-1))) :
    Calls Try.prog 107 #[.slice (some ⟨b, off, none⟩) 1 capx, .int .i64 d] w K := by
  have H' := Hd.i H; clear H
  obtain ⟨w1, hmk, hs1, hb1, how1⟩ := makeI w d (by omega)
  have hh1 : w1.heap[w.heap.size]? = some (.cells ((List.replicate 0 (Value.int .i64 (-1))) ++ List.replicate (d - 0) (Value.int .i64 0)).toArray 2 (0, 0)) := by
    have := how1.1.heapEq
    simpa using this
  obtain ⟨b', off', x, e, hbl, hcx, hxx, _, _⟩ := hx.at (k := 0) (by omega)
  cases e
  obtain rfl : x = -1 := by have := hxx.o; simp at this; exact this.symm
  have hc1 : w1.cell? ⟨b, off, none⟩ = some (.int .i64 (-1)) := by
    have := (hb1.cell (p := ⟨b, off + 0, none⟩) hbl).trans hcx
    simpa using this
  clear hcx hx
  have q1 : decide ((0 : Int) < d) = true := decide_eq_true (by omega)
  have q2 : ¬ ((d : Int) < 0) := by omega
  obtain ⟨cs1, hcs1⟩ : ∃ cs : List Value, cs = List.replicate 1 (Value.int .i64 (-1)) := ⟨_, rfl⟩
  have hcl1 : cs1.length = 1 := by rw [hcs1]; rfl
  have hsrc1 : ∀ j v, cs1[j]? = some v → w1.cell? ((⟨b, off, none⟩ : Addr).add j) = some v := fun j v e => by
    rw [hcs1] at e
    have := (List.getElem?_eq_some_iff.1 e).1
    have hj : j = 0 := by simp at this; exact this
    subst hj
    simp at e; subst e
    simpa [Addr.add] using hc1
  have hone1 : ∀ v ∈ cs1, v.oneCell' = true := fun v hv => by rw [hcs1] at hv; simp at hv; subst hv; rfl
  have hcp := run_copy_row (P := Try.prog) w1 23 23 3 2 w.heap.size 0 d d ⟨b, off, none⟩ 1 capx _ 2 cs1 Try.underlying23 (by kernel_rfl) hh1 (by rw [hcl1]; exact (Nat.min_eq_left h1).symm) hsrc1 (by rw [hcl1]; simp; omega) hone1
  have hg2 := setRow_heap w1 w.heap.size _ ((List.replicate 0 (Value.int .i64 (-1)) ++ List.replicate (d - 0) (Value.int .i64 0)).take 0 ++ cs1 ++ (List.replicate 0 (Value.int .i64 (-1)) ++ List.replicate (d - 0) (Value.int .i64 0)).drop (0 + cs1.length)).toArray 2 (0, 0) hh1
  have hb2 := below_setRow hb1 (Nat.le_refl _) ((List.replicate 0 (Value.int .i64 (-1)) ++ List.replicate (d - 0) (Value.int .i64 0)).take 0 ++ cs1 ++ (List.replicate 0 (Value.int .i64 (-1)) ++ List.replicate (d - 0) (Value.int .i64 0)).drop (0 + cs1.length)).toArray
  rw [List.append_assoc] at hg2 hb2
  simp only [List.append_assoc] at hcp
  generalize w1.setRow w.heap.size ((List.replicate 0 (Value.int .i64 (-1)) ++ List.replicate (d - 0) (Value.int .i64 0)).take 0 ++ (cs1 ++ (List.replicate 0 (Value.int .i64 (-1)) ++ List.replicate (d - 0) (Value.int .i64 0)).drop (0 + cs1.length))).toArray = w2 at hcp hg2 hb2
  rw [hcl1] at hcp
  replace hg2 := Hd.i hg2
  replace hcs1 := Hd.i hcs1
  replace hh1 := Hd.i hh1
  go_enter Try.func107, Try.ntmps107
  go_wp2_with (go_at_call 118; refine bitsMul_c d _ h1 h2 ?_)
  go_loopw [8] (fun nv wr => ∃ k : Nat, 1 ≤ k ∧ k ≤ d ∧ nv = .int .i64 k ∧ Hd (wr.heap[w.heap.size]? = some (.cells (List.replicate k (Value.int .i64 (-1)) ++ List.replicate (d - k) (Value.int .i64 0)).toArray 2 (0, 0))) ∧ Below w.heap.size w wr) (fun nv _ => d - (intOf nv).toNat)
  case atStart =>
    refine ⟨1, Nat.le_refl _, h1, rfl, ?_, hb2⟩
    have h := hg2.o
    rw [hcs1.o] at h
    have e := splice_rep (k := 0) (m := 1) (d := d) (x := Value.int .i64 (-1)) (z := Value.int .i64 0)
    unfold splice at e
    rw [e] at h
    exact Hd.i (by simpa using h)
  case round =>
    clear hcp hg2 hb2 hh1 hmk hb1 how1 hs1 hsrc1 hone1 hcl1 hcs1 hc1
    obtain ⟨k, hk1, hk, rfl, hh, hb⟩ := hrel
    by_cases hlt : k < d
    · obtain ⟨m, hm⟩ : ∃ m, m = Nat.min k (d - k) := ⟨_, rfl⟩
      have hm1 : 1 ≤ m := by rw [hm]; exact Nat.le_min.2 ⟨hk1, by omega⟩
      have hm2 : m ≤ k := by rw [hm]; exact Nat.min_le_left _ _
      have hm3 : k + m ≤ d := by have : m ≤ d - k := by rw [hm]; exact Nat.min_le_right _ _
                                 omega
      obtain ⟨cs, hcs⟩ : ∃ cs : List Value, cs = List.replicate m (Value.int .i64 (-1)) := ⟨_, rfl⟩
      have hcl : cs.length = m := by rw [hcs]; simp
      have hone : ∀ v ∈ cs, v.oneCell' = true := fun v hv => by rw [hcs, List.mem_replicate] at hv; rw [hv.2]; rfl
      have hsrc : ∀ j v, cs[j]? = some v → wr.drew.cell? ((⟨w.heap.size, 0, none⟩ : Addr).add j) = some v := fun j v e => by
        rw [hcs] at e
        have hj := (List.getElem?_eq_some_iff.1 e).1
        simp at hj
        rw [List.getElem?_replicate, if_pos hj] at e
        cases e
        rw [addr_add_lit, Nat.zero_add]
        show wr.cell? ⟨w.heap.size, j, none⟩ = _
        unfold World.cell?
        rw [hh.o]
        have hjk : j < k := by omega
        simp only
        rw [List.getElem?_toArray, List.getElem?_append_left (by simp; exact hjk), List.getElem?_replicate, if_pos hjk]
        rfl
      have hb3 : Below w.heap.size w wr.drew := hb.trans ((Drew.refl wr).one.below _)
      have i1 : (0 : Int) ≤ (k : Int) := by omega
      have i2 : (k : Int) < (d : Int) := by omega
      have i3 : ((d : Int) - (k : Int)).toNat = d - k := by omega
      have i4 : IntKind.i64.wrap ((k : Int) + (m : Int)) = (k : Int) + (m : Int) := IntWalk.i64_in _ (by omega)
      replace hcs := Hd.i hcs
      replace hm := Hd.i hm
      go_wp2
      go_region_held3 (fun _ => True) (trivial)
        ((refine step_copy_splice (by rfl) _ _ _ _ (by rfl) 2 Try.underlying23 (by kernel_rfl) _ _ _ _ _ _ (by rfl) (by rfl) w.heap.size k _ 2 hh.o cs (by rw [hcl, hm.o]) (fun _ => ⟨by first | rfl | (rw [if_neg (by omega)]), _, by rfl, hsrc⟩) (by simp; omega) hone w.heap.size w hb3 (Nat.le_refl _) ?_; intro w3 hg3 hb4))
      go_wp2
      refine ⟨⟨k + m, by omega, hm3, ?_, ?_, hb4⟩, by simp [intOf]; omega⟩
      · go_num
      · have h := hg3.out
        rw [hcs.o, splice_rep] at h
        exact h
    · obtain rfl : k = d := by omega
      go_wp2
      refine H'.o _ _ _ _ hb ⟨?_, fun y hy => by rw [List.mem_replicate] at hy; omega⟩
      refine Own.ofHeap ?_ (by simp) (by omega) (Nat.le_refl _)
      have h := hh.o
      rw [Nat.sub_self] at h
      simpa using h

/-- slices.Index: the sign of its answer. -/
theorem index_c {R : Ending → World → Prop} (a : Option Addr) (n cap : Nat) (xs : List Int) (x : Int) (w : World) (hx : Ints w a n xs)
    (H : ∀ r : Int, Hd (-1 ≤ r ∧ r ≤ 9223372036854775807 ∧ (0 ≤ r ↔ xs.contains x = true)) → R (.returned (.int .i64 r)) w) : Calls Try.prog 119 #[.slice a n cap, .int .i64 x] w R := by
  have H' := Hd.i H; clear H
  have hm := hx.le
  go_enter Try.func119, Try.ntmps119
  go_wp2
  go_loop [8] (fun i => ∃ k : Nat, k ≤ n ∧ i = .int .i64 k ∧ Hd ((xs.take k).contains x = false)) (fun i => n - (intOf i).toNat)
  case atStart => exact ⟨0, Nat.zero_le _, rfl, rfl⟩
  case round =>
    obtain ⟨k, hk, rfl, hc⟩ := hrel
    by_cases hlt : k < n
    · obtain ⟨b, off, y, rfl, hb, hcell, hy, hy1, hy2⟩ := hx.at hlt
      by_cases hxy : x = y
      · subst hxy
        go_wp2
        exact H'.o _ ⟨by omega, by omega, fun _ => by simpa using List.mem_of_getElem? hy.o, fun _ => by omega⟩
      · have hbe : (x == y) = false := by simpa using hxy
        have hnx : Hd ((xs.take (k + 1)).contains x = false) := by
          have := hc.o
          show (xs.take (k + 1)).contains x = false
          rw [take_succ_some hy.o]
          simp at this ⊢
          exact ⟨this, hxy⟩
        replace hxy := Hd.i hxy
        go_wp2
        exact ⟨⟨k + 1, by omega, by go_num, hnx⟩, by simp [intOf]; omega⟩
    · have hno : Hd (xs.contains x = false) := by
        have := hc.o
        rwa [List.take_of_length_le (by have := hx.length; omega)] at this
      go_wp2
      exact H'.o _ ⟨by omega, by omega, fun h => by omega, fun h => by rw [hno.o] at h; cases h⟩

theorem contains_c {R : Ending → World → Prop} (a : Option Addr) (n cap : Nat) (xs : List Int) (x : Int) (w : World) (hx : Ints w a n xs)
    (H : R (.returned (.bool (xs.contains x))) w) : Calls Try.prog 108 #[.slice a n cap, .int .i64 x] w R := by
  have H' := Hd.i H; clear H
  go_enter Try.func108, Try.ntmps108
  go_wp2_with fail
  refine index_c _ _ _ xs x _ hx ?_
  intro r hr
  have e : decide (0 ≤ r) = xs.contains x := by
    have := hr.o.2.2
    cases hc : xs.contains x with
    | true => exact decide_eq_true (this.2 hc)
    | false => exact decide_eq_false fun h => by rw [this.1 h] at hc; cases hc
  replace e := Hd.i e
  go_wp2
  exact retB H' e.o.symm
end Go.Proofs.Ytiekjklhojmnoaa
