/- identity, compose, inverse: the program's and the reference's. -/
import Derived.Test.YtpijnjhheikmcaaPerm
import Derived.Test.YtpijnjhheikmcaaApp
namespace Go.Proofs.Ytpijnjhheikmcaa
open Go.RowKit

set_option maxHeartbeats 400000 in
theorem specIdentity_c {R : Ending → World → Prop} (n : Nat) (w : World) (hn : n ≤ 1000000) (H : MakesI R w (idl n)) :
    Calls Try.prog 90 #[.int .i64 n] w R := by
  have H' := Hd.i H; clear H
  go_enter Try.func90, Try.ntmps90
  go_wp2
  go_loopw [3, 4] (fun v i wr => ∃ (k : Nat) (a : Option Addr) (n' cap' : Nat), k ≤ n ∧ i = .int .i64 k ∧ v = .slice a n' cap' ∧ OwnI wr w.heap.size a n' cap' (idl k) ∧ Below w.heap.size w wr)
    (fun _ i _ => n - (intOf i).toNat)
  case atStart => exact ⟨0, _, 0, 0, Nat.zero_le _, rfl, rfl, ⟨Own.lit w [] _ (by simp) (Nat.le_refl _), by simp [idl]⟩, (Below.refl _ _).alloc (Nat.le_refl _) _⟩
  case round =>
    obtain ⟨k, a, n', cap', hk, rfl, rfl, ho, hb⟩ := hrel
    by_cases hlt : k < n
    · have hl := Hd.i ho.length
      have hs := hb.size
      have c1 : (n' + 1) * 8 ≤ 140737488355328 := by have := hl.o; rw [idl_length] at this; omega
      have c2 : n' + 1 ≤ 281474976710656 := by omega
      go_wp2_with (at_builtin; refine appendL_c rfl _ _ _ rfl w.heap.size 2 (.int .i64 0) 8 Try.underlying23 infoInt rfl _ _ _ _ rfl ho.1 [.int .i64 k] 1 rfl rfl oneInt c1 c2 hs ?_; intro a2 n2 cap2 w2 hn2 ho2 hg2 ha2)
      refine ⟨⟨k + 1, a2, n2, cap2, by omega, by go_num, rfl, ?_, ho.grewBelow hg2 hb hs⟩, by simp [intOf]; omega⟩
      rw [idl_succ]
      exact OwnI.snoc ho2 ho.2 (by omega) (by omega)
    · obtain rfl : k = n := by omega
      go_wp2
      exact H'.o _ _ _ _ hb ho

set_option maxHeartbeats 400000 in
theorem implIdentity_c {R : Ending → World → Prop} (n : Nat) (w : World) (hn : n ≤ 1000000) (H : MakesI R w (idl n)) :
    Calls Try.prog 88 #[.int .i64 n] w R := by
  have H' := Hd.i H; clear H
  obtain ⟨w1, hmk, hs1, hb1, how1⟩ := make_own w 23 2 (.int .i64 0) 8 Try.underlying23 infoInt rfl n (by omega) (by omega)
  go_enter Try.func88, Try.ntmps88
  go_wp2
  go_loopw [9] (fun i wr => ∃ k : Nat, k ≤ n ∧ i = .int .i64 k ∧ Own wr w.heap.size 2 (some ⟨w.heap.size, 0, none⟩) n n ((idl k ++ List.replicate (n - k) 0).map (Value.int .i64)) ∧ Below w.heap.size w wr)
    (fun i _ => n - (intOf i).toNat)
  case atStart => exact ⟨0, Nat.zero_le _, rfl, by simpa [idl] using how1, hb1⟩
  case round =>
    obtain ⟨k, hk, rfl, how, hbel⟩ := hrel
    by_cases hlt : k < n
    · obtain ⟨v, hc2, hf2, _⟩ := how.at' hlt
      have hst := how.store (k := k) (.int .i64 k)
      have hbel' := hbel.setCell (p := ⟨w.heap.size, k, none⟩) (Nat.le_refl _) (.int .i64 k)
      go_wp2
      refine ⟨⟨k + 1, by omega, by go_num, ?_, hbel'⟩, by simp [intOf]; omega⟩
      rw [← List.map_set, List.set_append, if_neg (by rw [idl_length]; omega), idl_length, Nat.sub_self, show n - k = (n - (k + 1)) + 1 by omega, List.replicate_succ] at hst
      rw [idl_succ, List.append_assoc]
      exact hst
    · obtain rfl : k = n := by omega
      go_wp2
      refine H'.o _ _ _ _ hbel ⟨by simpa using how, fun x hx => ?_⟩
      have := mem_idl.1 hx
      omega

set_option maxHeartbeats 400000 in
theorem implCompose_c {R : Ending → World → Prop} (a : Option Addr) (n cap : Nat) (p : List Int) (a' : Option Addr) (n' cap' : Nat) (q : List Int) (w : World) (hp : Ints w a n p) (hq : Ints w a' n' q)
    (hn : n ≤ 1000000) (hr : Hd (∀ x ∈ p, 0 ≤ x ∧ x < n')) (H : MakesI R w (comp p q)) :
    Calls Try.prog 61 #[.slice a n cap, .slice a' n' cap'] w R := by
  have H' := Hd.i H; clear H
  obtain ⟨w1, hmk, hs1, hb1, how1⟩ := make_own w 23 2 (.int .i64 0) 8 Try.underlying23 infoInt rfl n (by omega) (by omega)
  go_enter Try.func61, Try.ntmps61
  go_wp2
  go_loopw [13] (fun i wr => ∃ k : Nat, k ≤ n ∧ i = .int .i64 k ∧ Own wr w.heap.size 2 (some ⟨w.heap.size, 0, none⟩) n n ((comp (p.take k) q ++ List.replicate (n - k) 0).map (Value.int .i64)) ∧ Below w.heap.size w wr)
    (fun i _ => n - (intOf i).toNat)
  case atStart => exact ⟨0, Nat.zero_le _, rfl, by simpa [comp] using how1, hb1⟩
  case round =>
    obtain ⟨k, hk, rfl, how, hbel⟩ := hrel
    by_cases hlt : k < n
    · obtain ⟨b, off, x, rfl, hb, hcell, hx, hx1, hx2⟩ := (hp.up hbel).at hlt
      have hxr := hr.o x (List.mem_of_getElem? hx.o)
      obtain ⟨b', off', y, rfl, hb', hcell', hy, hy1, hy2⟩ := (hq.up hbel).at (k := x.toNat) (by omega)
      obtain ⟨v, hc2, hf2, _⟩ := how.at' hlt
      have hst := how.store (k := k) (.int .i64 y)
      have hbel' := hbel.setCell (p := ⟨w.heap.size, k, none⟩) (Nat.le_refl _) (.int .i64 y)
      go_wp2
      refine ⟨⟨k + 1, by omega, by go_num, ?_, hbel'⟩, by simp [intOf]; omega⟩
      have hl : (comp (p.take k) q).length = k := by rw [comp_length, List.length_take]; have := hp.length; omega
      rw [← List.map_set, List.set_append, if_neg (by omega), hl, Nat.sub_self, show n - k = (n - (k + 1)) + 1 by omega, List.replicate_succ] at hst
      rw [comp_take_succ hx.o hy.o, List.append_assoc]
      exact hst
    · obtain rfl : k = n := by omega
      go_wp2
      rw [List.take_of_length_le (by have := hp.length; omega)] at how
      refine H'.o _ _ _ _ hbel ⟨by simpa using how, fun z hz => ?_⟩
      simp only [comp, List.mem_map] at hz
      obtain ⟨x, hx, rfl⟩ := hz
      have hxr := hr.o x hx
      have hl := hq.length
      exact hq.2 _ (by simp [at0, List.getElem?_eq_getElem (show x.toNat < q.length by omega)])

set_option maxHeartbeats 400000 in
theorem specCompose_c {R : Ending → World → Prop} (a : Option Addr) (n cap : Nat) (p : List Int) (a' : Option Addr) (n' cap' : Nat) (q : List Int) (w : World) (hp : Ints w a n p) (hq : Ints w a' n' q)
    (hn : n ≤ 1000000) (hr : Hd (∀ x ∈ p, 0 ≤ x ∧ x < n')) (H : MakesI R w (comp p q)) :
    Calls Try.prog 58 #[.slice a n cap, .slice a' n' cap'] w R := by
  have H' := Hd.i H; clear H
  go_enter Try.func58, Try.ntmps58
  go_wp2
  go_loopw [5, 6] (fun v i wr => ∃ (k : Nat) (c : Option Addr) (m capc : Nat), k ≤ n ∧ i = .int .i64 k ∧ v = .slice c m capc ∧ OwnI wr w.heap.size c m capc (comp (p.take k) q) ∧ Below w.heap.size w wr)
    (fun _ i _ => n - (intOf i).toNat)
  case atStart => exact ⟨0, _, 0, 0, Nat.zero_le _, rfl, rfl, ⟨Own.lit w [] _ (by simp) (Nat.le_refl _), by simp [comp]⟩, (Below.refl _ _).alloc (Nat.le_refl _) _⟩
  case round =>
    obtain ⟨k, c, m, capc, hk, rfl, rfl, ho, hbel⟩ := hrel
    by_cases hlt : k < n
    · obtain ⟨b, off, x, rfl, hb, hcell, hx, hx1, hx2⟩ := (hp.up hbel).at hlt
      have hxr := hr.o x (List.mem_of_getElem? hx.o)
      obtain ⟨b', off', y, rfl, hb', hcell', hy, hy1, hy2⟩ := (hq.up hbel).at (k := x.toNat) (by omega)
      have hs := hbel.size
      have c1 : (m + 1) * 8 ≤ 140737488355328 := by have := ho.length; rw [comp_length, List.length_take] at this; omega
      have c2 : m + 1 ≤ 281474976710656 := by omega
      go_wp2_with (at_builtin; refine appendL_c rfl _ _ _ rfl w.heap.size 2 (.int .i64 0) 8 Try.underlying23 infoInt rfl _ _ _ _ rfl ho.1 [.int .i64 y] 1 rfl rfl oneInt c1 c2 hs ?_; intro a2 n2 cap2 w2 hn2 ho2 hg2 ha2)
      refine ⟨⟨k + 1, a2, n2, cap2, by omega, by go_num, rfl, ?_, ho.grewBelow hg2 hbel hs⟩, by simp [intOf]; omega⟩
      rw [comp_take_succ hx.o hy.o]
      exact OwnI.snoc ho2 ho.2 hy1 hy2
    · obtain rfl : k = n := by omega
      go_wp2
      rw [List.take_of_length_le (by have := hp.length; omega)] at ho
      exact H'.o _ _ _ _ hbel ho

set_option maxHeartbeats 400000 in
theorem implInverse_c {R : Ending → World → Prop} (a : Option Addr) (n cap : Nat) (p : List Int) (w : World) (hp : Ints w a n p) (hperm : IsPerm p) (H : MakesI R w (inv p)) :
    Calls Try.prog 62 #[.slice a n cap] w R := by
  have H' := Hd.i H; clear H
  have hpm := Hd.i hperm; clear hperm
  have hn : n ≤ 20 := by have := hpm.o.2.1; have := hp.length; omega
  obtain ⟨w1, hmk, hs1, hb1, how1⟩ := make_own w 23 2 (.int .i64 0) 8 Try.underlying23 infoInt rfl n (by omega) (by omega)
  go_enter Try.func62, Try.ntmps62
  go_wp2
  go_loopw [11] (fun i wr => ∃ (k : Nat) (out : List Int), k ≤ n ∧ i = .int .i64 k ∧ Own wr w.heap.size 2 (some ⟨w.heap.size, 0, none⟩) n n (out.map (Value.int .i64)) ∧ Below w.heap.size w wr ∧ Hd (InvTo p out k))
    (fun i _ => n - (intOf i).toNat)
  case atStart => exact ⟨0, List.replicate n 0, Nat.zero_le _, rfl, by simpa using how1, hb1, invTo_zero p n hp.length.symm⟩
  case round =>
    obtain ⟨k, out, hk, rfl, how, hbel, hinv⟩ := hrel
    by_cases hlt : k < n
    · obtain ⟨b, off, x, rfl, hb, hcell, hx, hx1, hx2⟩ := (hp.up hbel).at hlt
      have hxr : 0 ≤ x ∧ x < (n : Int) := by have := hpm.o.lt hx.o; have := hp.length; omega
      obtain ⟨v, hc2, hf2, _⟩ := how.at' (k := x.toNat) (by omega)
      have hst := how.store (k := x.toNat) (.int .i64 k)
      have hbel' := hbel.setCell (p := ⟨w.heap.size, x.toNat, none⟩) (Nat.le_refl _) (.int .i64 k)
      go_wp2
      refine ⟨⟨k + 1, out.set x.toNat k, by omega, by go_num, ?_, hbel', invTo_succ hpm.o hinv.o hx.o⟩, by simp [intOf]; omega⟩
      rw [← List.map_set] at hst
      exact hst
    · obtain rfl : k = n := by omega
      go_wp2
      have e := invTo_full hpm.o hp.length.symm hinv.o
      refine H'.o _ _ _ _ hbel ⟨e ▸ how, fun y hy => ?_⟩
      rw [← e] at hy
      have := hinv.o.2.1 y hy
      omega

set_option maxHeartbeats 400000 in
theorem specInverse_c {R : Ending → World → Prop} (a : Option Addr) (n cap : Nat) (p : List Int) (w : World) (hp : Ints w a n p) (hperm : IsPerm p) (H : MakesI R w (inv p)) :
    Calls Try.prog 59 #[.slice a n cap] w R := by
  have H' := Hd.i H; clear H
  have hpm := Hd.i hperm; clear hperm
  have hn : n ≤ 20 := by have := hpm.o.2.1; have := hp.length; omega
  obtain ⟨w1, hmk, hs1, hb1, how1⟩ := make_own w 23 2 (.int .i64 0) 8 Try.underlying23 infoInt rfl n (by omega) (by omega)
  go_enter Try.func59, Try.ntmps59
  go_wp2
  go_loopw [4] (fun i wr => ∃ (k : Nat) (out : List Int), k ≤ n ∧ i = .int .i64 k ∧ Own wr w.heap.size 2 (some ⟨w.heap.size, 0, none⟩) n n (out.map (Value.int .i64)) ∧ Below w.heap.size w wr ∧ Hd (InvTo p out k))
    (fun i _ => n - (intOf i).toNat)
  case atStart => exact ⟨0, List.replicate n 0, Nat.zero_le _, rfl, by simpa using how1, hb1, invTo_zero p n hp.length.symm⟩
  case round =>
    obtain ⟨k, out, hk, rfl, how, hbel, hinv⟩ := hrel
    by_cases hlt : k < n
    · obtain ⟨b, off, x, rfl, hb, hcell, hx, hx1, hx2⟩ := (hp.up hbel).at hlt
      have hxr : 0 ≤ x ∧ x < (n : Int) := by have := hpm.o.lt hx.o; have := hp.length; omega
      obtain ⟨v, hc2, hf2, _⟩ := how.at' (k := x.toNat) (by omega)
      have hst := how.store (k := x.toNat) (.int .i64 k)
      have hbel' := hbel.setCell (p := ⟨w.heap.size, x.toNat, none⟩) (Nat.le_refl _) (.int .i64 k)
      go_wp2
      refine ⟨⟨k + 1, out.set x.toNat k, by omega, by go_num, ?_, hbel', invTo_succ hpm.o hinv.o hx.o⟩, by simp [intOf]; omega⟩
      rw [← List.map_set] at hst
      exact hst
    · obtain rfl : k = n := by omega
      go_wp2
      have e := invTo_full hpm.o hp.length.symm hinv.o
      refine H'.o _ _ _ _ hbel ⟨e ▸ how, fun y hy => ?_⟩
      rw [← e] at hy
      have := hinv.o.2.1 y hy
      omega
end Go.Proofs.Ytpijnjhheikmcaa
