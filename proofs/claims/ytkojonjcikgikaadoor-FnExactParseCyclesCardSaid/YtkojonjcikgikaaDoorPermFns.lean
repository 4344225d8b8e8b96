/- identity, compose, inverse: the program's and the reference's. -/
import Derived.Test.YtkojonjcikgikaaDoorPerm
import Derived.Test.YtkojonjcikgikaaDoorApp
namespace Go.Proofs.YtkojonjcikgikaaDoor
open Go.RowKit

set_option maxHeartbeats 400000 in
theorem specIdentity_c {R : Ending → World → Prop} (n : Nat) (w : World) (hn : n ≤ 1000000) (H : MakesI R w (idl n)) :
    Calls Tryd.prog 26 #[.int .i64 n] w R := by
  have H' := Hd.i H; clear H
  go_enter Tryd.func26, Tryd.ntmps26
  go_wp2
  go_loopw [3, 4] (fun v i wr => ∃ (k : Nat) (a : Option Addr) (n' cap' : Nat), k ≤ n ∧ i = .int .i64 k ∧ v = .slice a n' cap' ∧ OwnI wr w.heap.size a n' cap' (idl k) ∧ Below w.heap.size w wr)
    (fun _ i _ => n - (intOf i).toNat)
  case atStart => exact ⟨0, _, 0, 0, Nat.zero_le _, rfl, rfl, ⟨Own.lit w [] _ (by simp) (Nat.le_refl _), by simp [idl]⟩, (Below.refl _ _).alloc (Nat.le_refl _) _⟩
  case round =>
    obtain ⟨k, a, n', cap', hk, rfl, rfl, ho, hb⟩ := hrel
    by_cases hlt : k < n
    · have hl := Hd.i ho.length
      have hs := hb.size
      have c1 : (n' + 1) * 8 ≤ 140737488355328 := by have := hl.o; rw [idl_length] at this; omega
      have c2 : n' + 1 ≤ 281474976710656 := by omega
      go_wp2_with (at_builtin; refine appendL_c rfl _ _ _ rfl w.heap.size 2 (.int .i64 0) 8 Tryd.underlying22 infoInt rfl _ _ _ _ rfl ho.1 [.int .i64 k] 1 rfl rfl oneInt c1 c2 hs ?_; intro a2 n2 cap2 w2 hn2 ho2 hg2 ha2)
      refine ⟨⟨k + 1, a2, n2, cap2, by omega, by go_num, rfl, ?_, ho.grewBelow hg2 hb hs⟩, by simp [intOf]; omega⟩
      rw [idl_succ]
      exact OwnI.snoc ho2 ho.2 (by omega) (by omega)
    · obtain rfl : k = n := by omega
      go_wp2
      exact H'.o _ _ _ _ hb ho

set_option maxHeartbeats 400000 in
theorem implIdentity_c {R : Ending → World → Prop} (n : Nat) (w : World) (hn : n ≤ 1000000) (H : MakesI R w (idl n)) :
    Calls Tryd.prog 29 #[.int .i64 n] w R := by
  have H' := Hd.i H; clear H
  obtain ⟨w1, hmk, hs1, hb1, how1⟩ := make_own w 22 2 (.int .i64 0) 8 Tryd.underlying22 infoInt rfl n (by omega) (by omega)
  go_enter Tryd.func29, Tryd.ntmps29
  go_wp2
  go_loopw [9] (fun i wr => ∃ k : Nat, k ≤ n ∧ i = .int .i64 k ∧ Own wr w.heap.size 2 (some ⟨w.heap.size, 0, none⟩) n n ((idl k ++ List.replicate (n - k) 0).map (Value.int .i64)) ∧ Below w.heap.size w wr)
    (fun i _ => n - (intOf i).toNat)
  case atStart => exact ⟨0, Nat.zero_le _, rfl, by simpa [idl] using how1, hb1⟩
  case round =>
    obtain ⟨k, hk, rfl, how, hbel⟩ := hrel
    by_cases hlt : k < n
    · obtain ⟨v, hc2, hf2, _⟩ := how.at' hlt
      have hst := how.store (k := k) (.int .i64 k)
      have hbel' := hbel.setCell (p := ⟨w.heap.size, k, none⟩) (Nat.le_refl _) (.int .i64 k)
      go_wp2
      refine ⟨⟨k + 1, by omega, by go_num, ?_, hbel'⟩, by simp [intOf]; omega⟩
      rw [← List.map_set, List.set_append, if_neg (by rw [idl_length]; omega), idl_length, Nat.sub_self, show n - k = (n - (k + 1)) + 1 by omega, List.replicate_succ] at hst
      rw [idl_succ, List.append_assoc]
      exact hst
    · obtain rfl : k = n := by omega
      go_wp2
      refine H'.o _ _ _ _ hbel ⟨by simpa using how, fun x hx => ?_⟩
      have := mem_idl.1 hx
      omega

end Go.Proofs.YtkojonjcikgikaaDoor
