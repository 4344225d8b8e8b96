/- StabilizerOrder: moveToFront. -/
import Derived.Test.YtpijnjhheikmcaaStab
import Derived.Test.YtpijnjhheikmcaaOrbitS
namespace Go.Proofs.Ytpijnjhheikmcaa
open Go.RowKit

set_option maxHeartbeats 2000000 in
theorem specFront_c {K : Ending → World → Prop} (d : Nat) (a : Option Addr) (n cap : Nat) (ps : List Int) (w : World) (h2 : d ≤ 20) (hn : n ≤ 20) (hp : Ints w a n ps) (H : MakesI K w (front d ps)) :
    Calls Try.prog 76 #[.int .i64 d, .slice a n cap] w K := by
  have H' := Hd.i H; clear H
  have hln := Hd.i hp.length
  go_enter Try.func76, Try.ntmps76
  go_wp2_with fail
  refine copyInts_c _ _ _ ps _ hp (by omega) ?_
  intro g m1 c1 w1 hb1 ho1
  go_wp2
  go_loopw [5, 6] (fun v iv wr => ∃ (k : Nat) (c : Option Addr) (m capc : Nat), k ≤ d ∧ iv = .int .i64 k ∧ v = .slice c m capc ∧ OwnI wr w.heap.size c m capc (ps ++ restTo ps k) ∧ Below w.heap.size w wr) (fun _ iv _ => d - (intOf iv).toNat)
  case atStart => exact ⟨0, _, m1, c1, Nat.zero_le _, rfl, rfl, by simpa [restTo, idl] using ho1, hb1⟩
  case round =>
    clear ho1 hb1
    obtain ⟨k, c, m, capc, hk, rfl, rfl, ho, hb⟩ := hrel
    by_cases hlt : k < d
    · have hpr := hp.up hb
      have hm40 : m ≤ 40 := by
        have h1 := ho.length
        rw [List.length_append] at h1
        have h3 := restTo_le ps k
        have h4 := hln.o
        omega
      by_cases hmem : (k : Int) ∈ ps
      · have hdec := Hd.i (show ps.contains (k : Int) = true by simpa using hmem)
        have el := Hd.i (restTo_in hmem)
        replace hmem := Hd.i hmem
        go_wp2_with fail
        refine containsInt_c _ _ _ ps (k : Int) _ hpr ?_
        rw [hdec.o]
        go_wp2
        exact ⟨⟨k + 1, c, m, capc, by omega, by go_num, rfl, by rw [el.o]; exact ho, hb⟩, by simp [intOf]; omega⟩
      · have hdec := Hd.i (show ps.contains (k : Int) = false by simpa using hmem)
        have el := Hd.i (restTo_out hmem)
        replace hmem := Hd.i hmem
        have k1 : (m + 1) * 8 ≤ 140737488355328 := by omega
        have k2 : m + 1 ≤ 281474976710656 := by omega
        have hs := hb.size
        go_wp2_with fail
        refine containsInt_c _ _ _ ps (k : Int) _ hpr ?_
        rw [hdec.o]
        go_wp2_with (at_builtin; refine appendL_c rfl _ _ _ rfl w.heap.size 2 (.int .i64 0) 8 Try.underlying23 infoInt rfl _ _ _ _ rfl ho.1 [.int .i64 k] 1 rfl rfl oneInt k1 k2 hs ?_; intro a2 n2 cap2 w2 hn2 ho2 hg2 ha2)
        exact ⟨⟨k + 1, a2, n2, cap2, by omega, by go_num, rfl, by rw [el.o, ← List.append_assoc]; exact OwnI.snoc ho2 ho.2 (by omega) (by omega), ho.grewBelow hg2 hb hs⟩, by simp [intOf]; omega⟩
    · obtain rfl : k = d := by omega
      go_wp2
      exact H'.o _ _ _ _ hb ho
end Go.Proofs.Ytpijnjhheikmcaa
