/- splitText of the reference. -/
import Derived.Test.YtkojonjcikgikaaDoorTextS
import Derived.Test.YtkojonjcikgikaaDoorPureParse
namespace Go.Proofs.YtkojonjcikgikaaDoor
open Go.RowKit

theorem S_extract (l : List UInt8) (a b : Nat) : (S l).extract a b = S ((l.take b).drop a) := by
  apply ByteArray.ext
  rw [ByteArray.data_extract]
  simp [S, List.drop_take]

set_option maxHeartbeats 1000000 in
set_option maxRecDepth 100000 in
theorem splitText_c {R : Ending → World → Prop} (l : List UInt8) (w : World) (hn : l.length ≤ 200)
    (H : ∀ a n cap w', Below w.heap.size w w' → Own w' w.heap.size 9 a n cap (strs (wsplit 32 l)) → R (.returned (.slice a n cap)) w') :
    Calls Tryd.prog 19 #[.string (S l), .int .u8 32] w R := by
  have H' := Hd.i H; clear H
  obtain ⟨n, hln⟩ : ∃ n, n = l.length := ⟨_, rfl⟩
  have hz : (S l).size = n := by rw [hln]; rfl
  have hn2 : n ≤ 200 := by omega
  replace hln := Hd.i hln
  go_enter Tryd.func19, Tryd.ntmps19
  go_wp2
  go_loopw [5, 6, 7] (fun v fv i wr => ∃ (k fr : Nat) (done : List (List UInt8)) (c : Option Addr) (m capc : Nat), k ≤ n + 1 ∧ fr ≤ k ∧ i = .int .i64 k ∧ fv = .int .i64 fr ∧ v = .slice c m capc ∧ Own wr w.heap.size 9 c m capc (strs done) ∧
      Hd (k ≤ n → wsplit 32 l = done ++ wsplit 32 (l.drop fr) ∧ 32 ∉ (l.take k).drop fr) ∧ Hd (k = n + 1 → done = wsplit 32 l) ∧ Hd (done.length ≤ k) ∧ Below w.heap.size w wr) (fun _ _ i _ => n + 1 - (intOf i).toNat)
  case atStart => exact ⟨0, 0, [], _, 0, 0, by omega, Nat.le_refl _, rfl, rfl, rfl, Own.lit w [] _ (by simp) (Nat.le_refl _), fun _ => ⟨by simp, by simp⟩, fun h => by omega, by simp [Hd], (Below.refl _ _).alloc (Nat.le_refl _) _⟩
  case round =>
    obtain ⟨k, fr, done, c, m, capc, hk, hfr, rfl, rfl, rfl, ho, h1, h2, h3, hb⟩ := hrel
    by_cases hle : k ≤ n
    · obtain ⟨e1, e2⟩ := h1.o hle
      replace e1 := Hd.i e1
      replace e2 := Hd.i e2
      have hm : m ≤ 201 := by have := ho.length; have := h3.o; simp [strs] at *; omega
      have c1 : (m + 1) * 16 ≤ 140737488355328 := by omega
      have c2 : m + 1 ≤ 281474976710656 := by omega
      have hs1 := hb.size
      clear h1 h2
      by_cases hkn : k = n
      · subst hkn
        go_wp2_with (first | (at_builtin; go_loud (refine appendL_c rfl _ _ _ rfl w.heap.size 9 (.string ⟨#[]⟩) 16 Tryd.underlying33 infoStr rfl _ _ _ _ rfl ho [.string ((S l).extract fr k)] 1 rfl rfl oneStr c1 c2 hs1 ?_; intro a2 n2 cap2 w2 hn2 ho2 hg2 ha2)))
        have hfin : done ++ [(l.take k).drop fr] = wsplit 32 l := by
          have e3 : l.take k = l := List.take_of_length_le (by have := hln.o; omega)
          rw [e1.o, ← wsplit_none e2.o, e3]
        refine ⟨⟨k + 1, k + 1, done ++ [(l.take k).drop fr], a2, n2, cap2, by omega, Nat.le_refl _, by go_num, by go_num, rfl, ?_, fun h => by omega, fun _ => hfin, ?_, hb.trans (hg2.below hs1 fun b off s e => (ho.lt e).1)⟩, by simp [intOf]⟩
        · rw [S_extract] at ho2
          simpa [strs] using ho2
        · show _ ≤ _
          have := h3.o
          rw [List.length_append]; simp; omega
      · obtain ⟨b, hb0⟩ : ∃ b, l[k]? = some b := ⟨l[k]'(by have := hln.o; omega), List.getElem?_eq_getElem (by have := hln.o; omega)⟩
        have hkl : k < n := by omega
        have hbyte : (S l)[k]'(by rw [hz]; exact hkl) = b := by
          have := (List.getElem?_eq_some_iff.1 hb0).2
          rw [← this]; rfl
        have hk1 : ((k : Int) == (n : Int)) = false := by rw [beq_eq_false_iff_ne]; omega
        have etk : l.take (k + 1) = l.take k ++ [b] := take_succ_some hb0
        have hlk : (l.take k).length = k := by rw [List.length_take]; have := hln.o; omega
        by_cases h32 : b = 32
        · have hb2 : ((b.toNat : Int) == 32) = true := by rw [h32]; rfl
          have hfin : Hd (wsplit 32 l = (done ++ [(l.take k).drop fr]) ++ wsplit 32 (l.drop (k + 1))) := by
            have e4 : l.drop fr = (l.take k).drop fr ++ 32 :: l.drop (k + 1) := by
              have e5 : l = l.take k ++ b :: l.drop (k + 1) := by
                have := List.take_append_drop (k + 1) l
                rw [etk] at this
                simpa using this.symm
              conv => lhs; rw [e5]
              rw [List.drop_append_of_le_length (by omega), h32]
            show _ = _
            rw [e1.o, e4, wsplit_hit e2.o]
            simp
          replace hb0 := Hd.i hb0
          replace etk := Hd.i etk
          replace hlk := Hd.i hlk
          replace h32 := Hd.i h32
          clear hkn
          go_wp2_with (first | (at_builtin; go_loud (refine appendL_c rfl _ _ _ rfl w.heap.size 9 (.string ⟨#[]⟩) 16 Tryd.underlying33 infoStr rfl _ _ _ _ rfl ho [.string ((S l).extract fr k)] 1 rfl rfl oneStr c1 c2 hs1 ?_; intro a2 n2 cap2 w2 hn2 ho2 hg2 ha2)))
          refine ⟨⟨k + 1, k + 1, done ++ [(l.take k).drop fr], a2, n2, cap2, by omega, Nat.le_refl _, by go_num, by go_num, rfl, ?_, fun _ => ⟨hfin.o, by rw [List.drop_of_length_le (by rw [List.length_take]; omega)]; simp⟩, fun h => by omega, ?_, hb.trans (hg2.below hs1 fun b off s e => (ho.lt e).1)⟩, by simp [intOf]; omega⟩
          · rw [S_extract] at ho2
            simpa [strs] using ho2
          · show _ ≤ _
            have := h3.o
            rw [List.length_append]; simp; omega
        · have hb2 : ((b.toNat : Int) == 32) = false := by
            rw [beq_eq_false_iff_ne]
            intro e
            exact h32 (UInt8.toNat_inj.1 (by have : (32 : UInt8).toNat = 32 := rfl; omega))
          have hno : Hd (32 ∉ (l.take (k + 1)).drop fr) := by
            show ¬ _
            rw [etk, List.drop_append_of_le_length (by omega), List.mem_append]
            rintro (h | h)
            · exact e2.o h
            · rw [List.mem_singleton] at h; exact h32 h.symm
          replace hb0 := Hd.i hb0
          replace etk := Hd.i etk
          replace hlk := Hd.i hlk
          clear hkn h32
          go_wp2
          exact ⟨⟨k + 1, fr, done, c, m, capc, by omega, by omega, by go_num, rfl, rfl, ho, fun _ => ⟨e1.o, hno.o⟩, fun h => by omega, by show _ ≤ _; have := h3.o; omega, hb⟩, by simp [intOf]; omega⟩
    · obtain rfl : k = n + 1 := by omega
      have hd := h2.o rfl
      subst hd
      go_wp2
      exact H'.o _ _ _ _ hb ho
end Go.Proofs.YtkojonjcikgikaaDoor
