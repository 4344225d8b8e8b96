/- Texts of numbers: the reference's FormatImages. -/
import Derived.Test.YtkojonjcikgikaaDoorTextD
namespace Go.Proofs.YtkojonjcikgikaaDoor
open Go.RowKit

theorem oneStr {b : ByteArray} : ∀ u ∈ [Value.string b], u.oneCell' = true := by intro u hu; simp at hu; subst hu; rfl

set_option maxHeartbeats 1000000 in
theorem formatInts_c {R : Ending → World → Prop} (a : Option Addr) (n cap : Nat) (xs : List Int) (w : World) (h : Ints w a n xs) (hs : Hd (Small100 xs)) (h2 : n ≤ 20) (H : Gives R w (.string (S (txt xs)))) :
    Calls Tryd.prog 35 #[.slice a n cap] w R := by
  have H' := Hd.i H; clear H
  have hln := Hd.i h.length
  go_enter Tryd.func35, Tryd.ntmps35
  go_wp2
  go_loopw [3, 4] (fun v i wr => ∃ (k : Nat) (c : Option Addr) (m capc : Nat), k ≤ n ∧ i = .int .i64 k ∧ v = .slice c m capc ∧ Own wr w.heap.size 9 c m capc (strs ((xs.map dig).take k)) ∧ Below w.heap.size w wr) (fun _ i _ => n - (intOf i).toNat)
  case atStart => exact ⟨0, _, 0, 0, Nat.zero_le _, rfl, rfl, Own.lit w [] _ (by simp) (Nat.le_refl _), (Below.refl _ _).alloc (Nat.le_refl _) _⟩
  case round =>
    obtain ⟨k, c, m, capc, hk, rfl, rfl, ho, hb⟩ := hrel
    by_cases hlt : k < n
    · obtain ⟨b, off, x, rfl, hbl, hcell, hx, _, _⟩ := (h.up hb).at hlt
      obtain ⟨hx0, hx1⟩ := hs.o x (List.mem_of_getElem? hx.o)
      have hmk : m ≤ k := by have := ho.length; simp [strs] at this; omega
      have c1 : (m + 1) * 16 ≤ 140737488355328 := by omega
      have c2 : m + 1 ≤ 281474976710656 := by omega
      have hs1 := hb.size
      have e2 : (xs.map dig)[k]? = some (dig x) := by simp [hx.o]
      have el := Hd.i (show strs ((xs.map dig).take (k + 1)) = strs ((xs.map dig).take k) ++ [.string (S (dig x))] by rw [take_succ_some e2]; simp [strs])
      clear e2
      go_wp2_with (first | (go_at_call 46; refine formatInt_c x _ hx0 hx1 ?_; intro w1 hb1; have ho1 := ho.up hb1; have hb11 := below_ups hb hb1 hs1; have hs11 := hb11.size) | (at_builtin; refine appendL_c rfl _ _ _ rfl w.heap.size 9 (.string ⟨#[]⟩) 16 Tryd.underlying33 infoStr rfl _ _ _ _ rfl ho1 [.string (S (dig x))] 1 rfl rfl oneStr c1 c2 hs11 ?_; intro a2 n2 cap2 w2 hn2 ho2 hg2 ha2))
      refine ⟨⟨k + 1, a2, n2, cap2, by omega, by go_num, rfl, by rw [el.o]; exact ho2, ?_⟩, by simp [intOf]; omega⟩
      exact hb11.trans (hg2.below hs11 fun b off s e => (ho1.lt e).1)
    · obtain rfl : k = n := by omega
      rw [List.take_of_length_le (by simp; have := hln.o; omega)] at ho
      have hm : m = k := by have := ho.length; simp [strs] at this; have := hln.o; omega
      subst hm
      have hl2 : Hd (∀ x ∈ xs.map dig, x.length ≤ 2) := fun y hy => by
        rw [List.mem_map] at hy
        obtain ⟨x, hx, rfl⟩ := hy
        exact (dig_len (hs.o x hx).1 (hs.o x hx).2).2
      have hv := ho.vals
      go_wp2_with (first | (go_at_call 47; refine joinText_c _ _ _ (xs.map dig) _ hv hl2 h2 ?_))
      exact H'.o _ hb

theorem topSpecFormatImages {R : Ending → World → Prop} {B : Nat} (a : Option Addr) (n cap : Nat) (p : List Int) (w : World) (h : OwnI w B a n cap p) (H : Gives R w (.string (S (pFmtI p)))) :
    Calls Tryd.prog 14 #[.slice a n cap] w R := by
  have H' := Hd.i H; clear H
  by_cases hp : IsPerm p
  · have e := Hd.i (show pFmtI p = txt p by simp [pFmtI, hp])
    have hdec := Hd.i (decide_eq_true hp)
    have hn2 : n ≤ 20 := by have := hp.2.1; have := h.length; omega
    have hs := Hd.i hp.small
    go_enter Tryd.func14, Tryd.ntmps14
    go_wp2_with (first | (go_at_call 21; refine specIsPerm_c _ _ _ p _ h.ints h.cap ?_; intro w1 hd1; rw [hdec.o]; have hb1 := hd1.below w.heap.size) | (go_at_call 35; refine formatInts_c _ _ _ p _ (h.ints.up (by assumption)) hs hn2 ?_; intro w2 hb2))
    rw [← e.o]
    exact H'.o _ (below_ups hb1 hb2 hb1.size)
  · have e := Hd.i (show pFmtI p = [] by simp [pFmtI, hp])
    have hdec := Hd.i (decide_eq_false hp)
    go_enter Tryd.func14, Tryd.ntmps14
    go_wp2_with (first | (go_at_call 21; refine specIsPerm_c _ _ _ p _ h.ints h.cap ?_; intro w1 hd1; rw [hdec.o]; have hb1 := hd1.below w.heap.size))
    have hf := H'.o _ hb1
    rw [e.o] at hf
    exact hf
end Go.Proofs.YtkojonjcikgikaaDoor
