/- likeInts, and what the laws on random permutations call, on permutations. -/
import Derived.Test.YtkojonjcikgikaaDice
import Derived.Test.YtkojonjcikgikaaPureGroup
import Derived.OpenShut
namespace Go.Proofs.Ytkojonjcikgikaa
open Go.RowKit

theorem Bytes.nil {w : World} (a : Option Addr) : Bytes w a 0 := ⟨[], Vals.nil a, by simp⟩
theorem Bytes.of_open {w : World} {x : Addr} {l c : Nat} {zs : List Int} (hl : l ≤ c) (hm : c ≤ maxLen) (hz : zs.length = c)
    (hcell : ∀ i, i < zs.length → w.cell? (x.add i) = some (.int .u8 (zs.getD i 0))) (hwz : ∀ n ∈ zs, (Lit.int .u8 n).wf = true) : Bytes w (some x) l := by
  refine ⟨zs.take l, ⟨by simp; omega, by rw [maxLen_eq] at hm; omega, ?_⟩, fun z hz => Go.bounds_u8 (hwz z (List.mem_of_mem_take hz))⟩
  by_cases h0 : l = 0
  · exact .inl h0
  · right
    have h := hcell 0 (by omega)
    have hs : x.spot = none := by
      rw [show x.add 0 = x from by simp [Addr.add]] at h
      unfold World.cell? at h
      split at h
      · split at h
        · cases h
        · rename_i hs; simpa using hs
      · cases h
    refine ⟨x.block, x.off, by rw [← hs], fun j v hv => ?_⟩
    rw [List.getElem?_map, List.getElem?_take] at hv
    split at hv
    · rename_i hj
      have h := hcell j (by omega)
      rw [Option.map_eq_some_iff] at hv
      obtain ⟨y, hy, rfl⟩ := hv
      rw [List.getD_eq_getElem?_getD, hy] at h
      refine Eq.trans ?_ h
      congr 1
      unfold Addr.add
      split
      · rename_i hj; subst hj; simp [← hs]
      · rfl
    · simp at hv

set_option maxHeartbeats 400000 in
theorem likeInts_c {R : Ending → World → Prop} (a : Option Addr) (n cap : Nat) (xs : List Int) (a' : Option Addr) (n' cap' : Nat) (ys : List Int) (w : World) (hx : Ints w a n xs) (hy : Ints w a' n' ys)
    (H : Reads R w (.bool (decide (xs = ys)))) :
    Calls Try.prog 28 #[.slice a n cap, .slice a' n' cap'] w R := by
  have H' := Hd.i H; clear H
  by_cases hnn : n = n'
  · subst hnn
    have hm := hx.le
    go_enter Try.func28, Try.ntmps28
    go_wp2
    go_loopw [5] (fun i wr => ∃ k : Nat, k ≤ n ∧ i = .int .i64 k ∧ Drew w wr ∧ Hd (xs.take k = ys.take k)) (fun i _ => n - (intOf i).toNat)
    case atStart => exact ⟨0, Nat.zero_le _, rfl, Drew.refl _, rfl⟩
    case round =>
      obtain ⟨k, hk, rfl, hd, hc⟩ := hrel
      by_cases hlt : k < n
      · obtain ⟨b, off, x, rfl, hb, hcell, hxk, hx1, hx2⟩ := (hd.ints hx).at hlt
        obtain ⟨b', off', y, rfl, hb', hcell', hyk, hy1, hy2⟩ := (hd.ints hy).at hlt
        by_cases hxy : x = y
        · subst hxy
          go_wp2
          go_quiet (fail)
          go_wp2
          go_roundw
          case rel => exact ⟨k + 1, by omega, by go_num, hd.step nq, take_eq_succ hc.o hxk.o hyk.o⟩
          case measure => simp [intOf]; omega
        · go_wp2
          go_quiet (fail)
          go_wp2
          exact retB (H'.o _ (hd.step nq)) (decide_eq_false (fun e => hxy (by have h1 := hxk.o; have h2 := hyk.o; rw [e] at h1; rw [h1] at h2; exact Option.some.inj h2)))
      · go_wp2
        have h := hc.o
        rw [List.take_of_length_le (by have := hx.length; omega), List.take_of_length_le (by have := hy.length; omega)] at h
        exact retB (H'.o _ hd) (by simpa using h)
  · go_enter Try.func28, Try.ntmps28
    go_wp2
    exact retB (H'.o _ (Drew.refl _)) (by simpa using fun e => hnn (by rw [← hx.length, ← hy.length, e]))

theorem likeInts_same {R : Ending → World → Prop} (a : Option Addr) (n cap : Nat) (xs : List Int) (a' : Option Addr) (n' cap' : Nat) (ys : List Int) (w : World) (hx : Ints w a n xs) (hy : Ints w a' n' ys) (e : Hd (xs = ys))
    (H : Reads R w (.bool true)) : Calls Try.prog 28 #[.slice a n cap, .slice a' n' cap'] w R := by
  refine likeInts_c a n cap xs a' n' cap' ys w hx hy ?_
  rw [decide_eq_true e.o]; exact H
theorem swapPermutation_z {R : Ending → World → Prop} (B g n : Nat) (z : Int) (w : World) (hz : Hd (z = n)) (hd : IsDice w B g) (h1 : 1 ≤ n) (hn : n ≤ 20)
    (H : ∀ c capc xs w', Hd (IsPerm xs) → Hd (xs.length = n) → Grew (some ⟨g, 0, none⟩) w w' → IsDice w' B g → OwnI w' w.heap.size c n capc xs → R (.returned (.slice c n capc)) w') :
    Calls Try.prog 24 #[.pointer (some ⟨g, 0, none⟩), .int .i64 z] w R := by
  rw [hz.o]
  exact swapPermutation_c B g n w hd h1 hn fun c capc xs w' h1 h2 h3 h4 => H c capc xs w' h1 h4.length h2 h3 h4
theorem composePair {R : Ending → World → Prop} {B B' : Nat} (a : Option Addr) (n cap : Nat) (p : List Int) (a' : Option Addr) (n' cap' : Nat) (q : List Int) (w : World) (h : OwnI w B a n cap p) (h' : OwnI w B' a' n' cap' q) (hpp : Hd (PermPair p q))
    (H : MakesIB R w (comp p q) true) : Calls Try.prog 25 #[.slice a n cap, .slice a' n' cap'] w R := by
  refine topImplCompose a n cap p a' n' cap' q w h h' ?_
  rw [decide_eq_true hpp.o, show pCompose p q = comp p q by simp [pCompose, hpp.o]]
  exact H
theorem isPermTrue {R : Ending → World → Prop} (a : Option Addr) (n cap : Nat) (xs : List Int) (w : World) (hx : Ints w a n xs) (h : Hd (IsPerm xs)) (H : R (.returned (.bool true)) w) :
    Calls Try.prog 45 #[.slice a n cap] w R := by
  refine implIsPerm_c a n cap xs w hx ?_
  rw [decide_eq_true h.o]; exact H
/-- A row made after the dice is not the dice's block. -/
theorem dice_apart {w : World} {C g : Nat} {a : Option Addr} {n cap : Nat} {xs : List Int} (h : OwnI w C a n cap xs) (hg : g < C) : ∀ b off s off' s', a = some ⟨b, off, s⟩ → some (⟨g, 0, none⟩ : Addr) ≠ some ⟨b, off', s'⟩ := by
  intro b off s off' s' e e'
  have := h.ge b off s e
  cases e'
  omega
end Go.Proofs.Ytkojonjcikgikaa
