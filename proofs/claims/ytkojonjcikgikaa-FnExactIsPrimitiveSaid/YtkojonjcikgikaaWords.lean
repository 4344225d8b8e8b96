/- The program's breadth-first words: letters, wordsFrom, orbit. -/
import Derived.Test.YtkojonjcikgikaaOrbitOf
import Derived.Test.YtkojonjcikgikaaQue
import Derived.Test.YtkojonjcikgikaaRd
import Derived.Deep.LoopGhost
namespace Go.Proofs.Ytkojonjcikgikaa
open Go.RowKit

theorem ltrs_bd {m : Nat} (hm : m ≤ 100) {x : Int} (h : x ∈ ltrs m) : -9223372036854775808 ≤ x ∧ x ≤ 9223372036854775807 := by
  simp only [ltrs, List.mem_map, List.mem_range] at h
  obtain ⟨k, hk, rfl⟩ := h
  unfold ltr
  split <;> omega
theorem ltrs_two (k : Nat) : ltrs (2 * (k + 1)) = ltrs (2 * k) ++ [(k : Int) + 1, -((k : Int) + 1)] := by
  rw [show 2 * (k + 1) = (2 * k + 1) + 1 by omega, ltrs_succ, ltrs_succ, ltr_even, ltr_odd, List.append_assoc]; rfl

theorem letters_c {R : Ending → World → Prop} (m : Nat) (w : World) (hm : m ≤ 8) (H : MakesI R w (ltrs (2 * m))) : Calls Try.prog 117 #[.int .i64 m] w R := by
  have H' := Hd.i H; clear H
  go_enter Try.func117, Try.ntmps117
  go_wp2
  go_loopw [3, 6] (fun v i wr => ∃ (k : Nat) (c : Option Addr) (n capc : Nat), k ≤ m ∧ i = .int .i64 k ∧ v = .slice c n capc ∧ OwnI wr w.heap.size c n capc (ltrs (2 * k)) ∧ Below w.heap.size w wr) (fun _ i _ => m - (intOf i).toNat)
  case atStart => exact ⟨0, _, 0, 0, Nat.zero_le _, rfl, rfl, OwnI.nil _ _, Below.refl _ _⟩
  case round =>
    obtain ⟨k, c, n, capc, hk, rfl, rfl, ho, hb⟩ := hrel
    by_cases hlt : k < m
    · have hl := ho.length
      rw [ltrs_length] at hl
      have c1 : (n + 2) * 8 ≤ 140737488355328 := by omega
      have c2 : n + 2 ≤ 281474976710656 := by omega
      have hs := hb.size
      replace hl := Hd.i hl
      go_wp2_with (at_builtin; refine appendL_c rfl _ _ _ rfl w.heap.size 2 (.int .i64 0) 8 Try.underlying22 infoInt rfl _ _ _ _ rfl ho.1 [.int .i64 (k + 1), .int .i64 (-(k + 1))] 2 rfl rfl (oneInts (xs := [(k : Int) + 1, -((k : Int) + 1)])) c1 c2 hs ?_; intro a2 n2 cap2 w2 hn2 ho2 hg2 ha2)
      refine ⟨⟨k + 1, a2, n2, cap2, by omega, by go_num, rfl, ⟨?_, fun x hx => ltrs_bd (by omega) hx⟩, ho.grewBelow hg2 hb hs⟩, by simp [intOf]; omega⟩
      rw [ltrs_two, List.map_append]
      exact ho2
    · obtain rfl : k = m := by omega
      go_wp2
      exact H'.o _ _ _ _ hb ho

/-- A slice of int64s against nil. -/
theorem eqNil (w : World) (a : Option Addr) (n c : Nat) : (binOp .eql 22 (.slice a n c) (.slice none 0 0)).run Try.prog w = .ok (.bool a.isNone) w := Lib.run_eql_slice_nil w _ _ a n c 0 0 Try.underlying22
theorem neNil (w : World) (a : Option Addr) (n c : Nat) : (binOp .neq 22 (.slice a n c) (.slice none 0 0)).run Try.prog w = .ok (.bool (!a.isNone)) w := run_neq_slice_nil_any w _ _ a n c 0 0 Try.underlying22

/-- slices.Clone of a slice that is not nil. -/
theorem clone_c {R : Ending → World → Prop} (b off n cap : Nat) (xs : List Int) (w : World) (hx : Ints w (some ⟨b, off, none⟩) n xs) (hn : n ≤ 1000000) (H : ∀ g m c w', Below w.heap.size w w' → OwnI w' w.heap.size (some ⟨g, 0, none⟩) m c xs → R (.returned (.slice (some ⟨g, 0, none⟩) m c)) w') :
    Calls Try.prog 119 #[.slice (some ⟨b, off, none⟩) n cap] w R := by
  have H' := Hd.i H; clear H
  have hb0 := (Below.refl w.heap.size w).alloc (Nat.le_refl _) (.cells #[] 2)
  have ho0 := OwnI.emptyLit w (B := w.heap.size) (Nat.le_refl _)
  have c1 : (0 + n) * 8 ≤ 140737488355328 := by omega
  have c2 : 0 + n ≤ 281474976710656 := by omega
  have hs := hb0.size
  have hsrc := (hx.up hb0).1
  have hnil := eqNil
  go_enter Try.func119, Try.ntmps119
  go_wp2_with (at_builtin; refine append_c rfl _ _ _ rfl w.heap.size 2 (.int .i64 0) 8 Try.underlying22 infoInt rfl _ _ _ _ rfl ho0.1 _ _ _ (xs.map (Value.int .i64)) rfl hsrc oneInts c1 c2 hs ?_; intro a2 n2 cap2 w2 hn2 ho2 hg2 ha2; have hb2 := ho0.grewBelow hg2 hb0 hs)
  have ho3 : OwnI w2 w.heap.size a2 n2 cap2 xs := ⟨by simpa using ho2, hx.2⟩
  rcases ha2.o with rfl | rfl
  · exact H'.o _ _ _ _ hb2 ho3
  · exact H'.o _ _ _ _ hb2 ho3

/-- The permutation of a letter; what it lies in. -/
theorem letterD_c {R : Ending → World → Prop} (D : Nat → Prop) (a : Option Addr) (n cap : Nat) (xss : List (List Int)) (l : Int) (w : World) (hm : MatD D w a n xss) (hD : ∀ b, w.heap.size ≤ b → D b) (d : Nat) (hg : Hd (GenSet (d : Int) xss)) (hl : Hd (IsLet xss l))
    (H : ∀ a' n' c' w', Below w.heap.size w w' → IntsD D w' a' n' (letP xss l) → n' ≤ c' → R (.returned (.slice a' n' c')) w') : Calls Try.prog 118 #[.slice a n cap, .int .i64 l] w R := by
  have H' := Hd.i H; clear H
  replace hD := Hd.i hD
  have hln := Hd.i hm.length
  have hn8 : n ≤ 8 := by have := hg.o.2.2.1; have := hln.o; omega
  have hr : l ≠ 0 ∧ -(n : Int) ≤ l ∧ l ≤ n := by have := hl.o; rw [IsLet, hln.o] at this; exact this
  by_cases hneg : l < 0
  · obtain ⟨j, rfl⟩ : ∃ j : Nat, l = -((j : Int) + 1) := ⟨(-l - 1).toNat, by omega⟩
    obtain ⟨b, off, a1, n1, c1, p, rfl, hbb, hcell, hy, hin, hcap⟩ := hm.at (k := j) (by omega)
    have e := Hd.i (show letP xss (-((j : Int) + 1)) = inv p by rw [letP, if_pos hneg, show (-(-((j : Int) + 1)) - 1).toNat = j by omega, hy.o]; rfl)
    have hjn : j < n := by omega
    have hp := (hg.o.perm (List.mem_of_getElem? hy.o)).1
    have hpos : ¬ (0 < -((j : Int) + 1)) := by omega
    clear hr
    go_enter Try.func118, Try.ntmps118
    go_wp2_with (go_at_call 64; refine implInverse_c _ _ _ p _ hin.1 hp ?_; intro a2 n2 c2 w2 hb2 ho2)
    exact H'.o _ _ _ _ hb2 (by rw [e.o]; exact .of_own ho2 hD.o) ho2.cap
  · obtain ⟨j, rfl⟩ : ∃ j : Nat, l = (j : Int) + 1 := ⟨(l - 1).toNat, by omega⟩
    obtain ⟨b, off, a1, n1, c1, p, rfl, hbb, hcell, hy, hin, hcap⟩ := hm.at (k := j) (by omega)
    have e := Hd.i (show letP xss ((j : Int) + 1) = p by rw [letP, if_neg hneg, show ((j : Int) + 1 - 1).toNat = j by omega, hy.o]; rfl)
    have hpos : 0 < (j : Int) + 1 := by omega
    have hjn : j < n := by omega
    clear hr
    go_enter Try.func118, Try.ntmps118
    go_wp2
    exact H'.o _ _ _ _ (Below.refl _ _) (by rw [e.o]; exact hin) hcap

/-- The words found so far, one for each point; nil where none is found. None lies in the block g, none in that of q. -/
def Wds (w : World) (g : Nat) (q : Option Addr) (d : Nat) (fw : FW) : Prop :=
  ∃ hs : List Hdr, Own w g 22 (some ⟨g, 0, none⟩) d d (hs.map hvv) ∧ ∀ (y : Nat) (h : Hdr), hs[y]? = some h →
    (wordAt fw y = none → h = (none, 0, 0)) ∧ ∀ ws, wordAt fw y = some ws → h.1 ≠ none ∧ OwnD (fun b => b ≠ g ∧ ¬ fpI q b) w g h.1 h.2.1 h.2.2 ws
theorem Wds.up {w w' : World} {g d : Nat} {q : Option Addr} {fw : FW} (h : Wds w g q d fw) (hb : Below w.heap.size w w') : Wds w' g q d fw := by
  obtain ⟨hs, h1, h2⟩ := h
  exact ⟨hs, h1.up hb, fun y k e => ⟨(h2 y k e).1, fun ws e' => ⟨((h2 y k e).2 ws e').1, ((h2 y k e).2 ws e').2.kept (.of_below hb)⟩⟩⟩
theorem Wds.drewN {w : World} {g d : Nat} {q : Option Addr} {fw : FW} (h : Wds w g q d fw) (m : Nat) : Wds (w.drewN m) g q d fw := h
/-- The queue has turned. -/
theorem Wds.queue {w w' : World} {g d j : Nat} {q q2 : Option Addr} {fw : FW} (h : Wds w g q d fw) (hg : Grew q w w') (hq : ¬ fpI q g) (hq2 : q2 = q ∨ q2 = some ⟨w.heap.size + j, 0, none⟩) : Wds w' g q2 d fw := by
  obtain ⟨hs, h1, h2⟩ := h
  refine ⟨hs, hg.own h1 (fun b off s off' s' e e' => by cases e; exact hq ⟨off', s', e'⟩), fun y k e => ⟨(h2 y k e).1, fun ws e' => ⟨((h2 y k e).2 ws e').1, ?_⟩⟩⟩
  have hk : Kept (fun b => b ≠ g ∧ ¬ fpI q b ∧ ¬ fpI q2 b) w w' := .of_grew hg fun b hb => hb.2.1
  have ho := ((h2 y k e).2 ws e').2
  have ho2 : OwnD (fun b => b ≠ g ∧ ¬ fpI q b ∧ ¬ fpI q2 b) w g k.1 k.2.1 k.2.2 ws := ho.mono fun b hb hd => ⟨hd.1, hd.2, fun e => by
    rcases hq2 with rfl | rfl
    · exact hd.2 e
    · obtain ⟨off, s, e⟩ := e; cases e; omega⟩
  exact (ho2.kept hk).mono fun b _ hd => ⟨hd.1, hd.2.2⟩
theorem Wds.weak {w : World} {g d : Nat} {q q2 : Option Addr} {fw : FW} (h : Wds w g q d fw) (hq2 : ∀ b, b < w.heap.size → ¬ fpI q b → ¬ fpI q2 b) : Wds w g q2 d fw := by
  obtain ⟨hs, h1, h2⟩ := h
  exact ⟨hs, h1, fun y k e => ⟨(h2 y k e).1, fun ws e' => ⟨((h2 y k e).2 ws e').1, ((h2 y k e).2 ws e').2.mono fun b hb hd => ⟨hd.1, hq2 b hb hd.2⟩⟩⟩⟩
/-- What stands at a point. -/
theorem Wds.at {w : World} {g d y : Nat} {q : Option Addr} {fw : FW} (h : Wds w g q d fw) (hy : y < d) :
    ∃ a n c, w.cell? ⟨g, y, none⟩ = some (.slice a n c) ∧ w.frozen? ⟨g, y, none⟩ = false ∧ Hd (wordAt fw y = none → (a, n, c) = (none, 0, 0)) ∧ Hd (∀ ws, wordAt fw y = some ws → a ≠ none ∧ OwnD (fun b => b ≠ g ∧ ¬ fpI q b) w g a n c ws) := by
  obtain ⟨hs, h1, h2⟩ := h
  obtain ⟨v, e1, e2, e3⟩ := h1.at' hy
  have e3 := e3.o
  rw [List.getElem?_map, Option.map_eq_some_iff] at e3
  obtain ⟨k, e4, rfl⟩ := e3
  exact ⟨k.1, k.2.1, k.2.2, e1, e2, (h2 y k e4).1, (h2 y k e4).2⟩
/-- A word is stored. -/
theorem Wds.put {w : World} {g d y : Nat} {q : Option Addr} {fw : FW} (h : Wds w g q d fw) (hy : (y : Int) ∉ keys fw) {a : Option Addr} {n c : Nat} {ws : List Int} (ha : a ≠ none) (ho : OwnD (fun b => b ≠ g ∧ ¬ fpI q b) w g a n c ws) :
    Wds (w.setCell ⟨g, y, none⟩ (.slice a n c)) g q d (fw ++ [((y : Int), ws)]) := by
  obtain ⟨hs, h1, h2⟩ := h
  have hst := h1.store (k := y) (.slice a n c)
  have hk : Kept (fun b => b ≠ g ∧ ¬ fpI q b) w (w.setCell ⟨g, y, none⟩ (.slice a n c)) := .of_store fun b hb => hb.1
  refine ⟨hs.set y (a, n, c), by rw [List.map_set]; exact hst, fun z k e => ?_⟩
  rw [List.getElem?_set] at e
  rw [wordAt_snoc hy]
  by_cases hz : y = z
  · subst hz
    rw [if_pos rfl] at e
    rw [if_pos rfl]
    split at e
    · cases e
      exact ⟨fun e => (by cases e), fun ws' e' => (by cases e'; exact ⟨ha, ho.kept hk⟩)⟩
    · cases e
  · rw [if_neg hz] at e
    rw [if_neg (by omega)]
    exact ⟨(h2 z k e).1, fun ws' e' => ⟨((h2 z k e).2 ws' e').1, ((h2 z k e).2 ws' e').2.kept hk⟩⟩
end Go.Proofs.Ytkojonjcikgikaa
