/- readNumbers. -/
import Derived.Test.YtkojonjcikgikaaDoorReadN
namespace Go.Proofs.YtkojonjcikgikaaDoor
open Go.RowKit

theorem numI_range {l : List UInt8} {x : Int} (h : numI l = some x) : -999999999 ≤ x ∧ x ≤ 999999999 := by
  unfold numI at h
  split at h
  · split at h
    · rename_i h1
      have := Option.some.inj h
      subst this
      exact h1.2
    · cases h
  · cases h
/-- xs are the numbers of the words. -/
def NumsOf (ws : List (List UInt8)) (xs : List Int) : Prop := ws.map numI = xs.map some
theorem NumsOf.snoc {ws : List (List UInt8)} {k : Nat} {y : List UInt8} {xs : List Int} {x : Int} (h : NumsOf (ws.take k) xs) (hy : ws[k]? = some y) (hx : numI y = some x) : NumsOf (ws.take (k + 1)) (xs ++ [x]) := by
  unfold NumsOf at *
  rw [take_succ_some hy, List.map_append, List.map_append, h]
  simp [hx]

set_option maxHeartbeats 1000000 in
set_option maxRecDepth 100000 in
theorem readNumbers_c {R : Ending → World → Prop} (a : Option Addr) (n cap : Nat) (ws : List (List UInt8)) (w : World) (h : Vals w a n (strs ws)) (hl : Hd (∀ y ∈ ws, y.length ≤ 200)) (hn : n ≤ 201) (hw : LibW w)
    (H1 : ∀ a n cap xs w', Below w.heap.size w w' → OwnI w' w.heap.size a n cap xs → Hd (NumsOf ws xs) → R (.returned (.tuple #[.slice a n cap, .bool true])) w')
    (H0 : ∀ w', Below w.heap.size w w' → Hd (∃ y ∈ ws, numI y = none) → R (.returned (.tuple #[.slice none 0 0, .bool false])) w') :
    Calls Tryd.prog 22 #[.slice a n cap] w R := by
  replace H1 := Hd.i H1
  replace H0 := Hd.i H0
  have hlw := Hd.i (show ws.length = n by have := h.length; simpa [strs] using this)
  go_enter Tryd.func22, Tryd.ntmps22
  go_wp2
  go_loopw [4, 11] (fun v i wr => ∃ (k : Nat) (c : Option Addr) (m capc : Nat) (xs : List Int), k ≤ n ∧ i = .int .i64 k ∧ v = .slice c m capc ∧ OwnI wr w.heap.size c m capc xs ∧ Hd (NumsOf (ws.take k) xs) ∧ Below w.heap.size w wr) (fun _ i _ => n - (intOf i).toNat)
  case atStart => exact ⟨0, _, 0, 0, [], Nat.zero_le _, rfl, rfl, OwnI.nil _ _, by simp [Hd, NumsOf], Below.refl _ _⟩
  case round =>
    obtain ⟨k, c, m, capc, xs, hk, rfl, rfl, ho, hnum, hb⟩ := hrel
    have hsz := hb.size
    have hww := hw.up hb
    by_cases hlt : k < n
    · obtain ⟨b, off, v, rfl, hbl, hcell, hvk⟩ := (h.up hb).at hlt
      have hvk' := hvk.o
      rw [strs, List.getElem?_map, Option.map_eq_some_iff] at hvk'
      obtain ⟨y, hy, rfl⟩ := hvk'
      have hyl := Hd.i (hl.o y (List.mem_of_getElem? hy))
      have hmem := Hd.i (List.mem_of_getElem? hy)
      clear hvk
      have hmk : m ≤ k := by
        have h1 := ho.length
        have h2 := congrArg List.length hnum.o
        rw [List.length_map, List.length_map, List.length_take] at h2
        omega
      replace hy := Hd.i hy
      have c1' : (m + 1) * 8 ≤ 140737488355328 := by omega
      have c2' : m + 1 ≤ 281474976710656 := by omega
      by_cases hsome : ∃ x, numI y = some x
      · obtain ⟨x, hx⟩ := hsome
        have hxr := numI_range hx
        have hx0 := hxr.1
        have hx1 := hxr.2
        replace hx := Hd.i hx
        go_wp2_with fail
        refine readNumber_c y _ hyl.o hww ?_ ?_
        · intro z w2 hb2 hz
          have ez : z = x := Option.some.inj (hz.o.symm.trans hx.o)
          subst ez
          have ho2 := ho.up hb2
          have hb22 := below_ups hb hb2 hsz
          have hs2 := hb22.size
          go_wp2_with (first | (at_builtin; refine appendL_c rfl _ _ _ rfl w.heap.size 2 (.int .i64 0) 8 Tryd.underlying22 infoInt rfl _ _ _ _ rfl ho2.1 [.int .i64 z] 1 rfl rfl oneInt c1' c2' hs2 ?_; intro a3 n3 cap3 w3 hn3 ho3 hg3 ha3))
          exact ⟨⟨k + 1, a3, n3, cap3, xs ++ [z], by omega, by go_num, rfl, OwnI.snoc ho3 ho2.2 (by omega) (by omega), hnum.o.snoc hy.o hx.o, ho2.grewBelow hg3 hb22 hs2⟩, by simp [intOf]; omega⟩
        · intro z w2 hb2 hz
          have : (none : Option Int) = some x := hz.o.symm.trans hx.o
          cases this
      · have hnone := Hd.i (show numI y = none by cases e : numI y with | none => rfl | some x => exact absurd ⟨x, e⟩ hsome)
        have hno : Hd (∃ y ∈ ws, numI y = none) := ⟨y, hmem.o, hnone.o⟩
        clear hsome
        go_wp2_with fail
        refine readNumber_c y _ hyl.o hww ?_ ?_
        · intro z w2 hb2 hz
          have : (none : Option Int) = some z := hnone.o.symm.trans hz.o
          cases this
        · intro z w2 hb2 hz
          have hb22 := below_ups hb hb2 hsz
          go_wp2
          exact H0.o _ hb22 hno
    · obtain rfl : k = n := by omega
      rw [List.take_of_length_le (by have := hlw.o; omega)] at hnum
      go_wp2
      exact H1.o _ _ _ xs _ hb ho hnum
end Go.Proofs.YtkojonjcikgikaaDoor
