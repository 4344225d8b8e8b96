/- slices.Sort and slices.Reverse at []int64: the library's contracts laid at this program's numbers; and what they do to a row of the call's own. -/
import Derived.Shelf.SlGeneric
import Derived.Ground.SlgnProg
import Derived.Shelf.SortG.Plain
import Derived.Shelf.SortG.SortNone
import Derived.Shelf.SlicesG.Reverse
import Derived.Lib.OwnBridge
import Derived.Test.YtkojonjcikgikaaBase
import Derived.Test.YtkojonjcikgikaaApp
import Derived.Test.YtkojonjcikgikaaPureSup
namespace Go.Proofs.Ytkojonjcikgikaa
open Go.Shelf Go.RowKit Go.Sort
def sort_ren : Go.Shelf.Ren := ⟨fun | 53 => 49 | 64 => 71 | 63 => 70 | 78 => 95 | 79 => 96 | 70 => 86 | 71 => 87 | 72 => 88 | 73 => 89 | 74 => 90 | 75 => 91 | 59 => 92 | 76 => 93 | 77 => 94 | 88 => 108 | 89 => 109 | 90 => 110 | 91 => 111 | 92 => 112 | 68 => 97 | 96 => 116 | n => n, fun | 22 => 22 | 23 => 2 | 3 => 3 | 51 => 49 | 0 => 0 | 67 => 75 | 69 => 33 | 4 => 4 | 61 => 67 | 60 => 66 | 44 => 72 | 5 => 5 | 9 => 9 | 75 => 84 | 79 => 88 | 83 => 93 | 84 => 94 | n => n, fun | n => n⟩
theorem lay_sort : Go.Proofs.SlLaysN.n53 Try.prog sort_ren := {
  mixed := by kernel_rfl
  f53 := ⟨Try.f49.name, by decide, Try.func49.trans (congrArg some (by kernel_rfl))⟩
  f59 := ⟨Try.f92.name, by decide, Try.func92.trans (congrArg some (by kernel_rfl))⟩
  f63 := ⟨Try.f70.name, by decide, Try.func70.trans (congrArg some (by kernel_rfl))⟩
  f64 := Try.func71.trans (congrArg some (by kernel_rfl))
  f68 := ⟨Try.f97.name, by decide, Try.func97.trans (congrArg some (by kernel_rfl))⟩
  f70 := ⟨Try.f86.name, by decide, Try.func86.trans (congrArg some (by kernel_rfl))⟩
  f71 := ⟨Try.f87.name, by decide, Try.func87.trans (congrArg some (by kernel_rfl))⟩
  f72 := ⟨Try.f88.name, by decide, Try.func88.trans (congrArg some (by kernel_rfl))⟩
  f73 := ⟨Try.f89.name, by decide, Try.func89.trans (congrArg some (by kernel_rfl))⟩
  f74 := ⟨Try.f90.name, by decide, Try.func90.trans (congrArg some (by kernel_rfl))⟩
  f75 := ⟨Try.f91.name, by decide, Try.func91.trans (congrArg some (by kernel_rfl))⟩
  f76 := ⟨Try.f93.name, by decide, Try.func93.trans (congrArg some (by kernel_rfl))⟩
  f77 := ⟨Try.f94.name, by decide, Try.func94.trans (congrArg some (by kernel_rfl))⟩
  f78 := Try.func95.trans (congrArg some (by kernel_rfl))
  f79 := Try.func96.trans (congrArg some (by kernel_rfl))
  f88 := ⟨Try.f108.name, by decide, Try.func108.trans (congrArg some (by kernel_rfl))⟩
  f89 := Try.func109.trans (congrArg some (by kernel_rfl))
  f90 := Try.func110.trans (congrArg some (by kernel_rfl))
  f91 := ⟨Try.f111.name, by decide, Try.func111.trans (congrArg some (by kernel_rfl))⟩
  f92 := ⟨Try.f112.name, by decide, Try.func112.trans (congrArg some (by kernel_rfl))⟩
  f96 := ⟨Try.f116.name, by decide, Try.func116.trans (congrArg some (by kernel_rfl))⟩
  t0 := Try.underlying0
  a0 := Try.isAgg0
  z0 := Try.sizeOf0
  v0 := Try.zeroValue0
  t3 := Try.underlying3
  a3 := Try.isAgg3
  z3 := Try.sizeOf3
  v3 := Try.zeroValue3
  t4 := Try.underlying4
  a4 := Try.isAgg4
  z4 := Try.sizeOf4
  v4 := Try.zeroValue4
  t5 := Try.underlying5
  a5 := Try.isAgg5
  z5 := Try.sizeOf5
  v5 := Try.zeroValue5
  t9 := Try.underlying9
  a9 := Try.isAgg9
  z9 := Try.sizeOf9
  v9 := Try.zeroValue9
  t22 := Try.underlying22
  a22 := Try.isAgg22
  z22 := Try.sizeOf22
  v22 := Try.zeroValue22
  t23 := Try.underlying2
  a23 := Try.isAgg2
  z23 := Try.sizeOf2
  v23 := Try.zeroValue2
  t44 := Try.underlying72
  a44 := Try.isAgg72
  z44 := Try.sizeOf72
  v44 := Try.zeroValue72
  t51 := Try.underlying49
  a51 := Try.isAgg49
  z51 := Try.sizeOf49
  v51 := Try.zeroValue49
  t60 := Try.underlying66
  a60 := Try.isAgg66
  z60 := Try.sizeOf66
  v60 := Try.zeroValue66
  t61 := Try.underlying67
  a61 := Try.isAgg67
  z61 := Try.sizeOf67
  v61 := Try.zeroValue67
  t67 := Try.underlying75
  a67 := Try.isAgg75
  z67 := Try.sizeOf75
  v67 := Try.zeroValue75
  t69 := Try.underlying33
  a69 := Try.isAgg33
  z69 := Try.sizeOf33
  v69 := Try.zeroValue33
  t75 := Try.underlying84
  a75 := Try.isAgg84
  z75 := Try.sizeOf84
  v75 := Try.zeroValue84
  t79 := Try.underlying88
  a79 := Try.isAgg88
  z79 := Try.sizeOf88
  v79 := Try.zeroValue88
  t83 := Try.underlying93
  a83 := Try.isAgg93
  z83 := Try.sizeOf93
  v83 := Try.zeroValue93
  t84 := Try.underlying94
  a84 := Try.isAgg94
  z84 := Try.sizeOf94
  v84 := Try.zeroValue94 }
def rev_ren : Go.Shelf.Ren := ⟨fun | 35 => 65 | n => n, fun | 22 => 22 | 23 => 2 | 3 => 3 | 4 => 4 | 0 => 0 | n => n, fun | n => n⟩
theorem lay_rev : Go.Proofs.SlLaysN.n35 Try.prog rev_ren := {
  mixed := by kernel_rfl
  f35 := ⟨Try.f65.name, by decide, Try.func65.trans (congrArg some (by kernel_rfl))⟩
  t0 := Try.underlying0
  a0 := Try.isAgg0
  z0 := Try.sizeOf0
  v0 := Try.zeroValue0
  t3 := Try.underlying3
  a3 := Try.isAgg3
  z3 := Try.sizeOf3
  v3 := Try.zeroValue3
  t4 := Try.underlying4
  a4 := Try.isAgg4
  z4 := Try.sizeOf4
  v4 := Try.zeroValue4
  t22 := Try.underlying22
  a22 := Try.isAgg22
  z22 := Try.sizeOf22
  v22 := Try.zeroValue22
  t23 := Try.underlying2
  a23 := Try.isAgg2
  z23 := Try.sizeOf2
  v23 := Try.zeroValue2 }

theorem below_putGrow {w : World} {g q : Nat} {d : Array Int} {os : Array Obj} : Grew (some ⟨g, 0, none⟩) w (grow (putRow (Value.int .i64) (Sort.ahead w q) g 0 d) os) := by
  have h1 : (putRow (Value.int .i64) (Sort.ahead w q) g 0 d).heap.size = w.heap.size := by simp [putRow, mapBlock, Sort.ahead]
  refine ⟨rfl, rfl, rfl, by rw [size_grow, h1]; omega, fun k hk hne => ?_⟩
  have hne' : g ≠ k := fun e => hne 0 none (by rw [e])
  rw [heap_grow_old _ _ (by rw [h1]; exact hk)]
  simp [putRow, mapBlock, Sort.ahead, Array.getElem?_modify, hne']
theorem put_own {w : World} {B g n cap q : Nat} {xs ys : List Int} {os : Array Obj} (h : OwnI w B (some ⟨g, 0, none⟩) n cap xs) (hl : ys.length = xs.length) (hm : ∀ y ∈ ys, y ∈ xs) :
    OwnI (grow (putRow (Value.int .i64) (Sort.ahead w q) g 0 ys.toArray) os) B (some ⟨g, 0, none⟩) n cap ys := by
  have hx := h.length
  have h1 := Go.Lib.ownsRow_putRow (q := q) (k := n) (ys := ys) h.1.2.2 (by omega) (Nat.le_refl _)
  rw [List.take_of_length_le (by omega)] at h1
  have h2 : Own (putRow (Value.int .i64) (Sort.ahead w q) g 0 ys.toArray) B 2 (some ⟨g, 0, none⟩) n cap (ys.map (Value.int .i64)) := ⟨by rw [List.length_map]; omega, h.1.2.1, h1⟩
  refine ⟨h2.up ?_, fun y hy => h.2 y (hm y hy)⟩
  exact ⟨rfl, rfl, rfl, by rw [size_grow]; omega, fun k hk => heap_grow_old _ _ hk⟩

/-- slices.Sort at a row of the call's own. -/
theorem sort_c {R : Ending → World → Prop} {B : Nat} (a : Option Addr) (n cap : Nat) (xs : List Int) (w : World) (h : OwnI w B a n cap xs) (hn : n ≤ 1000000) (H : ∀ w', Grew a w w' → OwnI w' B a n cap (asc xs) → R (.returned (.tuple #[])) w') :
    Calls Try.prog 49 #[.slice a n cap] w R := by
  have hl := h.length
  by_cases h0 : n = 0
  · subst h0
    have e := AnyG.slices_Sort_int_none lay_sort a cap w
    change Calls Try.prog 49 _ _ _ at e
    refine e.mono ?_
    rintro e w' ⟨rfl, rfl⟩
    obtain rfl := List.eq_nil_of_length_eq_zero hl
    exact H _ (Grew.refl _ _) (by simpa [asc] using h)
  · obtain ⟨g, x, rfl, hB, hg, -⟩ := h.look (k := 0) (by omega)
    obtain ⟨g', cap', e0, _, _, _, _, _, hH⟩ := Go.Lib.holds_of_ownsRow (enc := Value.int .i64) h.1.2.2 (by simp)
    have e1 : g' = g := by
      injection e0 with e0 _ _
      injection e0 with e0
      injection e0 with e0
      exact e0.symm
    subst e1
    have e := AnyG.slices_Sort_int lay_sort g' 0 cap xs w hH hg (by omega)
    change Calls Try.prog 49 _ _ _ at e
    rw [hl] at e
    refine e.mono ?_
    rintro e w' ⟨rfl, q, os, rfl⟩
    exact H _ below_putGrow (put_own (ys := asc xs) h (asc_length xs) fun y hy => (asc_mem xs y).1 hy)

/-- slices.Reverse at a row of the call's own. -/
theorem reverse_c {R : Ending → World → Prop} {B : Nat} (a : Option Addr) (n cap : Nat) (xs : List Int) (w : World) (h : OwnI w B a n cap xs) (hn : n ≤ 1000000) (H : ∀ w', Grew a w w' → OwnI w' B a n cap xs.reverse → R (.returned (.tuple #[])) w') :
    Calls Try.prog 65 #[.slice a n cap] w R := by
  have hl := h.length
  by_cases h0 : n = 0
  · subst h0
    have e := AnyG.slices_Reverse_int_empty lay_rev a cap w
    change Calls Try.prog 65 _ _ _ at e
    refine e.mono ?_
    rintro e w' ⟨rfl, rfl⟩
    obtain rfl := List.eq_nil_of_length_eq_zero hl
    exact H _ (Grew.refl _ _) (by simpa using h)
  · obtain ⟨g, x, rfl, hB, hg, -⟩ := h.look (k := 0) (by omega)
    obtain ⟨g', cap', e0, _, _, _, _, _, hH⟩ := Go.Lib.holds_of_ownsRow (enc := Value.int .i64) h.1.2.2 (by simp)
    have e1 : g' = g := by
      injection e0 with e0 _ _
      injection e0 with e0
      injection e0 with e0
      exact e0.symm
    subst e1
    have e := AnyG.slices_Reverse_int lay_rev g' 0 cap xs w hH (by omega)
    change Calls Try.prog 65 _ _ _ at e
    rw [hl] at e
    refine e.mono ?_
    rintro e w' ⟨rfl, q, rfl⟩
    have e2 : putRow (Value.int .i64) (Sort.ahead w q) g' 0 xs.reverse.toArray = grow (putRow (Value.int .i64) (Sort.ahead w q) g' 0 xs.reverse.toArray) #[] := (grow_empty _).symm
    rw [e2]
    exact H _ below_putGrow (put_own (ys := xs.reverse) h (List.length_reverse) fun y hy => List.mem_reverse.1 hy)
end Go.Proofs.Ytkojonjcikgikaa
