/- Block systems: the reference's tests. -/
import Derived.Test.YtkojonjcikgikaaPureBlk
import Derived.Test.YtkojonjcikgikaaPtSet
import Derived.Test.YtkojonjcikgikaaPut
namespace Go.Proofs.Ytkojonjcikgikaa
open Go.RowKit

open Classical in
noncomputable def partB (d : Nat) (bs : List (List Int)) : Bool := decide (Part d bs)
open Classical in
theorem partB_true {d : Nat} {bs : List (List Int)} (h : Part d bs) : partB d bs = true := by unfold partB; exact decide_eq_true h
open Classical in
theorem partB_false {d : Nat} {bs : List (List Int)} (h : ¬ Part d bs) : partB d bs = false := by unfold partB; exact decide_eq_false h
theorem seenB_len {d : Nat} {l : List Int} (hn : l.Nodup) (hr : ∀ y ∈ l, 0 ≤ y ∧ y < (d : Int)) : l.length ≤ d := by
  have := hn.length_le_of_subset (l₂ := idl d) fun y hy => mem_idl.2 (hr y hy)
  rwa [idl_length] at this
theorem seenB_rng {d : Nat} {bs : List (List Int)} {i k : Nat} {b : List Int} (h : PartTo d bs i) (hb : bs[i]? = some b) (hs : PtSet d b) : ∀ y ∈ seenB bs i k, 0 ≤ y ∧ y < (d : Int) := by
  intro y hy
  unfold seenB at hy
  rcases List.mem_append.1 hy with hy | hy
  · obtain ⟨c, hc, hyc⟩ := List.mem_flatten.1 hy
    exact (h.set c hc).2 y hyc
  · rw [List.getD_eq_getElem?_getD, hb, Option.getD_some] at hy
    exact hs.2 y (List.mem_of_mem_take hy)

open Classical in
noncomputable def respB (bs : List (List Int)) (g : List Int) : Bool := decide (Resp bs g)
open Classical in
theorem respB_true {bs : List (List Int)} {g : List Int} (h : Resp bs g) : respB bs g = true := by unfold respB; exact decide_eq_true h
open Classical in
theorem respB_false {bs : List (List Int)} {g : List Int} (h : ¬ Resp bs g) : respB bs g = false := by unfold respB; exact decide_eq_false h
def RespTo (bs : List (List Int)) (g : List Int) (i : Nat) : Prop := ∀ (j : Nat) (b : List Int), j < i → bs[j]? = some b → ∀ x ∈ b, ixB bs (at0 g x) = ixB bs (at0 g (at0 b 0))
def RespIn (bs : List (List Int)) (g b : List Int) (k : Nat) : Prop := ∀ (j : Nat) (x : Int), j < k → b[j]? = some x → ixB bs (at0 g x) = ixB bs (at0 g (at0 b 0))
theorem RespTo.all {bs : List (List Int)} {g : List Int} (h : RespTo bs g bs.length) : Resp bs g := fun b hb x hx => by
  obtain ⟨j, hj, e⟩ := List.mem_iff_getElem.1 hb
  exact h j b hj (by rw [List.getElem?_eq_getElem hj, e]) x hx
theorem RespTo.step {bs : List (List Int)} {g b : List Int} {i : Nat} (h : RespTo bs g i) (hb : bs[i]? = some b) (hin : RespIn bs g b b.length) : RespTo bs g (i + 1) := fun j c hj e x hx => by
  by_cases hji : j = i
  · subst hji; rw [hb] at e; cases e
    obtain ⟨k, hk, ek⟩ := List.mem_iff_getElem.1 hx
    exact hin k x hk (by rw [List.getElem?_eq_getElem hk, ek])
  · exact h j c (by omega) e x hx
theorem RespIn.step {bs : List (List Int)} {g b : List Int} {k : Nat} {x : Int} (h : RespIn bs g b k) (hx : b[k]? = some x) (he : ixB bs (at0 g x) = ixB bs (at0 g (at0 b 0))) : RespIn bs g b (k + 1) := fun j y hj e => by
  by_cases hjk : j = k
  · subst hjk; rw [hx] at e; cases e; exact he
  · exact h j y (by omega) e

/-- Where the number of a point's image's block stands. -/
theorem look3 {d : Nat} {bs : List (List Int)} {g : List Int} {w : World} {ag ac : Option Addr} {ng nc : Nat} (hP : Part d bs) (hg : Pm d g) (hgI : Ints w ag ng g) (hcI : Ints w ac nc (cls d bs)) {x : Int} (hx : 0 ≤ x ∧ x < (d : Int)) :
    ∃ b off b' off' y, ag = some ⟨b, off, none⟩ ∧ ac = some ⟨b', off', none⟩ ∧ w.cell? ⟨b, off + x.toNat, none⟩ = some (.int .i64 y) ∧ w.cell? ⟨b', off' + y.toNat, none⟩ = some (.int .i64 (ixB bs (at0 g x) : Nat)) ∧ Hd (y = at0 g x) ∧ 0 ≤ y ∧ y < (d : Int) ∧ Hd (ng = d ∧ nc = d) ∧ Hd (ixB bs (at0 g x) < bs.length) := by
  have hng : ng = d := by rw [← hgI.length]; exact hg.2
  have hnc : nc = d := by rw [← hcI.length, cls_length]
  obtain ⟨b, off, y, e1, _, h1, h2, _, _⟩ := hgI.at (k := x.toNat) (by omega)
  have hy : y = at0 g x := (at0_of h2.o).symm
  have hr := hg.rng hx.1 hx.2
  rw [← hy] at hr
  obtain ⟨b', off', v, e2, _, h3, h4, _, _⟩ := hcI.at (k := y.toNat) (by omega)
  have h5 := cls_get (bs := bs) hr.1 hr.2
  rw [h4.o] at h5
  cases h5
  rw [hy] at h3 hr
  exact ⟨b, off, b', off', y, e1, e2, h1, by rw [← hy] at h3 ⊢; exact h3, hy, by rw [hy]; exact hr.1, by rw [hy]; exact hr.2, ⟨hng, hnc⟩, hP.ix_lt hr.1 hr.2⟩
end Go.Proofs.Ytkojonjcikgikaa
