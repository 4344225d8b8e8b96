/- The reference's orbit of a point. -/
import Derived.Test.YtiekjklhojmnoaaPureBfs
import Derived.Test.YtiekjklhojmnoaaEval
namespace Go.Proofs.Ytiekjklhojmnoaa
open Go.RowKit

theorem genSet_gens {d : Nat} {xss : List (List Int)} (h : GenSet (d : Int) xss) : Gens d xss := fun p hp => by
  have := h.perm hp
  exact ⟨this.1, by omega⟩

/-- What has been found so far: different points, all reached; those below k have been gone through. -/
def Found (xss : List (List Int)) (x : Int) (os : List Int) (k : Nat) : Prop :=
  os.Nodup ∧ x ∈ os ∧ (∀ y ∈ os, Reach xss x y) ∧ ∀ j, j < k → ∀ y, os[j]? = some y → ∀ p ∈ xss, at0 p y ∈ os
theorem Found.snoc {xss : List (List Int)} {x y : Int} {os : List Int} {k : Nat} (h : Found xss x os k) (hk : k ≤ os.length) (hy : y ∉ os) (hr : Reach xss x y) : Found xss x (os ++ [y]) k := by
  obtain ⟨h1, h2, h3, h4⟩ := h
  refine ⟨List.nodup_append.2 ⟨h1, List.pairwise_singleton _ _, fun a ha b hb => ?_⟩, List.mem_append_left _ h2, fun z hz => ?_, fun j hj z hz p hp => ?_⟩
  · obtain rfl := List.mem_singleton.1 hb
    intro e; exact hy (e ▸ ha)
  · rcases List.mem_append.1 hz with hz | hz
    · exact h3 z hz
    · obtain rfl := List.mem_singleton.1 hz; exact hr
  · rw [List.getElem?_append_left (by omega)] at hz
    exact List.mem_append_left _ (h4 j hj z hz p hp)
theorem Found.full {xss : List (List Int)} {x : Int} {os : List Int} (h : Found xss x os os.length) : os.Nodup ∧ ∀ y, y ∈ os ↔ Reach xss x y := by
  refine ⟨h.1, fun y => ⟨h.2.2.1 y, fun hr => ?_⟩⟩
  induction hr with
  | refl => exact h.2.1
  | step _ hp ih =>
    obtain ⟨j, hj⟩ := List.getElem?_of_mem ih
    exact h.2.2.2 j (List.getElem?_eq_some_iff.1 hj).1 _ hj _ hp
theorem Found.len {n : Nat} {xss : List (List Int)} (hg : Gens n xss) {x : Int} (hx : 0 ≤ x ∧ x < n) {os : List Int} {k : Nat} (h : Found xss x os k) : os.length ≤ n := by
  have hs : os ⊆ idl n := fun y hy => mem_idl.2 ((h.2.2.1 y hy).range hg hx)
  have := h.1.length_le_of_subset hs
  rwa [idl_length] at this

theorem found_range {d : Nat} {xss : List (List Int)} (hg : Gens d xss) {x : Int} (hx : 0 ≤ x ∧ x < d) {os : List Int} {k j : Nat} (h : Found xss x os k) {u : Int} (hu : os[j]? = some u) : 0 ≤ u ∧ u < d :=
  (h.2.2.1 u (List.mem_of_getElem? hu)).range hg hx
/-- Within a round: the images of u under the first j generators are found. -/
def Half (xss : List (List Int)) (x : Int) (os : List Int) (k : Nat) (u : Int) (j : Nat) : Prop := Found xss x os k ∧ os[k]? = some u ∧ ∀ q p, q < j → xss[q]? = some p → at0 p u ∈ os
theorem Half.next {xss : List (List Int)} {x u : Int} {os : List Int} {k : Nat} (h : Half xss x os k u xss.length) : Found xss x os (k + 1) := by
  obtain ⟨⟨h1, h2, h3, h4⟩, h5, h6⟩ := h
  refine ⟨h1, h2, h3, fun j hj y hy p hp => ?_⟩
  by_cases e : j = k
  · subst e
    rw [h5] at hy
    cases hy
    obtain ⟨q, hq⟩ := List.getElem?_of_mem hp
    exact h6 q p (List.getElem?_eq_some_iff.1 hq).1 hq
  · exact h4 j (by omega) y hy p hp
theorem Half.old {xss : List (List Int)} {x u y : Int} {os : List Int} {k j : Nat} {p : List Int} (h : Half xss x os k u j) (hp : xss[j]? = some p) (hy : p[u.toNat]? = some y) (hm : y ∈ os) : Half xss x os k u (j + 1) := by
  refine ⟨h.1, h.2.1, fun q r hq hr => ?_⟩
  by_cases e : q = j
  · subst e
    rw [hp] at hr
    cases hr
    rw [at0_of hy]; exact hm
  · exact h.2.2 q r (by omega) hr
theorem Half.new {xss : List (List Int)} {x u y : Int} {os : List Int} {k j : Nat} {p : List Int} (h : Half xss x os k u j) (hp : xss[j]? = some p) (hy : p[u.toNat]? = some y) (hm : y ∉ os) : Half xss x (os ++ [y]) k u (j + 1) := by
  have hk := (List.getElem?_eq_some_iff.1 h.2.1).1
  refine ⟨h.1.snoc (by omega) hm ?_, by rw [List.getElem?_append_left hk]; exact h.2.1, fun q r hq hr => ?_⟩
  · rw [← at0_of hy]
    exact (h.1.2.2.1 u (List.mem_of_getElem? h.2.1)).step (List.mem_of_getElem? hp)
  · by_cases e : q = j
    · subst e
      rw [hp] at hr
      cases hr
      rw [at0_of hy]; exact List.mem_append_right _ (List.mem_singleton_self _)
    · exact List.mem_append_left _ (h.2.2 q r (by omega) hr)

set_option maxHeartbeats 1000000 in
theorem orbitOf_c {R : Ending → World → Prop} (d : Nat) (a : Option Addr) (n cap : Nat) (xss : List (List Int)) (x : Int) (w : World) (hm : Mat w a n xss) (hg : Hd (Gens d xss)) (hd20 : d ≤ 20) (hx : Hd (0 ≤ x ∧ x < d))
    (H : ∀ c m capc os w', Hd (os.Nodup ∧ ∀ y, y ∈ os ↔ Reach xss x y) → Below w.heap.size w w' → OwnI w' w.heap.size c m capc os → R (.returned (.slice c m capc)) w') :
    Calls Try.prog 69 #[.slice a n cap, .int .i64 x] w R := by
  have H' := Hd.i H; clear H
  have hln := Hd.i hm.length
  have hle := hm.le
  go_enter Try.func69, Try.ntmps69
  go_wp2
  go_loopw [5, 6] (fun v i wr => ∃ (k : Nat) (c : Option Addr) (m capc : Nat) (os : List Int), k ≤ m ∧ i = .int .i64 k ∧ v = .slice c m capc ∧ OwnI wr w.heap.size c m capc os ∧ Hd (Found xss x os k) ∧ Below w.heap.size w wr) (fun _ i _ => 20 - (intOf i).toNat)
  case atStart => exact ⟨0, _, 1, 1, [x], by omega, rfl, rfl, ⟨Own.lit w [.int .i64 x] _ (by simp) (Nat.le_refl _), by intro u hu; have := hx.o; simp at hu; omega⟩, ⟨by simp, by simp, fun y hy => by simp at hy; subst hy; exact .refl, fun j hj => by omega⟩, (Below.refl _ _).alloc (Nat.le_refl _) _⟩
  case round =>
    obtain ⟨k, c, m, capc, os, hk, rfl, rfl, ho, hf, hb⟩ := hrel
    have hlen := Hd.i ho.length
    have hmd : m ≤ d := by have := hf.o.len hg.o hx.o; have := hlen.o; omega
    by_cases hlt : k < m
    · obtain ⟨u, hu⟩ : ∃ u, Hd (os[k]? = some u) := ⟨_, List.getElem?_eq_getElem (by have := hlen.o; omega)⟩
      have hur := found_range hg.o hx.o hf.o hu.o
      obtain ⟨wo, rfl⟩ : ∃ wo, wo = wr := ⟨wr, rfl⟩
      go_wp2
      go_loopw [5, 7] (fun v i wr => ∃ (j : Nat) (c : Option Addr) (m capc : Nat) (os : List Int), j ≤ n ∧ i = .int .i64 j ∧ v = .slice c m capc ∧ OwnI wr w.heap.size c m capc os ∧ Hd (Half xss x os k u j) ∧ Below w.heap.size w wr) (fun _ i _ => n - (intOf i).toNat)
      case atStart => exact ⟨0, c, m, capc, os, Nat.zero_le _, rfl, rfl, ho, ⟨hf.o, hu.o, fun q p hq => by omega⟩, hb⟩
      case round =>
        clear hu hlt ho hf hb hmd hlen hk
        obtain ⟨j, c, m, capc, os, hj, rfl, rfl, ho, hh, hb⟩ := hrel
        have hlen := Hd.i ho.length
        have hmd : m ≤ d := by have := hh.o.1.len hg.o hx.o; have := hlen.o; omega
        have hkm : k < m := by have := (List.getElem?_eq_some_iff.1 hh.o.2.1).1; have := hlen.o; omega
        by_cases hlt : j < n
        · obtain ⟨b, off, a1, n1, c1, p, rfl, hbb, hcell, hp, hin, _⟩ := (hm.up hb).at hlt
          obtain ⟨g, u', rfl, hgB, hgl, hcu, _, hu'⟩ := ho.look hkm
          obtain rfl : u' = u := Option.some.inj (hu'.o.symm.trans hh.o.2.1)
          clear hu'
          have hpg := Hd.i (hg.o p (List.mem_of_getElem? hp.o))
          have hn1 : n1 = d := by rw [← hin.length]; exact hpg.o.2
          obtain ⟨b2, off2, y, rfl, hb2, hcy, hy, hy1, hy2⟩ := hin.at (k := u'.toNat) (by omega)
          replace hn1 := Hd.i hn1
          have hun : u' < n1 := by have := hn1.o; omega
          have hs := hb.size
          have c1 : (m + 1) * 8 ≤ 140737488355328 := by omega
          have c2 : m + 1 ≤ 281474976710656 := by omega
          have hdr := (Drew.refl wr)
          by_cases hmem : y ∈ os
          · have hcon := Hd.i (show os.contains y = true by simpa using hmem)
            go_wp2
            go_quiet (fail)
            go_wp2_with fail
            refine containsInt_c _ _ _ os y _ (ho.drewN _).ints ?_
            rw [hcon.o]
            go_wp2
            exact ⟨⟨j + 1, _, m, capc, os, by omega, by go_num, rfl, (hdr.step nq).ownI ho, hh.o.old hp.o hy.o hmem, (hdr.step nq).up hb⟩, by simp [intOf]; omega⟩
          · have hcon := Hd.i (show os.contains y = false by simpa using hmem)
            go_wp2
            go_quiet (fail)
            go_wp2_with fail
            refine containsInt_c _ _ _ os y _ (ho.drewN _).ints ?_
            rw [hcon.o]
            replace ho := (hdr.step nq).ownI ho
            replace hb := (hdr.step nq).up hb
            have hs := hb.size
            clear hdr hcell hcu hcy hbb hgl hb2
            generalize wr.drewN nq = w2 at *
            go_wp2_with (at_builtin; refine appendL_c rfl _ _ _ rfl w.heap.size 2 (.int .i64 0) 8 Try.underlying23 infoInt rfl _ _ _ _ rfl ho.1 [.int .i64 y] 1 rfl rfl oneInt c1 c2 hs ?_; intro a2 n2 cap2 w3 hn2 ho2 hg2 ha2)
            exact ⟨⟨j + 1, a2, n2, cap2, os ++ [y], by omega, by go_num, rfl, OwnI.snoc ho2 ho.2 hy1 hy2, hh.o.new hp.o hy.o hmem, ho.grewBelow hg2 hb hs⟩, by simp [intOf]; omega⟩
        · obtain rfl : j = n := by omega
          go_wp2
          refine ⟨⟨k + 1, c, m, capc, os, by omega, by go_num, rfl, ho, ?_, hb⟩, by simp [intOf]; omega⟩
          have := hh.o
          rw [← hln.o] at this
          exact this.next
    · obtain rfl : k = m := by omega
      go_wp2
      exact H'.o _ _ _ os _ (by have := hf.o; rw [← hlen.o] at this; exact this.full) hb ho
end Go.Proofs.Ytiekjklhojmnoaa
