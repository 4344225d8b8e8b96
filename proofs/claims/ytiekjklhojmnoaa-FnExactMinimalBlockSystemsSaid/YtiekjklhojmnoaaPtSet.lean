/- Strictly increasing lists of points: the reference's test. -/
import Derived.Test.YtiekjklhojmnoaaPureStab
import Derived.Test.YtiekjklhojmnoaaOrbitS
namespace Go.Proofs.Ytiekjklhojmnoaa
open Go.RowKit

theorem PtSet.nil (d : Nat) : PtSet d [] := ⟨.nil, by simp⟩
theorem PtSet.snoc {d : Nat} {ps : List Int} {i : Nat} {x : Int} (h : PtSet d (ps.take i)) (hx : ps[i]? = some x) (hr : 0 ≤ x ∧ x < (d : Int)) (hl : ∀ y, 0 < i → ps[i - 1]? = some y → y < x) : PtSet d (ps.take (i + 1)) := by
  rw [take_succ_some hx]
  refine ⟨List.pairwise_append.2 ⟨h.1, List.pairwise_singleton _ _, fun a ha b hb => ?_⟩, fun y hy => ?_⟩
  · obtain rfl := List.mem_singleton.1 hb
    obtain ⟨j, hj, e⟩ := List.mem_iff_getElem.1 ha
    have hj' : j < i := by rw [List.length_take] at hj; omega
    have hin : i < ps.length := (List.getElem?_eq_some_iff.1 hx).1
    have hi1 : ps[i - 1]? = some ps[i - 1] := List.getElem?_eq_getElem (by omega)
    have hlast := hl _ (by omega) hi1
    have e' : ps[j]'(by omega) = a := by rw [← e, List.getElem_take]
    by_cases hji : j = i - 1
    · subst hji; rw [← e']; exact hlast
    · have h1 := List.pairwise_iff_getElem.1 h.1 j (i - 1) hj (by rw [List.length_take]; omega) (by omega)
      rw [List.getElem_take, List.getElem_take, e'] at h1
      omega
  · rcases List.mem_append.1 hy with hy | hy
    · exact h.2 y hy
    · obtain rfl := List.mem_singleton.1 hy; exact hr
theorem PtSet.lt {d : Nat} {ps : List Int} (h : PtSet d ps) {i : Nat} {x y : Int} (hi : 0 < i) (hy : ps[i - 1]? = some y) (hx : ps[i]? = some x) : y < x := by
  obtain ⟨h1, e1⟩ := List.getElem?_eq_some_iff.1 hy
  obtain ⟨h2, e2⟩ := List.getElem?_eq_some_iff.1 hx
  have := List.pairwise_iff_getElem.1 h.1 (i - 1) i h1 h2 (by omega)
  rwa [e1, e2] at this

open Classical in
noncomputable def ptB (d : Nat) (ps : List Int) : Bool := decide (PtSet d ps)
open Classical in
theorem ptB_true {d : Nat} {ps : List Int} (h : PtSet d ps) : ptB d ps = true := by unfold ptB; exact decide_eq_true h
open Classical in
theorem ptB_false {d : Nat} {ps : List Int} (h : ¬ PtSet d ps) : ptB d ps = false := by unfold ptB; exact decide_eq_false h

set_option maxHeartbeats 2000000 in
theorem specPtSet_c {K : Ending → World → Prop} (d : Nat) (a : Option Addr) (n cap : Nat) (ps : List Int) (w : World) (h1 : 1 ≤ d) (h2 : d ≤ 20) (hp : Ints w a n ps) (H : Reads K w (.bool (ptB d ps))) :
    Calls Try.prog 106 #[.int .i64 d, .slice a n cap] w K := by
  have H' := Hd.i H; clear H
  have hln := Hd.i hp.length
  have hle := hp.le
  by_cases hnd : n ≤ d
  · have hdn : decide (d < n) = false := decide_eq_false (by omega)
    go_enter Try.func106, Try.ntmps106
    go_wp2
    go_loopw [5] (fun iv wr => ∃ i : Nat, i ≤ n ∧ iv = .int .i64 i ∧ Hd (PtSet d (ps.take i)) ∧ Drew w wr) (fun iv _ => n - (intOf iv).toNat)
    case atStart => exact ⟨0, Nat.zero_le _, rfl, .nil _, Drew.refl _⟩
    case round =>
      obtain ⟨i, hi, rfl, hps, hdr⟩ := hrel
      by_cases hlt : i < n
      · obtain ⟨b, off, x, rfl, hbb, hcell, hx, hx1, hx2⟩ := (hdr.ints hp).at hlt
        by_cases hpt : 0 ≤ x ∧ x < (d : Int)
        · have hdec := Hd.i (decide_eq_true hpt)
          by_cases hi0 : i = 0
          · subst hi0
            have hnx := Hd.i (hps.o.snoc hx.o hpt (fun y h => by omega))
            have hcell0 : wr.cell? ⟨b, off, none⟩ = some (.int .i64 x) := by simpa using hcell
            replace hpt := Hd.i hpt
            clear hcell
            go_wp2
            go_quiet ((go_at_call 59; exact Calls.quiet_of_same (specPoint_c d x _ h1 h2 ⟨by rw [hdec.o], rfl⟩)))
            go_wp2
            exact ⟨⟨1, by omega, by go_num, hnx.o, hdr.step _⟩, by simp [intOf]; omega⟩
          · obtain ⟨b', off', y, e', _, hcy, hy, hy1, hy2⟩ := (hdr.ints hp).at (k := i - 1) (by omega)
            cases e'
            have hip := Hd.i (show 0 < i by omega)
            have q1 : decide (0 < i) = true := decide_eq_true (by omega)
            have q2 : IntKind.i64.wrap ((i : Int) - 1) = (i : Int) - 1 := IntWalk.i64_in _ (by omega)
            have q3 : 0 ≤ (i : Int) - 1 := by omega
            have q4 : ((i : Int) - 1).toNat = i - 1 := by omega
            have q5 : (i : Int) - 1 < n := by omega
            by_cases hyx : x ≤ y
            · have hf := Hd.i (ptB_false (d := d) (ps := ps) fun h => by have := h.lt hip.o hy.o hx.o; omega)
              have hlq : decide (x ≤ y) = true := decide_eq_true hyx
              replace hpt := Hd.i hpt
              go_wp2
              go_quiet ((go_at_call 59; exact Calls.quiet_of_same (specPoint_c d x _ h1 h2 ⟨by rw [hdec.o], rfl⟩)))
              clear q2 q3 q4 q5
              go_wp2
              exact retB (H'.o _ (hdr.step _)) hf.o
            · have hnx := Hd.i (hps.o.snoc hx.o hpt (fun y' h e => by have h2 := hy.o; rw [e] at h2; cases h2; omega))
              have hlq : decide (x ≤ y) = false := decide_eq_false hyx
              replace hpt := Hd.i hpt
              go_wp2
              go_quiet ((go_at_call 59; exact Calls.quiet_of_same (specPoint_c d x _ h1 h2 ⟨by rw [hdec.o], rfl⟩)))
              clear q1 q2 q3 q4 q5 hlq hcy hy1 hy2
              go_wp2
              exact ⟨⟨i + 1, by omega, by go_num, hnx.o, hdr.step _⟩, by simp [intOf]; omega⟩
        · have hdec := Hd.i (decide_eq_false hpt)
          have hf := Hd.i (ptB_false (d := d) (ps := ps) fun h => hpt (h.2 x (List.mem_of_getElem? hx.o)))
          replace hpt := Hd.i hpt
          go_wp2
          go_quiet ((go_at_call 59; exact Calls.quiet_of_same (specPoint_c d x _ h1 h2 ⟨by rw [hdec.o], rfl⟩)))
          go_wp2
          exact retB (H'.o _ (hdr.step _)) hf.o
      · obtain rfl : i = n := by omega
        have ht := Hd.i (ptB_true (d := d) (ps := ps) (by have := hps.o; rwa [List.take_of_length_le (by have := hln.o; omega)] at this))
        go_wp2
        exact retB (H'.o _ hdr) ht.o
  · have hf := Hd.i (ptB_false (d := d) (ps := ps) fun h => by have := h.length_le; have := hln.o; omega)
    go_enter Try.func106, Try.ntmps106
    go_wp2
    exact retB (H'.o _ (Drew.refl _)) hf.o
end Go.Proofs.Ytiekjklhojmnoaa
