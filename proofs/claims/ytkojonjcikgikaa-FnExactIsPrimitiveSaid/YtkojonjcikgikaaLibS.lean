/- slices.Repeat of one element, slices.Index, slices.Contains: at int64. -/
import Derived.Test.YtkojonjcikgikaaPut
import Derived.Laws.CopyOwn
import Derived.Deep.RegionHeld3
namespace Go.Proofs.Ytkojonjcikgikaa
open Go.RowKit

theorem Own.heapEq {w : World} {B E g n : Nat} {vs : List Value} (h : Own w B E (some ⟨g, 0, none⟩) n n vs) : w.heap[g]? = some (.cells vs.toArray E (0, 0)) := by
  rcases h.2.2.2 with ⟨h5, _⟩ | ⟨g', cap', cur, h5, _, h7, _, _, h10, h11⟩
  · simp at h5
  · simp only [Value.slice.injEq, Option.some.injEq, Addr.mk.injEq, and_true, true_and] at h5
    obtain ⟨rfl, rfl⟩ := h5
    rw [h7]
    have e : cur.toList = vs := by rw [← h11, List.take_of_length_le (by simp; omega)]
    rw [← e]
theorem Own.ofHeap {w : World} {B E g n : Nat} {vs : List Value} (hh : w.heap[g]? = some (.cells vs.toArray E (0, 0))) (hl : vs.length = n) (hn : n ≤ 281474976710656) (hB : B ≤ g) : Own w B E (some ⟨g, 0, none⟩) n n vs := by
  refine ⟨hl, hn, by omega, .inr ⟨g, n, vs.toArray, rfl, hB, hh, Nat.le_refl _, by rw [maxLen_eq]; omega, by simp; omega, ?_⟩⟩
  rw [List.take_of_length_le (by simp; omega)]

theorem splice_rep {k m d : Nat} {x z : Value} : splice (List.replicate k x ++ List.replicate (d - k) z) k (List.replicate m x) = List.replicate (k + m) x ++ List.replicate (d - (k + m)) z := by
  unfold splice
  have e1 : (List.replicate k x ++ List.replicate (d - k) z).take k = List.replicate k x := by rw [List.take_left' (by simp)]
  have e2 : (List.replicate k x ++ List.replicate (d - k) z).drop (k + (List.replicate m x).length) = List.replicate (d - (k + m)) z := by
    rw [List.drop_append, List.drop_of_length_le (by simp), List.nil_append, List.length_replicate, List.drop_replicate]
    congr 1
    simp
    omega
  rw [e1, e2, ← List.append_assoc, List.replicate_append_replicate]

end Go.Proofs.Ytkojonjcikgikaa
