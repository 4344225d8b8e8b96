/- Stores into a row of int64s of the call's own; points. -/
import Derived.Test.YtpijnjhheikmcaaBase
import Derived.Test.YtpijnjhheikmcaaApp
namespace Go.Proofs.Ytpijnjhheikmcaa
open Go.RowKit

theorem OwnI.put {w : World} {B g n cap k : Nat} {xs : List Int} {x : Int} (h : OwnI w B (some ⟨g, 0, none⟩) n cap xs) (h0 : -9223372036854775808 ≤ x) (h1 : x ≤ 9223372036854775807) : OwnI (w.setCell ⟨g, k, none⟩ (.int .i64 x)) B (some ⟨g, 0, none⟩) n cap (xs.set k x) := by
  refine ⟨?_, fun y hy => ?_⟩
  · have := h.1.store (k := k) (.int .i64 x)
    rwa [← List.map_set] at this
  · rcases List.mem_or_eq_of_mem_set hy with hy | rfl
    · exact h.2 y hy
    · exact ⟨h0, h1⟩
theorem OwnI.at' {w : World} {B g n cap k : Nat} {xs : List Int} (h : OwnI w B (some ⟨g, 0, none⟩) n cap xs) (hk : k < n) :
    ∃ x, w.cell? ⟨g, k, none⟩ = some (.int .i64 x) ∧ w.frozen? ⟨g, k, none⟩ = false ∧ Hd (xs[k]? = some x) ∧ -9223372036854775808 ≤ x ∧ x ≤ 9223372036854775807 := by
  obtain ⟨g', x, e, _, _, h1, h2, h3⟩ := h.look hk
  cases e
  have := h.2 x (List.mem_of_getElem? h3.o)
  exact ⟨x, h1, h2, h3, this.1, this.2⟩
/-- make([]int64, n). -/
theorem makeI (w : World) (n : Nat) (hn : n ≤ 1000000) :
    ∃ w1, (Instr.makeSlice 23 (.int .i64 n) (.int .i64 n)).run Try.prog w = .ok (.slice (some ⟨w.heap.size, 0, none⟩) n n) w1 ∧ Hd (w1.heap.size = w.heap.size + 1) ∧ Below w.heap.size w w1 ∧
      OwnI w1 w.heap.size (some ⟨w.heap.size, 0, none⟩) n n (List.replicate n 0) := by
  obtain ⟨w1, h1, h2, h3, h4⟩ := make_own w 23 2 (.int .i64 0) 8 Try.underlying23 infoInt rfl n (by omega) (by omega)
  exact ⟨w1, h1, h2, h3, by simpa using h4, fun x hx => by rw [List.mem_replicate] at hx; omega⟩
theorem keep1 {w w' : World} {p : Addr} {v : Value} (hp : w.cell? p = some v) (hb : Below w.heap.size w w') : w'.cell? p = some v := (hb.cell (p := p) (World.block_lt_of_cell? w p hp)).trans hp
theorem replicate_snoc {α : Type} (k : Nat) (a : α) : List.replicate k a ++ [a] = List.replicate (k + 1) a := by rw [List.replicate_succ']
end Go.Proofs.Ytpijnjhheikmcaa
