/- append: what the old row read, its old block still reads. -/
import Derived.Test.YtpijnjhheikmcaaRegA
namespace Go.Proofs.Ytpijnjhheikmcaa
open Go.RowKit

theorem run_append3 {P : Program} (w : World) (B : Nat) (t ty E : TypeId) (z : Value) (bytes : Nat) (ht : P.underlying t = some (.slice E))
    (hinfo : (P.info? E).map (fun i => (i.zero, i.size, i.bytes)) = some (some z, 1, bytes)) (hz : z.cells.size = 1)
    (b0 : Nat) (n cap : Nat) (vs : List Value) (hown : Own w B E (some ⟨b0, 0, none⟩) n cap vs) (ad : Option Addr) (m c : Nat) (news : List Value) (hm : 0 < m) (hsrc : Vals w ad m news) (h1 : ∀ u ∈ news, u.oneCell' = true)
    (hbytes : (n + m) * bytes ≤ 140737488355328) (h48 : n + m ≤ 281474976710656) (hB : B ≤ w.heap.size) :
    ∃ a' cap' w', (Builtin.append_ #[t, t] ty #[.slice (some ⟨b0, 0, none⟩) n cap, .slice ad m c]).run P w = .ok (.slice a' (n + m) cap') w' ∧ Own w' B E a' (n + m) cap' (vs ++ news) ∧ Grew (some ⟨b0, 0, none⟩) w w' ∧
      (a' = some ⟨b0, 0, none⟩ ∨ a' = some ⟨w.heap.size, 0, none⟩) ∧ ∀ i v, vs[i]? = some v → w'.cell? ⟨b0, i, none⟩ = some v := by
  obtain ⟨a', cap', w', hr, h2, h3, h4⟩ := run_append2 (P := P) w B t ty E z bytes ht hinfo hz (some ⟨b0, 0, none⟩) n cap vs hown ad m c news hsrc h1 hbytes h48 hB
  refine ⟨a', cap', w', hr, h2, h3, h4, ?_⟩
  obtain ⟨i, hi, hz0, hz1, hz2⟩ := info_parts hinfo
  have hvl := hown.length
  have hnl := hsrc.length
  obtain ⟨b, off, v0, rfl, _, _, _⟩ := hsrc.at (k := 0) (by omega)
  have hcells := hsrc.cells
  have hl1 : news.length = m * i.size := by rw [hz1]; omega
  have hvc : ∀ j v, vs[j]? = some v → w.cell? ⟨b0, j, none⟩ = some v := fun j v hv => by
    have := hown.vals.cells j v hv
    simpa [Addr.add_lit] using this
  intro j v hv
  have hjl := (List.getElem?_eq_some_iff.1 hv).1
  rcases hown.addr with ⟨h, _, _⟩ | ⟨g, e, hBg, hg, hnc, hcm⟩
  · simp at h
  cases e
  by_cases hroom : n + m ≤ cap
  · rcases hown.2.2.2 with ⟨h, _⟩ | ⟨g', cap', cur, h, _, hgh, _, _, hcs, _⟩
    · simp at h
    · simp only [Value.slice.injEq, Option.some.injEq, Addr.mk.injEq, and_true, true_and] at h
      obtain ⟨rfl, rfl⟩ := h
      have h := run_append_room (P := P) w t ty E i ht hi b0 n cap cur hgh ⟨b, off, none⟩ m c news hl1 hcells h1 hroom (by rw [hz1, hcs]; omega)
      rw [h] at hr
      cases hr
      have hq := h2.vals.cells j v (by rw [List.getElem?_append_left hjl]; exact hv)
      simpa [Addr.add_lit] using hq
  · have h := run_append_grow (P := P) w t ty E i z ht hi hz0 ⟨b0, 0, none⟩ n cap vs (by rw [hz1]; omega) (by
        intro j v hv
        exact hown.vals.cells j v hv) ⟨b, off, none⟩ m c news hl1 hcells (by omega) (by omega) (by rw [hz2]; exact growslice_fits (by omega) hbytes)
    rw [h] at hr
    cases hr
    exact keep1 (hvc j v hv) ((Drew.refl w).one.below w.heap.size |>.alloc (Nat.le_refl _) _)

theorem step_appendK {P : Program} {ops : Array Oper} {o : Oper} {a : Act} {w : World} {K : Act → World → Prop} {Q : Exit → Act → World → Prop} {F : Prop} (hgd : o.guard = none) (s x : Operand) (t : TypeId)
    (ho : o.op = .call { callee := .builtin .append, args := #[s, x], argTypes := #[t, t] })
    (B : Nat) (E : TypeId) (z : Value) (bytes : Nat) (ht : P.underlying t = some (.slice E)) (hinfo : (P.info? E).map (fun i => (i.zero, i.size, i.bytes)) = some (some z, 1, bytes)) (hz : z.cells.size = 1)
    (b0 : Nat) (n cap : Nat) (vs : List Value) (hs : a.eval s = .slice (some ⟨b0, 0, none⟩) n cap) (hown : Own w B E (some ⟨b0, 0, none⟩) n cap vs) (ad2 : Option Addr) (m c : Nat) (news : List Value) (hx : a.eval x = .slice ad2 m c) (hm : 0 < m) (hsrc : Vals w ad2 m news)
    (h1 : ∀ u ∈ news, u.oneCell' = true) (hbytes : (n + m) * bytes ≤ 140737488355328) (h48 : n + m ≤ 281474976710656) (hB : B ≤ w.heap.size)
    (h : ∀ a' n' cap' w', Hd (n' = n + m) → Own w' B E a' n' cap' (vs ++ news) → Grew (some ⟨b0, 0, none⟩) w w' → Hd (a' = some ⟨b0, 0, none⟩ ∨ a' = some ⟨w.heap.size, 0, none⟩) → (∀ i v, vs[i]? = some v → w'.cell? ⟨b0, i, none⟩ = some v) → K (a.put o.dst (.slice a' n' cap')) w') :
    if Region.wanted o (yielded ops a.tmps) = true then Oper.wp P o a w K Q else F := by
  have hw : Region.wanted o (yielded ops a.tmps) = true := by simp [Region.wanted, hgd]
  rw [if_pos hw]
  obtain ⟨a', cap', w', hr, h2, h3, h4, h5⟩ := run_append3 (P := P) w B t o.type E z bytes ht hinfo hz b0 n cap vs hown ad2 m c news hm hsrc h1 hbytes h48 hB
  unfold Oper.wp execOp
  simp only [ho, resolve, invoke, builtin, Sem.run_bind, Sem.run_pure, Result.andThen_ok, List.map_toArray, List.map_cons, List.map_nil, hs, hx, hr]
  exact h a' (n + m) cap' w' rfl h2 h3 h4 h5
end Go.Proofs.Ytpijnjhheikmcaa
