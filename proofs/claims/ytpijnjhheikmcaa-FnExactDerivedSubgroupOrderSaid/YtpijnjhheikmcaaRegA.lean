/- Tools for regions that draw their order: append at a step; cells that stand. -/
import Derived.Test.YtpijnjhheikmcaaGrid
import Derived.Test.YtpijnjhheikmcaaPut
import Derived.Deep.RegionLaw
import Derived.Deep.RegionHeld3
namespace Go.Proofs.Ytpijnjhheikmcaa
open Go.RowKit

theorem Grew.after_drew {a : Option Addr} {w w' : World} (h : Grew a w.drew w') : Grew a w w' := ⟨h.os, h.tape, h.output, h.size, h.block⟩
theorem Grew.cell_far {a : Option Addr} {w w' : World} (h : Grew a w w') {p : Addr} {v : Value} (hv : w.cell? p = some v) (hne : ¬ fpI a p.block) : w'.cell? p = some v := by
  rw [← hv]; exact World.cell?_of_block (h.block _ (World.block_lt_of_cell? w p hv) fun off s e => hne ⟨off, s, e⟩)
theorem Grew.frozen_far {a : Option Addr} {w w' : World} (h : Grew a w w') {p : Addr} (hl : p.block < w.heap.size) (hne : ¬ fpI a p.block) : w'.frozen? p = w.frozen? p :=
  World.frozen?_of_block (h.block _ hl fun off s e => hne ⟨off, s, e⟩)
theorem le_on {w0 w1 : World} {b : Nat} (h : Below w0.heap.size w0 w1) (hb : w1.heap.size ≤ b) : w0.heap.size ≤ b := Nat.le_trans h.size hb
theorem below_on {w0 w1 w2 : World} (h : Below w0.heap.size w0 w1) (k : Below w1.heap.size w1 w2) : Below w0.heap.size w0 w2 := below_ups h k h.size
/-- append at a step of a region that draws. -/
theorem step_appendL {P : Program} {ops : Array Oper} {o : Oper} {a : Act} {w : World} {K : Act → World → Prop} {Q : Exit → Act → World → Prop} {F : Prop} (hgd : o.guard = none) (s x : Operand) (t : TypeId)
    (ho : o.op = .call { callee := .builtin .append, args := #[s, x], argTypes := #[t, t] })
    (B : Nat) (E : TypeId) (z : Value) (bytes : Nat) (ht : P.underlying t = some (.slice E)) (hinfo : (P.info? E).map (fun i => (i.zero, i.size, i.bytes)) = some (some z, 1, bytes)) (hz : z.cells.size = 1)
    (ad : Option Addr) (n cap : Nat) (vs : List Value) (hs : a.eval s = .slice ad n cap) (hown : Own w B E ad n cap vs) (ad2 : Option Addr) (m c : Nat) (news : List Value) (hx : a.eval x = .slice ad2 m c) (hsrc : Vals w ad2 m news)
    (h1 : ∀ u ∈ news, u.oneCell' = true) (hbytes : (n + m) * bytes ≤ 140737488355328) (h48 : n + m ≤ 281474976710656) (hB : B ≤ w.heap.size)
    (h : ∀ a' n' cap' w', Hd (n' = n + m) → Own w' B E a' n' cap' (vs ++ news) → Grew ad w w' → Hd (a' = ad ∨ a' = some ⟨w.heap.size, 0, none⟩) → K (a.put o.dst (.slice a' n' cap')) w') :
    if Region.wanted o (yielded ops a.tmps) = true then Oper.wp P o a w K Q else F := by
  have hw : Region.wanted o (yielded ops a.tmps) = true := by simp [Region.wanted, hgd]
  rw [if_pos hw]
  obtain ⟨a', cap', w', hr, h2, h3, h4⟩ := run_append2 (P := P) w B t o.type E z bytes ht hinfo hz ad n cap vs hown ad2 m c news hsrc h1 hbytes h48 hB
  unfold Oper.wp execOp
  simp only [ho, resolve, invoke, builtin, Sem.run_bind, Sem.run_pure, Result.andThen_ok, List.map_toArray, List.map_cons, List.map_nil, hs, hx, hr]
  exact h a' (n + m) cap' w' rfl h2 h3 h4


theorem Grew.after_drewR {a : Option Addr} {w w' : World} (h : Grew a w.drew w') : Grew a w w' := ⟨h.os, h.tape, h.output, h.size, h.block⟩
theorem keep5 {w w' : World} {p1 p2 p3 p4 p5 : Addr} {v1 v2 v3 v4 v5 : Value} (h1 : w.cell? p1 = some v1) (h2 : w.cell? p2 = some v2) (h3 : w.cell? p3 = some v3) (h4 : w.cell? p4 = some v4) (h5 : w.cell? p5 = some v5) (hb : Below w.heap.size w w') :
    w'.cell? p1 = some v1 ∧ w'.cell? p2 = some v2 ∧ w'.cell? p3 = some v3 ∧ w'.cell? p4 = some v4 ∧ w'.cell? p5 = some v5 := ⟨keep1 h1 hb, keep1 h2 hb, keep1 h3 hb, keep1 h4 hb, keep1 h5 hb⟩
/-- Behind an append onto a row that lies from the world wo on: the cells of wo. -/
theorem far1 {c : Option Addr} {wo w w' : World} (hg : Grew c w w') (hc : ∀ b off s, c = some ⟨b, off, s⟩ → wo.heap.size ≤ b) {p : Addr} {v u : Value} (h0 : wo.cell? p = some u) (h : w.cell? p = some v) : w'.cell? p = some v :=
  hg.cell_far h fun ⟨o, s, e⟩ => by have := hc _ o s e; have := World.block_lt_of_cell? wo p h0; omega
theorem far5 {c : Option Addr} {wo w w' : World} (hg : Grew c w w') (hc : ∀ b off s, c = some ⟨b, off, s⟩ → wo.heap.size ≤ b) {p1 p2 p3 p4 p5 : Addr} {v1 v2 v3 v4 v5 u1 u2 u3 u4 u5 : Value} (g1 : wo.cell? p1 = some u1) (g2 : wo.cell? p2 = some u2) (g3 : wo.cell? p3 = some u3) (g4 : wo.cell? p4 = some u4) (g5 : wo.cell? p5 = some u5)
    (h : w.cell? p1 = some v1 ∧ w.cell? p2 = some v2 ∧ w.cell? p3 = some v3 ∧ w.cell? p4 = some v4 ∧ w.cell? p5 = some v5) :
    w'.cell? p1 = some v1 ∧ w'.cell? p2 = some v2 ∧ w'.cell? p3 = some v3 ∧ w'.cell? p4 = some v4 ∧ w'.cell? p5 = some v5 := ⟨far1 hg hc g1 h.1, far1 hg hc g2 h.2.1, far1 hg hc g3 h.2.2.1, far1 hg hc g4 h.2.2.2.1, far1 hg hc g5 h.2.2.2.2⟩
end Go.Proofs.Ytpijnjhheikmcaa
