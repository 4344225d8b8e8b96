/- A queue of pairs, each in two cells; append onto it. The square of what has been seen. -/
import Derived.Test.YtiekjklhojmnoaaPurePair
import Derived.Test.YtiekjklhojmnoaaQue
namespace Go.Proofs.Ytiekjklhojmnoaa
open Go.RowKit

/-- The slice (a, n) of the capacity cap: the pairs of the numbers vs; the rest of a row of the call's own, from block B on. -/
structure PQAt (d : Nat) (w : World) (B g off n cap : Nat) (vs : List Int) : Prop where
  ge : B ≤ g
  lt : g < w.heap.size
  le : n ≤ cap
  len : vs.length = n
  cell : ∀ (j : Nat) (v : Int), vs[j]? = some v → w.cell? ⟨g, off + 2 * j, none⟩ = some (.int .i64 (v / d)) ∧ w.cell? ⟨g, off + 2 * j + 1, none⟩ = some (.int .i64 (v % d))
  room : ∀ j, j < cap * 2 → (w.cell? ⟨g, off + j, none⟩).isSome = true
  free : ∀ k, w.frozen? ⟨g, k, none⟩ = false
def PQ (d : Nat) (w : World) (B : Nat) (a : Option Addr) (n cap : Nat) (vs : List Int) : Prop := ∃ g off, a = some ⟨g, off, none⟩ ∧ PQAt d w B g off n cap vs
section
variable {d B g off n cap : Nat} {vs : List Int} {w w' : World} {a : Option Addr}
theorem PQAt.of_heap (h : PQAt d w B g off n cap vs) (hb : w'.heap[g]? = w.heap[g]?) : PQAt d w' B g off n cap vs := by
  have hc : ∀ k, w'.cell? ⟨g, k, none⟩ = w.cell? ⟨g, k, none⟩ := fun k => World.cell?_of_block (a := ⟨g, k, none⟩) hb
  refine ⟨h.ge, ?_, h.le, h.len, fun j v e => by rw [hc, hc]; exact h.cell j v e, fun j hj => by rw [hc]; exact h.room j hj, fun k => by rw [World.frozen?_of_block (a := ⟨g, k, none⟩) hb]; exact h.free k⟩
  have h1 : w.heap[g]? = some (w.heap[g]'h.lt) := Array.getElem?_eq_getElem h.lt
  rw [← hb] at h1
  exact (Array.getElem?_eq_some_iff.1 h1).1
theorem PQ.length (h : PQ d w B a n cap vs) : vs.length = n := by obtain ⟨_, _, _, h⟩ := h; exact h.len
theorem PQ.le (h : PQ d w B a n cap vs) : n ≤ cap := by obtain ⟨_, _, _, h⟩ := h; exact h.le
theorem PQ.lt (h : PQ d w B a n cap vs) {b o : Nat} {s : Option Nat} (ha : a = some ⟨b, o, s⟩) : B ≤ b ∧ b < w.heap.size := by
  obtain ⟨g, off, e, h⟩ := h
  rw [ha] at e
  cases e
  exact ⟨h.ge, h.lt⟩
theorem PQ.of_heap (h : PQ d w B a n cap vs) (hb : ∀ b o s, a = some ⟨b, o, s⟩ → w'.heap[b]? = w.heap[b]?) : PQ d w' B a n cap vs := by
  obtain ⟨g, off, e, h⟩ := h
  exact ⟨g, off, e, h.of_heap (hb _ _ _ e)⟩
theorem PQ.up (h : PQ d w B a n cap vs) (hb : Below w.heap.size w w') : PQ d w' B a n cap vs := h.of_heap fun _ _ _ ha => hb.block _ (h.lt ha).2
theorem PQ.drewN (h : PQ d w B a n cap vs) (m : Nat) : PQ d (w.drewN m) B a n cap vs := h.of_heap fun _ _ _ _ => rfl
theorem PQ.drewW (hd : Drew w w') (h : PQ d w B a n cap vs) : PQ d w' B a n cap vs := by obtain ⟨m, rfl⟩ := hd; exact h.drewN m
theorem PQ.store_other (h : PQ d w B a n cap vs) {g' : Nat} (hg : g' < B) (k : Nat) (u : Value) : PQ d (w.setCell ⟨g', k, none⟩ u) B a n cap vs :=
  h.of_heap fun b o s ha => heap_store w g' k b u (by have := (h.lt ha).1; omega)
theorem PQ.first (h : PQ d w B a n cap vs) (hn : 0 < n) : ∃ g off v, a = some ⟨g, off, none⟩ ∧ B ≤ g ∧ g < w.heap.size ∧ w.cell? ⟨g, off, none⟩ = some (.int .i64 (v / d)) ∧ w.cell? ⟨g, off + 1, none⟩ = some (.int .i64 (v % d)) ∧ Hd (vs[0]? = some v) := by
  obtain ⟨g, off, e, h⟩ := h
  have hv : vs[0]? = some (vs[0]'(by have := h.len; omega)) := List.getElem?_eq_getElem (by have := h.len; omega)
  have hc := h.cell 0 _ hv
  exact ⟨g, off, _, e, h.ge, h.lt, hc.1, hc.2, hv⟩
theorem PQ.pop {o : Nat} {v : Int} (h : PQ d w B (some ⟨g, o, none⟩) n cap (v :: vs)) : PQ d w B (some ⟨g, o + 2, none⟩) (n - 1) (cap - 1) vs := by
  obtain ⟨g', off, e, h⟩ := h
  cases e
  have hl := h.len
  have hle := h.le
  simp at hl
  refine ⟨g, o + 2, rfl, h.ge, h.lt, by omega, by omega, fun j u hu => ?_, fun j hj => ?_, h.free⟩
  · have := h.cell (j + 1) u (by simpa using hu)
    rw [show o + 2 * (j + 1) = o + 2 + 2 * j by omega] at this
    exact this
  · have := h.room (j + 2) (by omega)
    rw [show o + (j + 2) = o + 2 + j by omega] at this
    exact this
theorem frozen_new (w : World) (cs : Array Value) (E : TypeId) (k : Nat) : (w.alloc (.cells cs E)).frozen? ⟨w.heap.size, k, none⟩ = false := by
  unfold World.frozen?
  rw [heap_alloc_new]
  simp
theorem PQ.lit (w : World) (x y : Nat) (E : TypeId) (hB : B ≤ w.heap.size) (hy : y < d) : PQ d (w.alloc (.cells #[.int .i64 (x : Int), .int .i64 (y : Int)] E)) B (some ⟨w.heap.size, 0, none⟩) 1 1 [((x * d + y : Nat) : Int)] := by
  have hd : 0 < d := by omega
  refine ⟨w.heap.size, 0, rfl, hB, by simp, by omega, rfl, fun j v e => ?_, fun j hj => ?_, fun k => frozen_new w _ _ k⟩
  · have hj : j = 0 := by have := (List.getElem?_eq_some_iff.1 e).1; simpa using this
    subst hj
    simp at e
    subst e
    rw [World.cell?_alloc_at _ _ _ _ rfl, World.cell?_alloc_at _ _ _ _ rfl]
    have e1 : ((x * d + y : Nat) : Int) / (d : Int) = (x : Int) := by
      have : (x * d + y) / d = x := by rw [Nat.mul_comm, Nat.mul_add_div hd, Nat.div_eq_of_lt hy]; rfl
      exact_mod_cast this
    have e2 : ((x * d + y : Nat) : Int) % (d : Int) = (y : Int) := by
      have : (x * d + y) % d = y := by rw [Nat.mul_comm, Nat.mul_add_mod, Nat.mod_eq_of_lt hy]
      exact_mod_cast this
    have e1' : ((x : Int) * (d : Int) + (y : Int)) / (d : Int) = (x : Int) := by have := e1; push_cast at this; exact this
    have e2' : ((x : Int) * (d : Int) + (y : Int)) % (d : Int) = (y : Int) := by have := e2; push_cast at this; exact this
    simp [e1', e2']
  · rw [World.cell?_alloc_at _ _ _ _ rfl]
    have : j = 0 ∨ j = 1 := by omega
    rcases this with rfl | rfl <;> simp

/-- One pair is appended: it lies in a block of its own. -/
theorem run_appendP {P : Program} (w : World) (B : Nat) (t ty E : TypeId) (z : Value) (bytes : Nat) (ht : P.underlying t = some (.slice E))
    (hinfo : (P.info? E).map (fun i => (i.zero, i.size, i.bytes)) = some (some z, 2, bytes)) (hz : z.cells.size = 2)
    (a : Option Addr) (n cap : Nat) (vs : List Int) (hown : PQ d w B a n cap vs) (b : Nat) (v : Int) (h1 : w.cell? ⟨b, 0, none⟩ = some (.int .i64 (v / d))) (h2 : w.cell? ⟨b, 1, none⟩ = some (.int .i64 (v % d)))
    (hbytes : (n + 1) * bytes ≤ 140737488355328) (hcap : n + 1 ≤ 281474976710656) (hB : B ≤ w.heap.size) :
    ∃ a' cap' w', (Builtin.append_ #[t, t] ty #[.slice a n cap, .slice (some ⟨b, 0, none⟩) 1 1]).run P w = .ok (.slice a' (n + 1) cap') w' ∧ PQ d w' B a' (n + 1) cap' (vs ++ [v]) ∧ Grew a w w' := by
  obtain ⟨g, off, rfl, ho⟩ := hown
  obtain ⟨i, hi, hz0, hz1, hz2⟩ := info_parts hinfo
  have hl := ho.len
  have hnews : ∀ (j : Nat) (u : Value), [Value.int .i64 (v / d), Value.int .i64 (v % d)][j]? = some u → w.cell? ((⟨b, 0, none⟩ : Addr).add j) = some u := by
    intro j u hj
    rw [addr_add_lit, Nat.zero_add]
    match j, hj with
    | 0, hj => simp at hj; subst hj; exact h1
    | 1, hj => simp at hj; subst hj; exact h2
  have hone : ∀ u ∈ [Value.int .i64 (v / d), Value.int .i64 (v % d)], u.oneCell' = true := by intro u hu; simp at hu; rcases hu with rfl | rfl <;> rfl
  by_cases hroom : n + 1 ≤ cap
  · have hs : Src P i.size t (.slice (some ⟨b, 0, none⟩) 1 1) 1 [Value.int .i64 (v / d), Value.int .i64 (v % d)] w := Src.ofSlice w ht _ _ _ _ (by rw [hz1]; rfl) hnews hone
    have hr := run_append_room_src (P := P) w t t ty E i ht hi g off n cap _ 1 _ hs hroom (fun j hj => by
      have := ho.room (n * 2 + j) (by simp at hj; omega)
      rw [hz1, Nat.add_assoc]
      exact this) (fun j _ => ho.free _)
    rw [hz1] at hr
    refine ⟨_, _, _, hr, ⟨g, off, rfl, ho.ge, ?_, hroom, by simp [hl], fun j u hu => ?_, fun j hj => ?_, fun k => ?_⟩, ?_⟩
    · show g < ((w.setCell _ _).setCell _ _).heap.size
      rw [size_store, size_store]; exact ho.lt
    · by_cases hj : j < n
      · rw [List.getElem?_append_left (by omega)] at hu
        have := ho.cell j u hu
        rw [World.cell?_setCells_out g _ _ w ⟨g, off + 2 * j, none⟩ (fun _ _ => .inl (by show off + 2 * j < off + n * 2; omega)), World.cell?_setCells_out g _ _ w ⟨g, off + 2 * j + 1, none⟩ (fun _ _ => .inl (by show off + 2 * j + 1 < off + n * 2; omega))]
        exact this
      · have hjn : j = n := by have := (List.getElem?_eq_some_iff.1 hu).1; simp at this; omega
        subst hjn
        rw [List.getElem?_append_right (by omega), hl, Nat.sub_self] at hu
        simp at hu
        subst hu
        have hin := World.cell?_setCells_in g [Value.int .i64 (v / d), Value.int .i64 (v % d)] (off + j * 2) w (fun j' hj' => by
          have := ho.room (j * 2 + j') (by simp at hj'; omega)
          rw [Nat.add_assoc]
          exact this)
        have hi0 := hin 0 (by simp)
        have hi1 := hin 1 (by simp)
        rw [show off + j * 2 + 0 = off + 2 * j by omega] at hi0
        rw [show off + j * 2 + 1 = off + 2 * j + 1 by omega] at hi1
        exact ⟨hi0, hi1⟩
    · by_cases hin : n * 2 ≤ j ∧ j < n * 2 + 2
      · have h := World.cell?_setCells_in g [Value.int .i64 (v / d), Value.int .i64 (v % d)] (off + n * 2) w (fun j' hj' => by
          have := ho.room (n * 2 + j') (by simp at hj'; omega)
          rw [Nat.add_assoc]
          exact this) (j - n * 2) (by simp; omega)
        rw [show off + n * 2 + (j - n * 2) = off + j by omega] at h
        rw [h]; rfl
      · rw [World.cell?_setCells_out g _ _ w ⟨g, off + j, none⟩ (fun _ _ => by
          by_cases h : j < n * 2
          · exact .inl (by show off + j < off + n * 2; omega)
          · exact .inr (by show off + n * 2 + 2 ≤ off + j; omega))]
        exact ho.room j hj
    · rw [World.frozen?_setCells]; exact ho.free k
    · exact ((Grew.refl (some ⟨g, off, none⟩) w).then_store (off + n * 2) _).then_store (off + n * 2 + 1) _
  · have hle := ho.le
    have hnc : n = cap := by omega
    subst hnc
    obtain ⟨olds, hol, hoc⟩ : ∃ olds : List Value, olds.length = n * 2 ∧ ∀ j, j < n * 2 → w.cell? ⟨g, off + j, none⟩ = olds[j]? := by
      refine ⟨(List.range (n * 2)).map fun j => (w.cell? ⟨g, off + j, none⟩).getD undef, by simp, fun j hj => ?_⟩
      have := ho.room j hj
      obtain ⟨u, hu⟩ := Option.isSome_iff_exists.1 this
      simp [hj, hu]
    have holds : ∀ (j : Nat) (u : Value), olds[j]? = some u → w.cell? ((⟨g, off, none⟩ : Addr).add j) = some u := by
      intro j u hu
      rw [addr_add_lit, hoc j (by have := (List.getElem?_eq_some_iff.1 hu).1; omega)]
      exact hu
    have hr := run_append_grow (P := P) w t ty E i z ht hi hz0 ⟨g, off, none⟩ n n olds (by rw [hz1]; exact hol) holds ⟨b, 0, none⟩ 1 1 _ (by rw [hz1]; rfl) hnews (by omega) (by omega) (by
      rw [hz2]
      exact growslice_fits (by omega) hbytes)
    have hG1 := grownCap_ge w (n + 1) n E
    obtain ⟨G, hG⟩ : ∃ G, G = grownCap w (n + 1) n E := ⟨_, rfl⟩
    rw [← hG] at hr hG1
    obtain ⟨cs, hcs⟩ : ∃ cs, cs = olds.toArray ++ [Value.int .i64 (v / d), Value.int .i64 (v % d)].toArray ++ Builtin.zeroCells z.cells (G - (n + 1)) := ⟨_, rfl⟩
    rw [← hcs] at hr
    have hcsz : cs.size = G * 2 := by rw [hcs]; simp [Builtin.zeroCells, hz, hol]; omega
    have hcl : ∀ j, j < n * 2 → cs[j]? = olds[j]? := fun j hj => by rw [hcs, Array.getElem?_append_left (by simp; omega), Array.getElem?_append_left (by simp; omega)]; simp
    have hc0 : cs[n * 2]? = some (.int .i64 (v / d)) := by rw [hcs, Array.getElem?_append_left (by simp; omega), Array.getElem?_append_right (by simp; omega)]; simp [hol]
    have hc1 : cs[n * 2 + 1]? = some (.int .i64 (v % d)) := by rw [hcs, Array.getElem?_append_left (by simp; omega), Array.getElem?_append_right (by simp; omega)]; simp [hol]
    have hcell : ∀ k, (w.drew.alloc (.cells cs E)).cell? ⟨w.heap.size, k, none⟩ = cs[k]? := fun k => World.cell?_alloc_at _ _ _ _ rfl
    refine ⟨_, _, _, hr, ⟨w.heap.size, 0, rfl, hB, by simp, hG1, by simp [hl], fun j u hu => ?_, fun j hj => ?_, fun k => frozen_new w.drew cs E k⟩, Grew.of_below (((Drew.refl w).one.below _).trans ((Below.refl _ _).alloc (by simp) _))⟩
    · rw [hcell, hcell, Nat.zero_add]
      by_cases hj : j < n
      · rw [List.getElem?_append_left (by omega)] at hu
        have := ho.cell j u hu
        have e1 := hoc (2 * j) (by omega)
        have e2 := hoc (2 * j + 1) (by omega)
        rw [hcl (2 * j) (by omega), hcl (2 * j + 1) (by omega), ← e1, ← e2]
        exact this
      · have hjn : j = n := by have := (List.getElem?_eq_some_iff.1 hu).1; simp at this; omega
        subst hjn
        rw [List.getElem?_append_right (by omega), hl, Nat.sub_self] at hu
        simp at hu
        subst hu
        rw [Nat.mul_comm 2 j]
        exact ⟨hc0, hc1⟩
    · rw [hcell, Nat.zero_add, Array.getElem?_eq_getElem (by omega)]; rfl
theorem appendP_c {P : Program} {ops : Array Oper} {rest : List Oper} {o : Oper} {act : Act} {w : World} {Q : Exit → Act → World → Prop} (hgd : o.guard = none) (s x : Operand) (t : TypeId)
    (ho : o.op = .call { callee := .builtin .append, args := #[s, x], argTypes := #[t, t] })
    (B : Nat) (E : TypeId) (z : Value) (bytes : Nat) (ht : P.underlying t = some (.slice E)) (hinfo : (P.info? E).map (fun i => (i.zero, i.size, i.bytes)) = some (some z, 2, bytes)) (hz : z.cells.size = 2)
    (a : Option Addr) (n cap : Nat) (vs : List Int) (hs : act.eval s = .slice a n cap) (hown : PQ d w B a n cap vs) (b : Nat) (v : Int) (hx : act.eval x = .slice (some ⟨b, 0, none⟩) 1 1)
    (h1 : w.cell? ⟨b, 0, none⟩ = some (.int .i64 (v / d))) (h2 : w.cell? ⟨b, 1, none⟩ = some (.int .i64 (v % d)))
    (hbytes : (n + 1) * bytes ≤ 140737488355328) (hcap : n + 1 ≤ 281474976710656) (hB : B ≤ w.heap.size)
    (h : ∀ a' n' cap' w', Hd (n' = n + 1) → PQ d w' B a' n' cap' (vs ++ [v]) → Grew a w w' → wpList P ops Q rest (act.put o.dst (.slice a' n' cap')) w') :
    wpList P ops Q (o :: rest) act w := by
  obtain ⟨a', cap', w', hr, h3, h4⟩ := run_appendP (P := P) w B t o.type E z bytes ht hinfo hz a n cap vs hown b v h1 h2 hbytes hcap hB
  refine wpList_plain hgd fun K hK => ?_
  unfold Oper.wp execOp
  simp only [ho, resolve, invoke, builtin, Sem.run_bind, Sem.run_pure, Result.andThen_ok, List.map_toArray, List.map_cons, List.map_nil, hs, hx, hr]
  exact hK _ _ (h a' (n + 1) cap' w' rfl h3 h4)
end
theorem infoPair : (Try.prog.info? 61).map (fun i => (i.zero, i.size, i.bytes)) = some (some (.agg #[.int .i64 0, .int .i64 0]), 2, 16) := by kernel_rfl

/-- The square of what has been seen: 20 by 20. -/
def SeenG (d : Nat) (bs : List Bool) (S : Int → Prop) : Prop := bs.length = 400 ∧ ∀ (x y : Nat) (b : Bool), x < d → y < d → bs[x * 20 + y]? = some b → (b = true ↔ S ((x * d + y : Nat) : Int))
theorem SeenG.start (d : Nat) {S : Int → Prop} (h : ∀ y, ¬ S y) : SeenG d (List.replicate 400 false) S := ⟨List.length_replicate, fun x y b _ _ e => by
  have := List.eq_of_mem_replicate (List.mem_of_getElem? e)
  subst this
  exact ⟨fun e => (by cases e), fun e => absurd e (h _)⟩⟩
theorem SeenG.iff {d : Nat} {bs : List Bool} {S S' : Int → Prop} (h : SeenG d bs S) (hS : ∀ y, S' y ↔ S y) : SeenG d bs S' := ⟨h.1, fun x y b hx hy e => by rw [hS, h.2 x y b hx hy e]⟩
theorem pair_inj {d x y x' y' : Nat} (hy : y < d) (hy' : y' < d) (h : x * d + y = x' * d + y') : x = x' ∧ y = y' := by
  have hd : 0 < d := by omega
  have e1 : (x * d + y) / d = x := by rw [Nat.mul_comm, Nat.mul_add_div hd, Nat.div_eq_of_lt hy]; rfl
  have e2 : (x' * d + y') / d = x' := by rw [Nat.mul_comm, Nat.mul_add_div hd, Nat.div_eq_of_lt hy']; rfl
  rw [h, e2] at e1
  subst e1
  exact ⟨rfl, by omega⟩
theorem SeenG.set {d : Nat} {bs : List Bool} {S S' : Int → Prop} (h : SeenG d bs S) (hd : d ≤ 20) {x0 y0 : Nat} (hy0 : y0 < d) (hS : ∀ v, S' v ↔ S v ∨ v = ((x0 * d + y0 : Nat) : Int)) : SeenG d (bs.set (x0 * 20 + y0) true) S' := by
  refine ⟨by simpa using h.1, fun x y b hx hy e => ?_⟩
  rw [List.getElem?_set] at e
  split at e
  · rename_i hj
    have hxy : x0 = x ∧ y0 = y := by omega
    obtain ⟨rfl, rfl⟩ := hxy
    split at e
    · cases e
      rw [hS]
      simp
    · cases e
  · rename_i hj
    rw [hS, h.2 x y b hx hy e]
    constructor
    · exact .inl
    · rintro (h | h)
      · exact h
      · have := pair_inj hy hy0 (by exact_mod_cast h)
        omega
end Go.Proofs.Ytiekjklhojmnoaa
