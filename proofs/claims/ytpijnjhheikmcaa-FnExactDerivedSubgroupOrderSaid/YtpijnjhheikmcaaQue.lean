/- A queue: a slice of a row of the call's own that does not begin at the row's head; append onto it. -/
import Derived.Test.YtpijnjhheikmcaaApp
import Derived.Deep.AppendSrc
namespace Go.Proofs.Ytpijnjhheikmcaa
open Go.RowKit

/-- The slice (a, n) of the capacity cap is the rest of a row of the call's own. -/
def OwnQ (w : World) (B : Nat) (E : TypeId) (L : Nat) (a : Option Addr) (n cap : Nat) (vs : List Value) : Prop :=
  ∃ (g : Nat) (pre : List Value), a = some ⟨g, pre.length, none⟩ ∧ pre.length ≤ L ∧ vs.length = n ∧ Own w B E (some ⟨g, 0, none⟩) (pre.length + n) (pre.length + cap) (pre ++ vs)

theorem OwnQ.length {w : World} {B E L : Nat} {a : Option Addr} {n cap : Nat} {vs : List Value} (h : OwnQ w B E L a n cap vs) : vs.length = n := by obtain ⟨_, _, _, _, h, _⟩ := h; exact h
theorem OwnQ.le {w : World} {B E L : Nat} {a : Option Addr} {n cap : Nat} {vs : List Value} (h : OwnQ w B E L a n cap vs) : n ≤ cap := by
  obtain ⟨g, pre, _, _, _, h⟩ := h
  rcases h.addr with ⟨h, _⟩ | ⟨_, _, _, _, h, _⟩
  · cases h
  · omega
theorem OwnQ.lt {w : World} {B E L : Nat} {a : Option Addr} {n cap : Nat} {vs : List Value} (h : OwnQ w B E L a n cap vs) {b off : Nat} {s : Option Nat} (ha : a = some ⟨b, off, s⟩) : B ≤ b ∧ b < w.heap.size := by
  obtain ⟨g, pre, e, _, _, h⟩ := h
  rw [ha] at e
  cases e
  exact h.lt rfl
theorem OwnQ.of_own {w : World} {B E L : Nat} {g n cap : Nat} {vs : List Value} (h : Own w B E (some ⟨g, 0, none⟩) n cap vs) : OwnQ w B E L (some ⟨g, 0, none⟩) n cap vs :=
  ⟨g, [], rfl, Nat.zero_le _, h.length, by simpa using h⟩
theorem OwnQ.of_heap {w w' : World} {B E L : Nat} {a : Option Addr} {n cap : Nat} {vs : List Value} (h : OwnQ w B E L a n cap vs) (hb : ∀ b off s, a = some ⟨b, off, s⟩ → w'.heap[b]? = w.heap[b]?) : OwnQ w' B E L a n cap vs := by
  obtain ⟨g, pre, e, hL, hl, h⟩ := h
  exact ⟨g, pre, e, hL, hl, h.of_heap fun b off s e' => by cases e'; exact hb _ _ _ e⟩
theorem OwnQ.up {w w' : World} {B E L : Nat} {a : Option Addr} {n cap : Nat} {vs : List Value} (h : OwnQ w B E L a n cap vs) (hb : Below w.heap.size w w') : OwnQ w' B E L a n cap vs :=
  h.of_heap fun _ _ _ ha => hb.block _ (h.lt ha).2
theorem OwnQ.alloc {w : World} {B E L : Nat} {a : Option Addr} {n cap : Nat} {vs : List Value} (h : OwnQ w B E L a n cap vs) (o : Obj) : OwnQ (w.alloc o) B E L a n cap vs :=
  h.up ((Below.refl _ _).alloc (Nat.le_refl _) o)
theorem OwnQ.grew {w w' : World} {B E L : Nat} {a c : Option Addr} {n cap : Nat} {vs : List Value} (h : OwnQ w B E L a n cap vs) (hg : Grew c w w') (hne : Apart a c) : OwnQ w' B E L a n cap vs :=
  h.of_heap fun b off s ha => hg.block b (h.lt ha).2 (fun off' s' => hne b off s off' s' ha)
theorem OwnQ.store_other {w : World} {B E L : Nat} {a : Option Addr} {n cap : Nat} {vs : List Value} (h : OwnQ w B E L a n cap vs) {g : Nat} (hg : g < B) (k : Nat) (u : Value) : OwnQ (w.setCell ⟨g, k, none⟩ u) B E L a n cap vs :=
  h.of_heap fun b off s ha => heap_store w g k b u (by have := (h.lt ha).1; omega)
theorem OwnQ.drewN {w : World} {B E L : Nat} {a : Option Addr} {n cap : Nat} {vs : List Value} (h : OwnQ w B E L a n cap vs) (m : Nat) : OwnQ (w.drewN m) B E L a n cap vs := h
theorem OwnQ.at {w : World} {B E L : Nat} {a : Option Addr} {n cap k : Nat} {vs : List Value} (h : OwnQ w B E L a n cap vs) (hk : k < n) :
    ∃ g off v, a = some ⟨g, off, none⟩ ∧ B ≤ g ∧ g < w.heap.size ∧ w.cell? ⟨g, off + k, none⟩ = some v ∧ Hd (vs[k]? = some v) := by
  obtain ⟨g, pre, e, hL, hl, h⟩ := h
  obtain ⟨v, h1, _, h2⟩ := h.at' (k := pre.length + k) (by omega)
  have hlt := h.lt rfl
  refine ⟨g, pre.length, v, e, hlt.1, hlt.2, h1, ?_⟩
  have h2 := h2.o
  rw [List.getElem?_append_right (by omega), Nat.add_sub_cancel_left] at h2
  exact h2
theorem OwnQ.pop {w : World} {B E L : Nat} {g o n cap : Nat} {v : Value} {vs : List Value} (h : OwnQ w B E L (some ⟨g, o, none⟩) n cap (v :: vs)) : OwnQ w B E (L + 1) (some ⟨g, o + 1, none⟩) (n - 1) (cap - 1) vs := by
  have hcap := h.le
  obtain ⟨g', pre, e, hL, hl, h⟩ := h
  cases e
  simp at hl
  refine ⟨g, pre ++ [v], by simp, by simp; omega, by omega, ?_⟩
  rw [List.append_assoc, List.length_append, List.length_singleton, show pre.length + 1 + (n - 1) = pre.length + n by omega, show pre.length + 1 + (cap - 1) = pre.length + cap by omega]
  exact h

theorem Grew.then_below {a : Option Addr} {B : Nat} {w0 w w' : World} (h : Grew a w0 w) (hb : Below B w w') (hB : w0.heap.size ≤ B) : Grew a w0 w' :=
  ⟨hb.os.trans h.os, hb.tape.trans h.tape, hb.output.trans h.output, Nat.le_trans h.size hb.size, fun k hk hne => (hb.block k (by omega)).trans (h.block k hk hne)⟩
theorem Grew.then_store {g o : Nat} {s : Option Nat} {w0 w : World} (h : Grew (some ⟨g, o, s⟩) w0 w) (k : Nat) (u : Value) : Grew (some ⟨g, o, s⟩) w0 (w.setCell ⟨g, k, none⟩ u) :=
  ⟨h.os, h.tape, h.output, by rw [size_store]; exact h.size, fun b hb hne => (heap_store w g k b u (fun e => hne o s (by rw [e]))).trans (h.block b hb hne)⟩
theorem Grew.then_drew {a : Option Addr} {w0 w w' : World} (h : Grew a w0 w) (hd : Drew w w') : Grew a w0 w' := h.then_below (hd.below w0.heap.size) (Nat.le_refl _)

/-- The queue, as long as there is something in it. -/
def QI (w : World) (B i : Nat) (qa : Option Addr) (qn qcap : Nat) (xs : List Int) : Prop := qn = 0 ∨ OwnQ w B 2 i qa qn qcap (xs.map (Value.int .i64))

/-- A row that is newly laid. -/
theorem own_new (w : World) {B E n cap : Nat} (cs : Array Value) (vs : List Value) (hB : B ≤ w.heap.size) (hl : vs.length = n) (h48 : n ≤ 281474976710656) (hn : n ≤ cap) (hm : cap ≤ maxLen) (hcs : cs.size = cap) (ht : cs.toList.take n = vs) :
    Own (w.alloc (.cells cs E)) B E (some ⟨w.heap.size, 0, none⟩) n cap vs :=
  ⟨hl, h48, by omega, .inr ⟨w.heap.size, cap, cs, rfl, hB, heap_alloc_new w _, by omega, hm, by omega, by simpa using ht⟩⟩

/-- The row grows: a new one. -/
theorem run_append_new {P : Program} (w : World) (B : Nat) (t ty E : TypeId) (z : Value) (bytes : Nat) (ht : P.underlying t = some (.slice E))
    (hinfo : (P.info? E).map (fun i => (i.zero, i.size, i.bytes)) = some (some z, 1, bytes)) (hz : z.cells.size = 1)
    (x : Addr) (n cap : Nat) (vs : List Value) (hvl : vs.length = n) (hvs : ∀ j v, vs[j]? = some v → w.cell? (x.add j) = some v) (ad : Option Addr) (m c : Nat) (news : List Value) (hsrc : Vals w ad m news) (hm : 0 < m)
    (hgr : cap < n + m) (hnc : n ≤ cap) (hbytes : (n + m) * bytes ≤ 140737488355328) (h48 : n + m ≤ 281474976710656) (hB : B ≤ w.heap.size) :
    ∃ cap' w', (Builtin.append_ #[t, t] ty #[.slice (some x) n cap, .slice ad m c]).run P w = .ok (.slice (some ⟨w.heap.size, 0, none⟩) (n + m) cap') w' ∧ Own w' B E (some ⟨w.heap.size, 0, none⟩) (n + m) cap' (vs ++ news) ∧ Below w.heap.size w w' := by
  obtain ⟨i, hi, hz0, hz1, hz2⟩ := info_parts hinfo
  have hnl := hsrc.length
  obtain ⟨b, off, v0, rfl, _, _, _⟩ := hsrc.at (k := 0) hm
  have hr := run_append_grow (P := P) w t ty E i z ht hi hz0 x n cap vs (by rw [hz1]; omega) hvs ⟨b, off, none⟩ m c news (by rw [hz1]; omega) hsrc.cells hgr (by omega) (by
    rw [hz2]
    by_cases h0 : cap = 0
    · have : n = 0 := by omega
      subst h0; subst this
      rw [nextslicecap_zero (by omega)]; omega
    · exact growslice_fits (by omega) hbytes)
  have hG1 := grownCap_ge w (n + m) cap E
  have hG2 := grownCap_le_maxLen w (n + m) cap E (by rw [maxLen_eq]; omega)
  refine ⟨_, _, hr, ?_, ((Drew.refl w).one.below _).trans ((Below.refl _ _).alloc (by simp) _)⟩
  refine own_new w.drew _ _ (by simpa using hB) (by simp; omega) h48 hG1 hG2 ?_ ?_
  · simp [Builtin.zeroCells, hz]; omega
  · simp
    rw [← List.append_assoc, List.take_append_of_le_length (by simp; omega), List.take_of_length_le (by simp; omega)]

theorem run_appendQ {P : Program} (w : World) (B L : Nat) (t ty E : TypeId) (z : Value) (bytes : Nat) (ht : P.underlying t = some (.slice E))
    (hinfo : (P.info? E).map (fun i => (i.zero, i.size, i.bytes)) = some (some z, 1, bytes)) (hz : z.cells.size = 1)
    (a : Option Addr) (n cap : Nat) (vs : List Value) (hown : OwnQ w B E L a n cap vs) (ad : Option Addr) (m c : Nat) (news : List Value) (hsrc : Vals w ad m news) (hm : 0 < m) (h1 : ∀ u ∈ news, u.oneCell' = true)
    (hbytes : (n + m) * bytes ≤ 140737488355328) (h48 : n + m ≤ 281474976710656) (hlong1 : (L + n + m) * bytes ≤ 140737488355328) (hlong2 : L + n + m ≤ 281474976710656) (hB : B ≤ w.heap.size) :
    ∃ a' cap' w', (Builtin.append_ #[t, t] ty #[.slice a n cap, .slice ad m c]).run P w = .ok (.slice a' (n + m) cap') w' ∧ OwnQ w' B E L a' (n + m) cap' (vs ++ news) ∧ Grew a w w' ∧
      (a' = a ∨ a' = some ⟨w.heap.size, 0, none⟩) := by
  have hle := hown.le
  obtain ⟨g, pre, rfl, hL, hvl, ho⟩ := hown
  replace hlong1 : (pre.length + n + m) * bytes ≤ 140737488355328 := Nat.le_trans (Nat.mul_le_mul_right _ (by omega)) hlong1
  replace hlong2 : pre.length + n + m ≤ 281474976710656 := by omega
  obtain ⟨i, hi, hz0, hz1, hz2⟩ := info_parts hinfo
  by_cases hroom : n + m ≤ cap
  · obtain ⟨b, off, v0, rfl, _, _, _⟩ := hsrc.at (k := 0) hm
    have hnl := hsrc.length
    have hs : Src P i.size t (.slice (some ⟨b, off, none⟩) m c) m news w := Src.ofSlice w ht _ _ _ _ (by rw [hz1]; omega) hsrc.cells h1
    obtain ⟨_, _, _, hown2⟩ := id ho
    rcases hown2 with ⟨h, _⟩ | ⟨g', cap', cur, h, hBg, hgh, h5, h6, h7, h8⟩
    · simp at h
    · simp only [Value.slice.injEq, Option.some.injEq, Addr.mk.injEq, and_true, true_and] at h
      obtain ⟨rfl, rfl⟩ := h
      have hc : ∀ j, j < news.length → (w.cell? ⟨g, pre.length + n * i.size + j, none⟩).isSome = true := by
        intro j hj
        rw [cell_of_row w g _ cur E (0, 0) hgh]
        simp [hz1]; omega
      have hf : ∀ j, j < news.length → w.frozen? ⟨g, pre.length + n * i.size + j, none⟩ = false := by
        intro j hj
        exact ho.2.2.frozenAt _
      have r1 := run_append_room_src (P := P) w t t ty E i ht hi g pre.length n cap _ m news hs hroom hc hf
      have r2 := run_append_room_src (P := P) w t t ty E i ht hi g 0 (pre.length + n) (pre.length + cap) _ m news hs (by omega) (by intro j hj; have := hc j hj; rw [hz1] at this ⊢; simpa [Nat.add_assoc] using this) (by intro j hj; exact ho.2.2.frozenAt _)
      obtain ⟨a2, cap2, w2, r3, o3, g3, e3⟩ := run_append2 (P := P) w B t ty E z bytes ht hinfo hz (some ⟨g, 0, none⟩) (pre.length + n) (pre.length + cap) (pre ++ vs) ho _ m c news hsrc h1 hlong1 hlong2 hB
      rw [r2] at r3
      simp only [Result.ok.injEq, Value.slice.injEq] at r3
      obtain ⟨⟨rfl, _, rfl⟩, rfl⟩ := r3
      have ew : w.setCells g (pre.length + n * i.size) news = w.setCells g (0 + (pre.length + n) * i.size) news := by rw [hz1]; congr 1; omega
      rw [ew] at r1
      refine ⟨_, _, _, r1, ⟨g, pre, rfl, hL, by simp; omega, ?_⟩, ?_, .inl rfl⟩
      · rw [← List.append_assoc, ← Nat.add_assoc]; exact o3
      · exact ⟨g3.os, g3.tape, g3.output, g3.size, fun k hk hne => g3.block k hk fun off' s' e => by cases e; exact hne _ _ rfl⟩
  · have hv : ∀ j v, vs[j]? = some v → w.cell? ((⟨g, pre.length, none⟩ : Addr).add j) = some v := by
      intro j v hj
      rw [addr_add_lit]
      obtain ⟨u, h1, _, h2⟩ := ho.at' (k := pre.length + j) (by have := (List.getElem?_eq_some_iff.1 hj).1; omega)
      have h2 := h2.o
      rw [List.getElem?_append_right (by omega), Nat.add_sub_cancel_left, hj] at h2
      cases h2
      exact h1
    obtain ⟨cap', w', hr, ho', hb⟩ := run_append_new (P := P) w B t ty E z bytes ht hinfo hz ⟨g, pre.length, none⟩ n cap vs hvl hv ad m c news hsrc hm (by omega) hle hbytes h48 hB
    exact ⟨_, _, _, hr, OwnQ.of_own ho', Grew.of_below hb, .inr rfl⟩

/-- append onto a queue, in a walk: the new elements lie in a block of their own, laid just before. -/
theorem appendQ_c {P : Program} {ops : Array Oper} {rest : List Oper} {o : Oper} {act : Act} {w : World} {Q : Exit → Act → World → Prop} (hgd : o.guard = none) (s x : Operand) (t : TypeId)
    (ho : o.op = .call { callee := .builtin .append, args := #[s, x], argTypes := #[t, t] })
    (B L : Nat) (E : TypeId) (z : Value) (bytes : Nat) (ht : P.underlying t = some (.slice E)) (hinfo : (P.info? E).map (fun i => (i.zero, i.size, i.bytes)) = some (some z, 1, bytes)) (hz : z.cells.size = 1)
    (a : Option Addr) (n cap : Nat) (vs : List Value) (hs : act.eval s = .slice a n cap) (hown : OwnQ w B E L a n cap vs) (us : List Value) (m g : Nat) (hx : act.eval x = .slice (some ⟨g, 0, none⟩) m m) (hg : g = w.heap.size) (hm : m = us.length) (hm0 : 0 < m)
    (h1 : ∀ u ∈ us, u.oneCell' = true) (hbytes : (n + m) * bytes ≤ 140737488355328) (h48 : n + m ≤ 281474976710656) (hlong1 : (L + n + m) * bytes ≤ 140737488355328) (hlong2 : L + n + m ≤ 281474976710656) (hB : B ≤ w.heap.size)
    (h : ∀ a' n' cap' w', Hd (n' = n + m) → OwnQ w' B E L a' n' cap' (vs ++ us) → Grew a w w' → Hd (a' = a ∨ a' = some ⟨g + 1, 0, none⟩) → wpList P ops Q rest (act.put o.dst (.slice a' n' cap')) w') :
    wpList P ops Q (o :: rest) act (w.alloc (.cells us.toArray E)) := by
  subst hm; subst hg
  obtain ⟨a', cap', w', hr, h2, h3, h4⟩ := run_appendQ (P := P) (w.alloc (.cells us.toArray E)) B L t o.type E z bytes ht hinfo hz a n cap vs (hown.alloc _) _ us.length us.length us (Vals.lit w us E (by omega)) hm0 h1 hbytes h48 hlong1 hlong2 (by simp; omega)
  refine wpList_plain hgd fun K hK => ?_
  unfold Oper.wp execOp
  simp only [ho, resolve, invoke, builtin, Sem.run_bind, Sem.run_pure, Result.andThen_ok, List.map_toArray, List.map_cons, List.map_nil, hs, hx, hr]
  exact hK _ _ (h a' (n + us.length) cap' w' rfl h2 h3.after_alloc (by simpa [Hd] using h4))

end Go.Proofs.Ytpijnjhheikmcaa
