/- append onto a row of the call's own, from whatever source. -/
import Derived.Test.YtpijnjhheikmcaaVoc
namespace Go.Proofs.Ytpijnjhheikmcaa
open Go.RowKit

/-- Of the old memory at most the block of the address a has turned; blocks may have come. -/
structure Grew (a : Option Addr) (w w' : World) : Prop where
  os : w'.os = w.os
  tape : w'.tape = w.tape
  output : w'.output = w.output
  size : w.heap.size ≤ w'.heap.size
  block : ∀ k, k < w.heap.size → (∀ off s, a ≠ some ⟨k, off, s⟩) → w'.heap[k]? = w.heap[k]?

theorem Grew.of_grownBy {a : Option Addr} {w w' : World} {n cap : Nat} (h : w.grownBy w' (Value.slice a n cap).ownBlock) : Grew a w w' :=
  ⟨h.os, h.tape, h.output, h.size, fun k hk hne => h.block k hk (fun e => by
    cases a with
    | none => simp [Value.ownBlock] at e
    | some x => simp only [Value.ownBlock, Option.some.injEq] at e; exact hne x.off x.spot (by rw [e]))⟩
theorem Grew.of_below {a : Option Addr} {w w' : World} (h : Below w.heap.size w w') : Grew a w w' :=
  ⟨h.os, h.tape, h.output, h.size, fun k hk _ => h.block k hk⟩
theorem Grew.refl (a : Option Addr) (w : World) : Grew a w w := .of_below (Below.refl _ _)
theorem Grew.below {a : Option Addr} {w w' : World} (h : Grew a w w') {B : Nat} (hB : B ≤ w.heap.size) (ha : ∀ b off s, a = some ⟨b, off, s⟩ → B ≤ b) : Below B w w' :=
  ⟨h.os, h.tape, h.output, h.size, fun k hk => h.block k (by omega) (fun off s e => by have := ha k off s e; omega)⟩
theorem Grew.vals {a' : Option Addr} {w w' : World} (hg : Grew a' w w') {a : Option Addr} {n : Nat} {vs : List Value} (h : Vals w a n vs) (hne : ∀ b off s off' s', a = some ⟨b, off, s⟩ → a' ≠ some ⟨b, off', s'⟩) : Vals w' a n vs := by
  by_cases hn : n = 0
  · exact ⟨h.1, h.2.1, .inl hn⟩
  · exact h.of_heap fun b off ha => hg.block b (h.lt (by omega) ha) (fun off' s' => hne b off none off' s' ha)
theorem Grew.ints {a' : Option Addr} {w w' : World} (hg : Grew a' w w') {a : Option Addr} {n : Nat} {xs : List Int} (h : Ints w a n xs) (hne : ∀ b off s off' s', a = some ⟨b, off, s⟩ → a' ≠ some ⟨b, off', s'⟩) : Ints w' a n xs := ⟨hg.vals h.1 hne, h.2⟩
theorem Grew.own {a' : Option Addr} {w w' : World} (hg : Grew a' w w') {B E : Nat} {a : Option Addr} {n cap : Nat} {vs : List Value} (h : Own w B E a n cap vs) (hne : ∀ b off s off' s', a = some ⟨b, off, s⟩ → a' ≠ some ⟨b, off', s'⟩) : Own w' B E a n cap vs :=
  h.of_heap fun b off s ha => hg.block b (h.lt ha).2 (fun off' s' => hne b off s off' s' ha)
theorem Grew.ownI {a' : Option Addr} {w w' : World} (hg : Grew a' w w') {B : Nat} {a : Option Addr} {n cap : Nat} {xs : List Int} (h : OwnI w B a n cap xs) (hne : ∀ b off s off' s', a = some ⟨b, off, s⟩ → a' ≠ some ⟨b, off', s'⟩) : OwnI w' B a n cap xs := ⟨hg.own h.1 hne, h.2⟩
theorem Grew.after_alloc {a : Option Addr} {w w' : World} {o : Obj} (h : Grew a (w.alloc o) w') : Grew a w w' :=
  ⟨h.os, h.tape, h.output, by have := h.size; simp at this; omega, fun k hk hne => (h.block k (by simp; omega) hne).trans (Below.heap_alloc w o k hk)⟩

theorem addr_add_lit (g o j : Nat) : (⟨g, o, none⟩ : Addr).add j = ⟨g, o + j, none⟩ := by
  unfold Addr.add
  by_cases h : j = 0
  · subst h; simp
  · rw [if_neg h]

theorem Vals.cells {w : World} {b off : Nat} {n : Nat} {vs : List Value} (h : Vals w (some ⟨b, off, none⟩) n vs) : ∀ j v, vs[j]? = some v → w.cell? ((⟨b, off, none⟩ : Addr).add j) = some v := by
  intro j v hv
  rw [addr_add_lit]
  obtain ⟨h1, _, h3⟩ := h
  rcases h3 with h3 | ⟨b', off', ha, hc⟩
  · have := (List.getElem?_eq_some_iff.1 hv).1; omega
  · cases ha; exact hc j v hv

theorem run_append2 {P : Program} (w : World) (B : Nat) (t ty E : TypeId) (z : Value) (bytes : Nat) (ht : P.underlying t = some (.slice E))
    (hinfo : (P.info? E).map (fun i => (i.zero, i.size, i.bytes)) = some (some z, 1, bytes)) (hz : z.cells.size = 1)
    (a : Option Addr) (n cap : Nat) (vs : List Value) (hown : Own w B E a n cap vs) (ad : Option Addr) (m c : Nat) (news : List Value) (hsrc : Vals w ad m news) (h1 : ∀ u ∈ news, u.oneCell' = true)
    (hbytes : (n + m) * bytes ≤ 140737488355328) (h48 : n + m ≤ 281474976710656) (hB : B ≤ w.heap.size) :
    ∃ a' cap' w', (Builtin.append_ #[t, t] ty #[.slice a n cap, .slice ad m c]).run P w = .ok (.slice a' (n + m) cap') w' ∧ Own w' B E a' (n + m) cap' (vs ++ news) ∧ Grew a w w' ∧
      (a' = a ∨ a' = some ⟨w.heap.size, 0, none⟩) := by
  obtain ⟨i, hi, hz0, hz1, hz2⟩ := info_parts hinfo
  have hvl := hown.length
  have hnl := hsrc.length
  by_cases hm : m = 0
  · subst hm
    have hn0 : news = [] := List.eq_nil_of_length_eq_zero hnl
    subst hn0
    refine ⟨a, cap, w, ?_, by simpa using hown, Grew.refl _ _, .inl rfl⟩
    have hc : n ≤ cap := by
      rcases hown.addr with ⟨_, h, _⟩ | ⟨g, _, _, _, h, _⟩ <;> omega
    cases ad with
    | none => cases a <;> simp [Builtin.append_, run_underlying ht, sizeOf, typeInfo, hi, Builtin.lenOf, Builtin.firstCells, hc, storeCells]
    | some x => cases a <;> simp [Builtin.append_, run_underlying ht, sizeOf, typeInfo, hi, Builtin.lenOf, Builtin.firstCells, loadCells, loadCellsFrom, hc, storeCells]
  · obtain ⟨b, off, v0, rfl, _, _, _⟩ := hsrc.at (k := 0) (by omega)
    have hcells := hsrc.cells
    have hl1 : news.length = m * i.size := by rw [hz1]; omega
    obtain ⟨v', w', hr, how, hgr, hnil⟩ := run_append_own (P := P) w B t ty E i z 1 bytes ht hi hz0 hz1 hz2 hz (by decide) (.slice a n cap) n vs hown.2.2 ⟨b, off, none⟩ m c news (by omega) hcells h1 (by rw [maxLen_eq]; omega) hbytes hB
    -- the address: by the room
    have hv' : ∃ a' cap', v' = .slice a' (n + m) cap' ∧ (a' = a ∨ a' = some ⟨w.heap.size, 0, none⟩) := by
      rcases hown.addr with ⟨rfl, rfl, rfl⟩ | ⟨g, rfl, hBg, hg, hnc, hcm⟩
      · have h := run_append_nil (P := P) w t ty E i z ht hi hz0 ⟨b, off, none⟩ m c news hl1 hcells (by omega) (by omega) (by rw [hz2]; rw [Nat.zero_add] at hbytes; omega)
        rw [h] at hr
        cases hr
        exact ⟨_, grownCap w m 0 E, by simp, .inr rfl⟩
      · by_cases hroom : n + m ≤ cap
        · rcases hown.2.2.2 with ⟨h, _⟩ | ⟨g', cap', cur, h, _, hgh, _, _, hcs, _⟩
          · simp at h
          · simp only [Value.slice.injEq, Option.some.injEq, Addr.mk.injEq, and_true, true_and] at h
            obtain ⟨rfl, rfl⟩ := h
            have h := run_append_room (P := P) w t ty E i ht hi g n cap cur hgh ⟨b, off, none⟩ m c news hl1 hcells h1 hroom (by rw [hz1, hcs]; omega)
            rw [h] at hr
            cases hr
            exact ⟨_, _, rfl, .inl rfl⟩
        · have h := run_append_grow (P := P) w t ty E i z ht hi hz0 ⟨g, 0, none⟩ n cap vs (by rw [hz1]; omega) (by
              intro j v hv
              exact hown.vals.cells j v hv) ⟨b, off, none⟩ m c news hl1 hcells (by omega) (by omega) (by rw [hz2]; exact growslice_fits (by omega) hbytes)
          rw [h] at hr
          cases hr
          exact ⟨_, _, rfl, .inr rfl⟩
    obtain ⟨a', cap', rfl, haddr⟩ := hv'
    exact ⟨a', cap', w', hr, ⟨by simp; omega, h48, how⟩, Grew.of_grownBy hgr, haddr⟩

/-- append in a walk: the source reads as news. -/
theorem append_c {P : Program} {ops : Array Oper} {rest : List Oper} {o : Oper} {act : Act} {w : World} {Q : Exit → Act → World → Prop} (hgd : o.guard = none) (s x : Operand) (t : TypeId)
    (ho : o.op = .call { callee := .builtin .append, args := #[s, x], argTypes := #[t, t] })
    (B : Nat) (E : TypeId) (z : Value) (bytes : Nat) (ht : P.underlying t = some (.slice E)) (hinfo : (P.info? E).map (fun i => (i.zero, i.size, i.bytes)) = some (some z, 1, bytes)) (hz : z.cells.size = 1)
    (a : Option Addr) (n cap : Nat) (vs : List Value) (hs : act.eval s = .slice a n cap) (hown : Own w B E a n cap vs) (ad : Option Addr) (m c : Nat) (news : List Value) (hx : act.eval x = .slice ad m c) (hsrc : Vals w ad m news)
    (h1 : ∀ u ∈ news, u.oneCell' = true) (hbytes : (n + m) * bytes ≤ 140737488355328) (h48 : n + m ≤ 281474976710656) (hB : B ≤ w.heap.size)
    (h : ∀ a' n' cap' w', Hd (n' = n + m) → Own w' B E a' n' cap' (vs ++ news) → Grew a w w' → Hd (a' = a ∨ a' = some ⟨w.heap.size, 0, none⟩) → wpList P ops Q rest (act.put o.dst (.slice a' n' cap')) w') :
    wpList P ops Q (o :: rest) act w := by
  obtain ⟨a', cap', w', hr, h2, h3, h4⟩ := run_append2 (P := P) w B t o.type E z bytes ht hinfo hz a n cap vs hown ad m c news hsrc h1 hbytes h48 hB
  refine wpList_plain hgd fun K hK => ?_
  unfold Oper.wp execOp
  simp only [ho, resolve, invoke, builtin, Sem.run_bind, Sem.run_pure, Result.andThen_ok, List.map_toArray, List.map_cons, List.map_nil, hs, hx, hr]
  exact hK _ _ (h a' (n + m) cap' w' rfl h2 h3 h4)

theorem Vals.lit (w : World) (us : List Value) (E : TypeId) (h : us.length ≤ 9223372036854775807) : Vals (w.alloc (.cells us.toArray E)) (some ⟨w.heap.size, 0, none⟩) us.length us := by
  refine ⟨rfl, h, .inr ⟨w.heap.size, 0, rfl, fun j v hv => ?_⟩⟩
  rw [World.cell?_alloc_at _ _ _ _ rfl]
  simpa using hv
theorem Own.lit (w : World) {B : Nat} (us : List Value) (E : TypeId) (h : us.length ≤ 281474976710656) (hB : B ≤ w.heap.size) : Own (w.alloc (.cells us.toArray E)) B E (some ⟨w.heap.size, 0, none⟩) us.length us.length us := by
  refine ⟨rfl, h, ?_⟩
  have := World.ownsRow_lit (base := B) (e := E) (size := 1) w us.toArray us.length hB (by rw [maxLen_eq]; omega) (by simp)
  exact this

/-- append(s, u1, ..): the new elements lie in a block of their own, laid just before. -/
theorem appendL_c {P : Program} {ops : Array Oper} {rest : List Oper} {o : Oper} {act : Act} {w : World} {Q : Exit → Act → World → Prop} (hgd : o.guard = none) (s x : Operand) (t : TypeId)
    (ho : o.op = .call { callee := .builtin .append, args := #[s, x], argTypes := #[t, t] })
    (B : Nat) (E : TypeId) (z : Value) (bytes : Nat) (ht : P.underlying t = some (.slice E)) (hinfo : (P.info? E).map (fun i => (i.zero, i.size, i.bytes)) = some (some z, 1, bytes)) (hz : z.cells.size = 1)
    (a : Option Addr) (n cap : Nat) (vs : List Value) (hs : act.eval s = .slice a n cap) (hown : Own w B E a n cap vs) (us : List Value) (m : Nat) (hx : act.eval x = .slice (some ⟨w.heap.size, 0, none⟩) m m) (hm : m = us.length)
    (h1 : ∀ u ∈ us, u.oneCell' = true) (hbytes : (n + m) * bytes ≤ 140737488355328) (h48 : n + m ≤ 281474976710656) (hB : B ≤ w.heap.size)
    (h : ∀ a' n' cap' w', Hd (n' = n + m) → Own w' B E a' n' cap' (vs ++ us) → Grew a w w' → Hd (a' = a ∨ a' = some ⟨w.heap.size + 1, 0, none⟩) → wpList P ops Q rest (act.put o.dst (.slice a' n' cap')) w') :
    wpList P ops Q (o :: rest) act (w.alloc (.cells us.toArray E)) := by
  subst hm
  refine append_c hgd s x t ho B E z bytes ht hinfo hz a n cap vs hs (hown.alloc _) _ _ _ us hx (Vals.lit w us E (by omega)) h1 hbytes h48 (by simp; omega) ?_
  intro a' n' cap' w' h2 h3 h4 h5
  exact h a' n' cap' w' h2 h3 h4.after_alloc (by simpa using h5)

/-- The same, the number of that block given apart. -/
theorem appendG_c {P : Program} {ops : Array Oper} {rest : List Oper} {o : Oper} {act : Act} {w : World} {Q : Exit → Act → World → Prop} (hgd : o.guard = none) (s x : Operand) (t : TypeId)
    (ho : o.op = .call { callee := .builtin .append, args := #[s, x], argTypes := #[t, t] })
    (B : Nat) (E : TypeId) (z : Value) (bytes : Nat) (ht : P.underlying t = some (.slice E)) (hinfo : (P.info? E).map (fun i => (i.zero, i.size, i.bytes)) = some (some z, 1, bytes)) (hz : z.cells.size = 1)
    (a : Option Addr) (n cap : Nat) (vs : List Value) (hs : act.eval s = .slice a n cap) (hown : Own w B E a n cap vs) (us : List Value) (m g : Nat) (hx : act.eval x = .slice (some ⟨g, 0, none⟩) m m) (hg : g = w.heap.size) (hm : m = us.length)
    (h1 : ∀ u ∈ us, u.oneCell' = true) (hbytes : (n + m) * bytes ≤ 140737488355328) (h48 : n + m ≤ 281474976710656) (hB : B ≤ w.heap.size)
    (h : ∀ a' n' cap' w', Hd (n' = n + m) → Own w' B E a' n' cap' (vs ++ us) → Grew a w w' → Hd (a' = a ∨ a' = some ⟨g + 1, 0, none⟩) → wpList P ops Q rest (act.put o.dst (.slice a' n' cap')) w') :
    wpList P ops Q (o :: rest) act (w.alloc (.cells us.toArray E)) := by
  subst hg
  exact appendL_c hgd s x t ho B E z bytes ht hinfo hz a n cap vs hs hown us m hx hm h1 hbytes h48 hB h

theorem oneInt {k : IntKind} {x : Int} : ∀ u ∈ [Value.int k x], u.oneCell' = true := by intro u hu; simp at hu; subst hu; rfl
theorem oneInts {k : IntKind} {xs : List Int} : ∀ u ∈ xs.map (Value.int k), u.oneCell' = true := by intro u hu; simp at hu; obtain ⟨x, _, rfl⟩ := hu; rfl
theorem oneSlice {a : Option Addr} {n c : Nat} : ∀ u ∈ [Value.slice a n c], u.oneCell' = true := by intro u hu; simp at hu; subst hu; rfl

theorem Own.take {w : World} {B E : Nat} {a : Option Addr} {n cap k : Nat} {vs : List Value} (h : Own w B E a n cap vs) (hk : k ≤ n) : Own w B E a k cap (vs.take k) := by
  obtain ⟨h1, h2, h3, h4⟩ := h
  refine ⟨by simp; omega, by omega, by simp; omega, ?_⟩
  rcases h4 with ⟨h5, h6⟩ | ⟨g, cap', cur, h5, h6, h7, h8, h9, h10, h11⟩
  · simp only [Value.slice.injEq] at h5
    exact .inl ⟨by simp [h5.1, h5.2.2]; omega, by omega⟩
  · simp only [Value.slice.injEq, true_and] at h5
    obtain ⟨rfl, rfl⟩ := h5
    refine .inr ⟨g, cap, cur, rfl, h6, h7, by omega, h9, h10, ?_⟩
    rw [← h11, List.take_take]
    congr 1
    omega

theorem OwnI.snoc {w : World} {B : Nat} {a : Option Addr} {n cap : Nat} {xs : List Int} {x : Int} (h : Own w B 2 a n cap (xs.map (Value.int .i64) ++ [.int .i64 x])) (hr : ∀ y ∈ xs, -9223372036854775808 ≤ y ∧ y ≤ 9223372036854775807)
    (h0 : -9223372036854775808 ≤ x) (h1 : x ≤ 9223372036854775807) : OwnI w B a n cap (xs ++ [x]) := by
  refine ⟨by simpa using h, fun y hy => ?_⟩
  rw [List.mem_append, List.mem_singleton] at hy
  rcases hy with hy | rfl
  · exact hr y hy
  · exact ⟨h0, h1⟩
theorem OwnI.grewBelow {w w' w0 : World} {B : Nat} {a : Option Addr} {n cap : Nat} {xs : List Int} (h : OwnI w B a n cap xs) (hg : Grew a w w') (hb : Below B w0 w) (hB : B ≤ w.heap.size) : Below B w0 w' :=
  hb.trans (hg.below hB h.ge)
theorem OwnI.emptyLit (w : World) {B : Nat} (hB : B ≤ w.heap.size) : OwnI (w.alloc (.cells #[] 2)) B (some ⟨w.heap.size, 0, none⟩) 0 0 [] := ⟨Own.lit w [] _ (by simp) hB, by simp⟩
theorem OwnI.pop {w : World} {B : Nat} {a : Option Addr} {n cap k : Nat} {xs : List Int} (h : OwnI w B a n cap xs) (hk : k ≤ n) : OwnI w B a k cap (xs.take k) :=
  ⟨by have := h.1.take hk; rw [← List.map_take] at this; exact this, fun x hx => h.2 x (List.mem_of_mem_take hx)⟩
theorem OwnI.look {w : World} {B : Nat} {a : Option Addr} {n cap k : Nat} {xs : List Int} (h : OwnI w B a n cap xs) (hk : k < n) :
    ∃ g x, a = some ⟨g, 0, none⟩ ∧ B ≤ g ∧ g < w.heap.size ∧ w.cell? ⟨g, k, none⟩ = some (.int .i64 x) ∧ w.frozen? ⟨g, k, none⟩ = false ∧ Hd (xs[k]? = some x) := by
  obtain ⟨g, v, h1, h2, h3, h4, h5, h6⟩ := h.1.at hk
  have h6 := h6.o
  rw [List.getElem?_map, Option.map_eq_some_iff] at h6
  obtain ⟨x, hx, rfl⟩ := h6
  exact ⟨g, x, h1, h2, h3, h4, h5, hx⟩

/-- Two addresses that lie in no common block. -/
def Apart (a a' : Option Addr) : Prop := ∀ b off s off' s', a = some ⟨b, off, s⟩ → a' ≠ some ⟨b, off', s'⟩
theorem Apart.symm {a a' : Option Addr} (h : Apart a a') : Apart a' a := fun b off s off' s' e e' => h b off' s' off s e' e
theorem Apart.of_lt {a a' : Option Addr} {B : Nat} (h : ABelow a B) (h' : ∀ b off s, a' = some ⟨b, off, s⟩ → B ≤ b) : Apart a a' := apart_lt h h'

theorem OwnI.store_other {w : World} {B : Nat} {a : Option Addr} {n cap : Nat} {xs : List Int} (h : OwnI w B a n cap xs) {g off : Nat} {s : Option Nat} (k : Nat) (u : Value) (hne : Apart (some ⟨g, off, s⟩) a) : OwnI (w.setCell ⟨g, k, none⟩ u) B a n cap xs :=
  ⟨h.1.store_other g k u (fun _ off' s' e hb => hne g off s off' s' rfl (hb ▸ e)), h.2⟩

theorem Apart.grown {c a a2 : Option Addr} {w : World} {j : Nat} (h : Apart c a) (hc : ABelow c w.heap.size) (ha : a2 = a ∨ a2 = some ⟨w.heap.size + j, 0, none⟩) : Apart c a2 := by
  rcases ha with rfl | rfl
  · exact h
  · intro b off s off' s' e e'
    have := hc b off s e
    cases e'
    omega
end Go.Proofs.Ytpijnjhheikmcaa
