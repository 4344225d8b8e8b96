/- A chain in memory: which block has which role; what its parts read as; what stores and appends do to it. -/
import Derived.Test.YtpijnjhheikmcaaPureChain2
import Derived.Test.YtpijnjhheikmcaaQue
import Derived.Test.YtpijnjhheikmcaaRd
namespace Go.Proofs.Ytpijnjhheikmcaa
open Go.RowKit

theorem infoSS : (Try.prog.info? 22).map (fun i => (i.zero, i.size, i.bytes)) = some (some (.slice none 0 0), 1, 24) := by kernel_rfl
/-- The role of a block: 0: it does not turn; 1: the row of the generators' rows; 2 + 2 i: the row of the representatives of level i; 3 + 2 i: the generators of level i; from 100 on: another's. -/
abbrev Role := Nat → Nat
def RZ (r : Role) (b : Nat) : Prop := r b = 0

/-- A row of representatives. -/
def RowAt (w : World) (r : Role) (B d b : Nat) (f : Nat → Option (List Int)) : Prop :=
  ∃ rh : Nat → Hdr, Own w B 23 (some ⟨b, 0, none⟩) d d ((List.range d).map fun y => hvv (rh y)) ∧ ∀ y, y < d → (f y = none → rh y = (none, 0, 0)) ∧ ∀ t, f y = some t → (rh y).1 ≠ none ∧ IntsD (RZ r) w (rh y).1 (rh y).2.1 t ∧ (rh y).2.1 ≤ (rh y).2.2
/-- The generators of a level. -/
def GensAt (w : World) (r : Role) (B i : Nat) (h : Hdr) (gs : List (List Int)) : Prop :=
  ∃ hs : List Hdr, Own w B 23 h.1 h.2.1 h.2.2 (hs.map hvv) ∧ gs.length = h.2.1 ∧ (∀ b, fpI h.1 b → r b = 3 + 2 * i) ∧ ∀ (j : Nat) (x : Hdr) (g : List Int), hs[j]? = some x → gs[j]? = some g → IntsD (RZ r) w x.1 x.2.1 g ∧ x.2.1 ≤ x.2.2
theorem IntsD.move {D D' : Nat → Prop} {w w' : World} {a : Option Addr} {n : Nat} {xs : List Int} (h : IntsD D w a n xs) (hk : Kept D w w') (hr : ∀ c, c < w.heap.size → D c → D' c) : IntsD D' w' a n xs :=
  ((h.mono (D' := fun b => D b ∧ D' b) fun b hb hd => ⟨hd, hr b hb hd⟩).kept fun b hb hl => hk b hb.1 hl).mono fun _ _ hd => hd.2
theorem RowAt.step {w w' : World} {r r' : Role} {B d b : Nat} {f : Nat → Option (List Int)} (h : RowAt w r B d b f) (hb : w'.heap[b]? = w.heap[b]?) (hk : Kept (RZ r) w w') (hr : ∀ c, c < w.heap.size → RZ r c → RZ r' c) : RowAt w' r' B d b f := by
  obtain ⟨rh, h1, h2⟩ := h
  refine ⟨rh, h1.of_heap fun b' off s e => by cases e; exact hb, fun y hy => ⟨(h2 y hy).1, fun t e => ?_⟩⟩
  obtain ⟨a1, a2, a3⟩ := (h2 y hy).2 t e
  exact ⟨a1, a2.move hk hr, a3⟩
theorem GensAt.step {w w' : World} {r r' : Role} {B i : Nat} {h : Hdr} {gs : List (List Int)} (h0 : GensAt w r B i h gs) (hb : ∀ b, fpI h.1 b → w'.heap[b]? = w.heap[b]?) (hk : Kept (RZ r) w w') (hr : ∀ c, c < w.heap.size → RZ r c → RZ r' c) (hr3 : ∀ b, fpI h.1 b → r' b = r b) : GensAt w' r' B i h gs := by
  obtain ⟨hs, h1, h2, h3, h4⟩ := h0
  exact ⟨hs, h1.of_heap fun b off s e => hb b ⟨off, s, e⟩, h2, fun b e => by rw [hr3 b e]; exact h3 b e, fun j x g e e' => ⟨(h4 j x g e e').1.move hk hr, (h4 j x g e e').2⟩⟩

/-- A chain. -/
structure Ch (w : World) (r : Role) (B d og ot cp gb tb gc tc : Nat) (rb : Nat → Nat) (gh : Nat → Hdr) (R : Tr) (G : Nat → List (List Int)) : Prop where
  d1 : 1 ≤ d
  d2 : d ≤ 20
  c0 : w.cell? ⟨cp, 0, none⟩ = some (.int .i64 d)
  c1 : w.cell? ⟨cp, og, none⟩ = some (.slice (some ⟨gb, 0, none⟩) d gc)
  c2 : w.cell? ⟨cp, ot, none⟩ = some (.slice (some ⟨tb, 0, none⟩) d tc)
  rc : r cp = 0
  rt : r tb = 0
  rg : r gb = 1
  tt : ∀ i, i < d → w.cell? ⟨tb, i, none⟩ = some (.slice (some ⟨rb i, 0, none⟩) d d) ∧ r (rb i) = 2 + 2 * i
  gg : Own w B 22 (some ⟨gb, 0, none⟩) d gc ((List.range d).map fun i => hvv (gh i))
  rows : ∀ i, i < d → RowAt w r B d (rb i) (R i)
  gens : ∀ i, i < d → GensAt w r B i (gh i) (G i)
  lo : ∀ b, r b ≠ 0 → B ≤ b ∧ b < w.heap.size

section
variable {w w' : World} {r r' : Role} {B d og ot cp gb tb gc tc : Nat} {rb : Nat → Nat} {gh : Nat → Hdr} {R : Tr} {G : Nat → List (List Int)}

theorem Ch.rb_lt (h : Ch w r B d og ot cp gb tb gc tc rb gh R G) {i : Nat} (hi : i < d) : B ≤ rb i ∧ rb i < w.heap.size := h.lo _ (by rw [(h.tt i hi).2]; omega)
theorem Ch.rb_ne (h : Ch w r B d og ot cp gb tb gc tc rb gh R G) {i j : Nat} (hi : i < d) (hj : j < d) (hij : i ≠ j) : rb i ≠ rb j := fun e => by
  have h1 := (h.tt i hi).2
  have h2 := (h.tt j hj).2
  rw [e] at h1
  omega
theorem Ch.gens_fp (h : Ch w r B d og ot cp gb tb gc tc rb gh R G) {i : Nat} (hi : i < d) : ∀ b, fpI (gh i).1 b → r b = 3 + 2 * i := by
  obtain ⟨_, _, _, h, _⟩ := h.gens i hi; exact h

/-- Others' blocks turn, blocks come. -/
theorem Ch.side (h : Ch w r B d og ot cp gb tb gc tc rb gh R G) (hk : ∀ b, b < w.heap.size → r b < 100 → w'.heap[b]? = w.heap[b]?) (he : ∀ b, b < w.heap.size → r' b = r b) (hlo : ∀ b, r' b ≠ 0 → B ≤ b ∧ b < w'.heap.size) :
    Ch w' r' B d og ot cp gb tb gc tc rb gh R G := by
  have hd := h.d2
  have hK : Kept (RZ r) w w' := fun b hb hl => hk b hl (by have : r b = 0 := hb; omega)
  have hcell : ∀ p : Addr, r p.block = 0 → ∀ v, w.cell? p = some v → w'.cell? p = some v := fun p hp v hv => by
    rw [← hv]
    exact World.cell?_of_block (hK _ hp (World.block_lt_of_cell? w p hv))
  have hlt : ∀ p : Addr, ∀ v, w.cell? p = some v → p.block < w.heap.size := fun p v hv => World.block_lt_of_cell? w p hv
  have hgb := (h.lo gb (by rw [h.rg]; omega)).2
  have hr : ∀ c, c < w.heap.size → RZ r c → RZ r' c := fun c hc hz => by show r' c = 0; rw [he c hc]; exact hz
  refine ⟨h.d1, h.d2, hcell _ h.rc _ h.c0, hcell _ h.rc _ h.c1, hcell _ h.rc _ h.c2, by rw [he _ (hlt _ _ h.c0)]; exact h.rc, by rw [he _ (hlt _ _ (h.tt 0 h.d1).1)]; exact h.rt, by rw [he _ hgb]; exact h.rg,
    fun i hi => ⟨hcell _ h.rt _ (h.tt i hi).1, by rw [he _ (h.rb_lt hi).2]; exact (h.tt i hi).2⟩, h.gg.of_heap fun b off s e => by cases e; exact hk _ hgb (by rw [h.rg]; omega),
    fun i hi => ?_, fun i hi => ?_, hlo⟩
  · exact (h.rows i hi).step (hk _ (h.rb_lt hi).2 (by rw [(h.tt i hi).2]; omega)) hK hr
  · have hfl : ∀ b, fpI (gh i).1 b → b < w.heap.size := fun b e => (h.lo b (by rw [h.gens_fp hi b e]; omega)).2
    exact (h.gens i hi).step (fun b e => hk b (hfl b e) (by rw [h.gens_fp hi b e]; omega)) hK hr (fun b e => he b (hfl b e))
theorem Ch.up (h : Ch w r B d og ot cp gb tb gc tc rb gh R G) (hb : Below w.heap.size w w') : Ch w' r B d og ot cp gb tb gc tc rb gh R G :=
  h.side (fun b hl _ => hb.block b hl) (fun _ _ => rfl) fun b hn => ⟨(h.lo b hn).1, Nat.lt_of_lt_of_le (h.lo b hn).2 hb.size⟩
theorem Ch.drew (h : Ch w r B d og ot cp gb tb gc tc rb gh R G) (hd : Drew w w') : Ch w' r B d og ot cp gb tb gc tc rb gh R G := h.up (hd.below _)

/-- What stands at a point of a level. -/
theorem Ch.rep (h : Ch w r B d og ot cp gb tb gc tc rb gh R G) {i y : Nat} (hi : i < d) (hy : y < d) :
    ∃ a n c, w.cell? ⟨rb i, y, none⟩ = some (.slice a n c) ∧ w.frozen? ⟨rb i, y, none⟩ = false ∧ Hd (R i y = none → (a, n, c) = (none, 0, 0)) ∧ Hd (∀ t, R i y = some t → a ≠ none ∧ IntsD (RZ r) w a n t ∧ n ≤ c) := by
  obtain ⟨rh, h1, h2⟩ := h.rows i hi
  obtain ⟨v, e1, e2, e3⟩ := h1.at' hy
  have e3 := e3.o
  rw [List.getElem?_map, List.getElem?_range hy] at e3
  simp only [Option.map_some, Option.some.injEq] at e3
  subst e3
  exact ⟨(rh y).1, (rh y).2.1, (rh y).2.2, e1, e2, (h2 y hy).1, (h2 y hy).2⟩
/-- The head of a level's generators. -/
theorem Ch.head (h : Ch w r B d og ot cp gb tb gc tc rb gh R G) {i : Nat} (hi : i < d) : w.cell? ⟨gb, i, none⟩ = some (.slice (gh i).1 (gh i).2.1 (gh i).2.2) ∧ w.frozen? ⟨gb, i, none⟩ = false ∧ (G i).length = (gh i).2.1 := by
  obtain ⟨v, e1, e2, e3⟩ := h.gg.at' hi
  have e3 := e3.o
  rw [List.getElem?_map, List.getElem?_range hi] at e3
  simp only [Option.map_some, Option.some.injEq] at e3
  subst e3
  obtain ⟨_, _, hl, _⟩ := h.gens i hi
  exact ⟨e1, e2, hl⟩
/-- A generator of a level. -/
theorem Ch.gen (h : Ch w r B d og ot cp gb tb gc tc rb gh R G) {i j : Nat} (hi : i < d) (hj : j < (gh i).2.1) :
    ∃ b a n c g, (gh i).1 = some ⟨b, 0, none⟩ ∧ w.cell? ⟨b, j, none⟩ = some (.slice a n c) ∧ Hd ((G i)[j]? = some g) ∧ IntsD (RZ r) w a n g ∧ n ≤ c := by
  obtain ⟨hs, h1, h2, _, h4⟩ := h.gens i hi
  obtain ⟨b, v, e1, _, _, e2, _, e3⟩ := h1.at hj
  have e3 := e3.o
  rw [List.getElem?_map, Option.map_eq_some_iff] at e3
  obtain ⟨x, e4, rfl⟩ := e3
  have e5 : (G i)[j]? = some ((G i)[j]'(by omega)) := List.getElem?_eq_getElem (by omega)
  obtain ⟨a1, a2⟩ := h4 j x _ e4 e5
  exact ⟨b, x.1, x.2.1, x.2.2, _, e1, e2, e5, a1, a2⟩

/-- A representative is stored. -/
theorem Ch.setRep (h : Ch w r B d og ot cp gb tb gc tc rb gh R G) {k y : Nat} (hk : k < d) (hy : y < d) {a : Option Addr} {n c : Nat} {t : List Int} (ha : a ≠ none) (ht : IntsD (RZ r) w a n t) (hc : n ≤ c) :
    Ch (w.setCell ⟨rb k, y, none⟩ (.slice a n c)) r B d og ot cp gb tb gc tc rb gh (setR R k y t) G := by
  have hd := h.d2
  have hrk := (h.tt k hk).2
  have hK : Kept (RZ r) w (w.setCell ⟨rb k, y, none⟩ (.slice a n c)) := .of_store fun b hb e => by subst e; have : r (rb k) = 0 := hb; omega
  have hoth : ∀ b, b ≠ rb k → (w.setCell ⟨rb k, y, none⟩ (.slice a n c)).heap[b]? = w.heap[b]? := fun b hb => heap_store w (rb k) y b _ hb
  have hcell : ∀ p : Addr, r p.block = 0 → ∀ v, w.cell? p = some v → (w.setCell ⟨rb k, y, none⟩ (.slice a n c)).cell? p = some v := fun p hp v hv => by
    rw [← hv]
    exact World.cell?_of_block (hK _ hp (World.block_lt_of_cell? w p hv))
  have hid : ∀ c, c < w.heap.size → RZ r c → RZ r c := fun _ _ h => h
  refine ⟨h.d1, h.d2, hcell _ h.rc _ h.c0, hcell _ h.rc _ h.c1, hcell _ h.rc _ h.c2, h.rc, h.rt, h.rg, fun i hi => ⟨hcell _ h.rt _ (h.tt i hi).1, (h.tt i hi).2⟩,
    h.gg.of_heap fun b off s e => by cases e; exact hoth _ fun e => (by have := h.rg; rw [e] at this; omega), fun i hi => ?_, fun i hi => ?_, fun b hn => by rw [size_store]; exact h.lo b hn⟩
  · by_cases hik : i = k
    · subst hik
      obtain ⟨rh, h1, h2⟩ := h.rows i hi
      refine ⟨fun z => if z = y then (a, n, c) else rh z, ?_, fun z hz => ?_⟩
      · have hst := h1.store (k := y) (.slice a n c)
        have e : ((List.range d).map fun y => hvv (rh y)).set y (.slice a n c) = (List.range d).map fun z => hvv (if z = y then (a, n, c) else rh z) := by
          apply List.ext_getElem?
          intro j
          rw [List.getElem?_set]
          by_cases hj : j < d
          · by_cases e : y = j
            · subst e; simp [hj, hvv]
            · have e' : ¬ j = y := fun h => e h.symm
              simp [hj, e, e']
          · rw [List.getElem?_eq_none (by simp; omega), List.getElem?_eq_none (by simp; omega)]
            split
            · rw [if_neg (by simp; omega)]
            · rfl
        rw [e] at hst
        exact hst
      · by_cases e : z = y
        · subst e
          rw [setR_same]
          simp only [if_pos]
          exact ⟨fun e => (by cases e), fun u e => (by cases e; exact ⟨ha, ht.kept hK, hc⟩)⟩
        · rw [setR_ne (by simp [e])]
          simp only [if_neg e]
          exact ⟨(h2 z hz).1, fun u e' => (by obtain ⟨a1, a2, a3⟩ := (h2 z hz).2 u e'; exact ⟨a1, a2.kept hK, a3⟩)⟩
    · rw [setR_low hik]
      exact (h.rows i hi).step (hoth _ (h.rb_ne hi hk hik)) hK hid
  · exact (h.gens i hi).step (fun b e => hoth b fun e' => (by have := h.gens_fp hi b e; rw [e'] at this; omega)) hK hid (fun _ _ => rfl)

/-- The roles behind an append to the generators of level k that lie now in the block g. -/
def roleG (r : Role) (k g : Nat) : Role := fun b => if b = g then 3 + 2 * k else r b
/-- A generator is appended, the new head stored. -/
theorem Ch.addGen {w1 : World} (h : Ch w r B d og ot cp gb tb gc tc rb gh R G) {k : Nat} (hk : k < d) {a : Option Addr} {n c : Nat} {p : List Int} (hp : IntsD (RZ r) w a n p) (hc : n ≤ c) {hs : List Hdr}
    (hgens : ∀ (j : Nat) (x : Hdr) (g : List Int), hs[j]? = some x → (G k)[j]? = some g → IntsD (RZ r) w x.1 x.2.1 g ∧ x.2.1 ≤ x.2.2) (hl : hs.length = (G k).length)
    (hg : Grew (gh k).1 w w1) {g2 n2 c2 : Nat} (ho : Own w1 B 23 (some ⟨g2, 0, none⟩) n2 c2 (hs.map hvv ++ [.slice a n c])) (ha2 : (gh k).1 = some ⟨g2, 0, none⟩ ∨ w.heap.size ≤ g2) :
    Ch (w1.setCell ⟨gb, k, none⟩ (.slice (some ⟨g2, 0, none⟩) n2 c2)) (roleG r k g2) B d og ot cp gb tb gc tc rb (fun i => if i = k then (some ⟨g2, 0, none⟩, n2, c2) else gh i) R (addG G k p) ∧
      (∀ b, b < w.heap.size → roleG r k g2 b = r b) ∧ Kept (RZ r) w (w1.setCell ⟨gb, k, none⟩ (.slice (some ⟨g2, 0, none⟩) n2 c2)) := by
  have hd := h.d2
  have hrole : ∀ b, b < w.heap.size → roleG r k g2 b = r b := fun b hb => by
    unfold roleG
    split
    · rename_i e
      subst e
      rcases ha2 with e | e
      · exact (h.gens_fp hk b ⟨0, none, e⟩).symm
      · omega
    · rfl
  have hg2 : roleG r k g2 g2 = 3 + 2 * k := by simp [roleG]
  have hg2l := ho.lt rfl
  have hgbl := (h.lo gb (by rw [h.rg]; omega)).2
  have hgbg : gb ≠ g2 := fun e => by have := hrole gb hgbl; rw [e, hg2, ← e, h.rg] at this; omega
  -- a block that is neither the generators' nor the outer one
  have hoth : ∀ b, b < w.heap.size → b ≠ gb → ¬ fpI (gh k).1 b → (w1.setCell ⟨gb, k, none⟩ (.slice (some ⟨g2, 0, none⟩) n2 c2)).heap[b]? = w.heap[b]? := fun b hb hne hn =>
    (heap_store w1 gb k b _ hne).trans (hg.block b hb fun off s e => hn ⟨off, s, e⟩)
  have hK : Kept (RZ r) w (w1.setCell ⟨gb, k, none⟩ (.slice (some ⟨g2, 0, none⟩) n2 c2)) := fun b hb hl => by
    have hb' : r b = 0 := hb
    exact hoth b hl (fun e => by rw [e, h.rg] at hb'; omega) (fun e => by rw [h.gens_fp hk b e] at hb'; omega)
  have hcell : ∀ q : Addr, r q.block = 0 → ∀ v, w.cell? q = some v → (w1.setCell ⟨gb, k, none⟩ (.slice (some ⟨g2, 0, none⟩) n2 c2)).cell? q = some v := fun q hq v hv => by
    rw [← hv]
    exact World.cell?_of_block (hK _ hq (World.block_lt_of_cell? w q hv))
  have hlt : ∀ q : Addr, ∀ v, w.cell? q = some v → q.block < w.heap.size := fun q v hv => World.block_lt_of_cell? w q hv
  have hid : ∀ c, c < w.heap.size → RZ r c → RZ (roleG r k g2) c := fun c hc hz => by show roleG r k g2 c = 0; rw [hrole c hc]; exact hz
  refine ⟨⟨h.d1, h.d2, hcell _ h.rc _ h.c0, hcell _ h.rc _ h.c1, hcell _ h.rc _ h.c2, by rw [hrole _ (hlt _ _ h.c0)]; exact h.rc, by rw [hrole _ (hlt _ _ (h.tt 0 h.d1).1)]; exact h.rt, by rw [hrole _ hgbl]; exact h.rg,
    fun i hi => ⟨hcell _ h.rt _ (h.tt i hi).1, by rw [hrole _ (h.rb_lt hi).2]; exact (h.tt i hi).2⟩, ?_, fun i hi => ?_, fun i hi => ?_, fun b hn => ?_⟩, hrole, hK⟩
  · have h1 := hg.own h.gg (fun b off s off' s' e e' => by cases e; have := h.gens_fp hk gb ⟨off', s', e'⟩; rw [h.rg] at this; omega)
    have hst := h1.store (k := k) (.slice (some ⟨g2, 0, none⟩) n2 c2)
    have e : ((List.range d).map fun i => hvv (gh i)).set k (.slice (some ⟨g2, 0, none⟩) n2 c2) = (List.range d).map fun i => hvv (if i = k then (some ⟨g2, 0, none⟩, n2, c2) else gh i) := by
      apply List.ext_getElem?
      intro j
      rw [List.getElem?_set]
      by_cases hj : j < d
      · by_cases e : k = j
        · subst e; simp [hj, hvv]
        · have e' : ¬ j = k := fun h => e h.symm
          simp [hj, e, e']
      · rw [List.getElem?_eq_none (by simp; omega), List.getElem?_eq_none (by simp; omega)]
        split
        · rw [if_neg (by simp; omega)]
        · rfl
    rw [e] at hst
    exact hst
  · have hl := (h.rb_lt hi).2
    have hr := (h.tt i hi).2
    exact (h.rows i hi).step (hoth _ hl (fun e => by rw [e, h.rg] at hr; omega) (fun e => by rw [h.gens_fp hk _ e] at hr; omega)) hK hid
  · by_cases hik : i = k
    · subst hik
      simp only [if_pos]
      rw [addG_same]
      have hn2 := ho.length
      simp at hn2
      refine ⟨hs ++ [(a, n, c)], ?_, by simp; omega, fun b ⟨off, s, e⟩ => by cases e; exact hg2, fun j x g e e' => ?_⟩
      · rw [List.map_append]
        exact ho.store_other gb i _ fun b off s e => by cases e; exact fun e => hgbg e.symm
      · by_cases hj : j < hs.length
        · rw [List.getElem?_append_left hj] at e
          rw [List.getElem?_append_left (by omega)] at e'
          obtain ⟨a1, a2⟩ := hgens j x g e e'
          exact ⟨a1.move hK hid, a2⟩
        · rw [List.getElem?_append_right (by omega)] at e
          rw [List.getElem?_append_right (by omega)] at e'
          obtain ⟨q1, rfl⟩ := List.getElem?_eq_some_iff.1 e
          obtain ⟨q2, rfl⟩ := List.getElem?_eq_some_iff.1 e'
          simp only [List.getElem_singleton]
          exact ⟨hp.move hK hid, hc⟩
    · simp only [if_neg hik]
      rw [addG_ne hik]
      have hfl : ∀ b, fpI (gh i).1 b → b < w.heap.size := fun b e => (h.lo b (by rw [h.gens_fp hi b e]; omega)).2
      refine (h.gens i hi).step (fun b e => hoth b (hfl b e) (fun e' => ?_) (fun e' => ?_)) hK hid (fun b e => hrole b (hfl b e))
      · have := h.gens_fp hi b e; rw [e', h.rg] at this; omega
      · have h1 := h.gens_fp hi b e; have h2 := h.gens_fp hk b e'; omega
  · rw [size_store]
    by_cases e : b = g2
    · subst e; exact hg2l
    · have : roleG r k g2 b = r b := by simp [roleG, e]
      rw [this] at hn
      exact ⟨(h.lo b hn).1, Nat.lt_of_lt_of_le (h.lo b hn).2 hg.size⟩
end
end Go.Proofs.Ytpijnjhheikmcaa
