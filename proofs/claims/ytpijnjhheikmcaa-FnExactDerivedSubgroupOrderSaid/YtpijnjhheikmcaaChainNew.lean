/- How a chain comes to be: its parts before it is whole. -/
import Derived.Test.YtpijnjhheikmcaaChainStep
namespace Go.Proofs.Ytpijnjhheikmcaa
open Go.RowKit

/-- The representatives of an empty chain. -/
def R0 (d : Nat) : Tr := fun i y => if y = i then some (idl d) else none
theorem okx_zero {d : Nat} (h1 : 1 ≤ d) (h2 : d ≤ 20) : Okx d (R0 d) (fun _ => []) 0 := by
  refine ⟨fun i _ hi => ⟨⟨fun y t e => ?_, by simp [R0], fun g hg => (by cases hg)⟩, fun y t g _ hg => (by cases hg), fun _ g hg => (by cases hg)⟩, fun i _ _ => Nat.zero_le _⟩
  unfold R0 at e
  split at e
  · rename_i hy
    cases e
    subst hy
    exact ⟨.idl h1 h2, .idl _ _ (by omega), idl_at0 (by omega) (by omega), hi, .one⟩
  · cases e
/-- The chain holds the group of gs. -/
def Built (d : Nat) (gs : List (List Int)) (R : Tr) (G : Nat → List (List Int)) : Prop := Okx d R G 0 ∧ ∀ p, Grp d (G 0) p ↔ Grp d gs p
theorem built_zero {d : Nat} (h1 : 1 ≤ d) (h2 : d ≤ 20) : Built d [] (R0 d) (fun _ => []) := ⟨okx_zero h1 h2, fun _ => Iff.rfl⟩
theorem fx_zero (p : List Int) : Fx 0 p := fun x hx => by omega
theorem Built.gs {d : Nat} (h1 : 1 ≤ d) {gs : List (List Int)} {R : Tr} {G : Nat → List (List Int)} (h : Built d gs R G) : Gs d (G 0) := (h.1.okc 0 (Nat.le_refl _) h1).1.gs
theorem Built.step {d : Nat} (h1 : 1 ≤ d) (h2 : d ≤ 20) {gs : List (List Int)} (hgs : Gs d gs) {p : List Int} (hp : Pm d p) {R R' : Tr} {G G' : Nat → List (List Int)} (h : Built d gs R G) (ha : AddPost d 0 p R G R' G') : Built d (gs ++ [p]) R' G' := by
  have hg0 := h.gs h1
  have hl' := (ha.ok.okc 0 (Nat.le_refl _) h1).1
  have hgs2 : Gs d (gs ++ [p]) := fun g hg => by
    rcases List.mem_append.1 hg with hg | hg
    · exact hgs g hg
    · obtain rfl := List.mem_singleton.1 hg; exact hp
  refine ⟨ha.ok, fun q => ⟨fun hq => ?_, fun hq => ?_⟩⟩
  · refine hq.mono h1 h2 hgs2 fun g hg => ?_
    rcases ha.new g hg with hg | rfl
    · have := (h.2 g).1 (Grp.gen hg0 hg)
      exact this.mono h1 h2 hgs2 fun x hx => Grp.gen hgs2 (List.mem_append_left _ hx)
    · exact Grp.gen hgs2 (List.mem_append_right _ (List.mem_singleton_self _))
  · refine hq.mono h1 h2 hl'.gs fun g hg => ?_
    rcases List.mem_append.1 hg with hg | hg
    · have := (h.2 g).2 (Grp.gen hgs hg)
      exact this.mono h1 h2 hl'.gs fun x hx => Grp.gen hl'.gs (ha.gen x hx)
    · obtain rfl := List.mem_singleton.1 hg
      exact (sf_grp h1 h2 ha.ok.okc _ 0 rfl (Nat.le_refl _) h1 g hp (fx_zero g)).1 ha.has

/-- A chain of which the first i levels stand. -/
structure Pc (w : World) (r : Role) (B d og ot cp i gn : Nat) (ga : Option Addr) (gcap : Nat) (ta : Option Addr) (tcap : Nat) (rb : Nat → Nat) (gh : Nat → Hdr) : Prop where
  c0 : w.cell? ⟨cp, 0, none⟩ = some (.int .i64 d)
  c1 : w.cell? ⟨cp, og, none⟩ = some (.slice ga gn gcap)
  c2 : w.cell? ⟨cp, ot, none⟩ = some (.slice ta i tcap)
  f1 : w.frozen? ⟨cp, og, none⟩ = false
  f2 : w.frozen? ⟨cp, ot, none⟩ = false
  rc : r cp = 101
  rg : ∀ b, fpI ga b → r b = 102
  rt : ∀ b, fpI ta b → r b = 100
  gg : Own w B 22 ga gn gcap ((List.range gn).map fun j => hvv (gh j))
  tt : Own w B 22 ta i tcap ((List.range i).map fun j => .slice (some ⟨rb j, 0, none⟩) d d)
  rr : ∀ j, j < i → r (rb j) = 2 + 2 * j
  rows : ∀ j, j < i → RowAt w r B d (rb j) (R0 d j)
  gens : ∀ j, j < gn → GensAt w r B j (gh j) []
  lo : ∀ b, r b ≠ 0 → B ≤ b ∧ b < w.heap.size

section
variable {w w' : World} {r r' : Role} {B d og ot cp i gn gcap tcap : Nat} {ga ta : Option Addr} {rb : Nat → Nat} {gh : Nat → Hdr}

theorem Pc.fl (h : Pc w r B d og ot cp i gn ga gcap ta tcap rb gh) {j : Nat} (hj : j < gn) : ∀ b, fpI (gh j).1 b → r b = 3 + 2 * j := by
  obtain ⟨_, _, _, h, _⟩ := h.gens j hj; exact h
theorem Pc.new (h : Pc w r B d og ot cp i gn ga gcap ta tcap rb gh) {b : Nat} (hb : w.heap.size ≤ b) : RZ r b := by
  apply Classical.byContradiction
  intro hne
  have := (h.lo b hne).2
  omega
theorem Pc.hB (h : Pc w r B d og ot cp i gn ga gcap ta tcap rb gh) : B ≤ w.heap.size := by have := h.lo cp (by rw [h.rc]; omega); omega
/-- Nothing of it turns; new blocks may get roles. -/
theorem Pc.side (h : Pc w r B d og ot cp i gn ga gcap ta tcap rb gh) (hb : Below w.heap.size w w') (he : ∀ b, b < w.heap.size → r' b = r b) (hlo : ∀ b, r' b ≠ 0 → B ≤ b ∧ b < w'.heap.size) : Pc w' r' B d og ot cp i gn ga gcap ta tcap rb gh := by
  have hcp := (h.lo cp (by rw [h.rc]; omega)).2
  have hK : Kept (RZ r) w w' := .of_below hb
  have hr : ∀ c, c < w.heap.size → RZ r c → RZ r' c := fun c hc hz => by show r' c = 0; rw [he c hc]; exact hz
  have hlt : ∀ b, r b ≠ 0 → b < w.heap.size := fun b hb => (h.lo b hb).2
  refine ⟨(hb.cell (p := ⟨cp, 0, none⟩) hcp).trans h.c0, (hb.cell (p := ⟨cp, og, none⟩) hcp).trans h.c1, (hb.cell (p := ⟨cp, ot, none⟩) hcp).trans h.c2, (hb.frozen (p := ⟨cp, og, none⟩) hcp).trans h.f1, (hb.frozen (p := ⟨cp, ot, none⟩) hcp).trans h.f2,
    by rw [he _ hcp]; exact h.rc, fun b e => by rw [he b (hlt b (by rw [h.rg b e]; omega))]; exact h.rg b e, fun b e => by rw [he b (hlt b (by rw [h.rt b e]; omega))]; exact h.rt b e, h.gg.up hb, h.tt.up hb,
    fun j hj => by rw [he _ (hlt _ (by rw [h.rr j hj]; omega))]; exact h.rr j hj, fun j hj => (h.rows j hj).step (hb.block _ (hlt _ (by rw [h.rr j hj]; omega))) hK hr, fun j hj => ?_, hlo⟩
  have hfl : ∀ b, fpI (gh j).1 b → b < w.heap.size := fun b e => hlt b (by rw [h.fl hj b e]; omega)
  exact (h.gens j hj).step (fun b e => hb.block b (hfl b e)) hK hr (fun b e => he b (hfl b e))
theorem Pc.up (h : Pc w r B d og ot cp i gn ga gcap ta tcap rb gh) (hb : Below w.heap.size w w') : Pc w' r B d og ot cp i gn ga gcap ta tcap rb gh :=
  h.side hb (fun _ _ => rfl) fun b hn => ⟨(h.lo b hn).1, Nat.lt_of_lt_of_le (h.lo b hn).2 hb.size⟩

/-- What is of no level and of no outer row of the chain that is being made stands. -/
def Stand (r : Role) (w w' : World) : Prop := ∀ b, b < w.heap.size → r b = 0 ∨ 200 ≤ r b → w'.heap[b]? = w.heap[b]?
/-- The role of one block is set. -/
def roleS (r : Role) (g v : Nat) : Role := fun b => if b = g then v else r b
/-- One of the outer rows is appended to, its head stored: what does not hang on it. -/
theorem Pc.other (h : Pc w r B d og ot cp i gn ga gcap ta tcap rb gh) {a : Option Addr} {w1 : World} (hg : Grew a w w1) {v g2 o : Nat} (hv : v = 100 ∨ v = 102) (ha : ∀ b, fpI a b → r b = v) (hg2 : fpI a g2 ∨ w.heap.size ≤ g2) (hg2l : B ≤ g2 ∧ g2 < w1.heap.size) (u : Value) :
    (∀ b, b < w.heap.size → roleS r g2 v b = r b) ∧ Kept (RZ r) w (w1.setCell ⟨cp, o, none⟩ u) ∧ (∀ b, b < w.heap.size → r b ≠ v → b ≠ cp → (w1.setCell ⟨cp, o, none⟩ u).heap[b]? = w.heap[b]?) ∧
      (∀ b, roleS r g2 v b ≠ 0 → B ≤ b ∧ b < (w1.setCell ⟨cp, o, none⟩ u).heap.size) ∧ Below B w (w1.setCell ⟨cp, o, none⟩ u) := by
  have hrole : ∀ b, b < w.heap.size → roleS r g2 v b = r b := fun b hb => by
    unfold roleS
    split
    · rename_i e
      subst e
      rcases hg2 with e | e
      · exact (ha b e).symm
      · omega
    · rfl
  have hblk : ∀ b, b < w.heap.size → r b ≠ v → b ≠ cp → (w1.setCell ⟨cp, o, none⟩ u).heap[b]? = w.heap[b]? := fun b hb hne hc =>
    (heap_store w1 cp o b u hc).trans (hg.block b hb fun off s e => hne (ha b ⟨off, s, e⟩))
  refine ⟨hrole, fun b hb hl => hblk b hl (by have : r b = 0 := hb; omega) (fun e => by subst e; have h1 := h.rc; have h2 : r b = 0 := hb; omega), hblk, fun b hn => ?_, (hg.below h.hB fun b off s e => (h.lo b (by rw [ha b ⟨off, s, e⟩]; omega)).1).setCell (p := ⟨cp, o, none⟩) (h.lo cp (by rw [h.rc]; omega)).1 u⟩
  rw [size_store]
  by_cases e : b = g2
  · subst e; exact hg2l
  · have : roleS r g2 v b = r b := by simp [roleS, e]
    rw [this] at hn
    exact ⟨(h.lo b hn).1, Nat.lt_of_lt_of_le (h.lo b hn).2 hg.size⟩

theorem ownRange {n : Nat} {f : Nat → Value} {v : Value} : ((List.range n).map f) ++ [v] = (List.range (n + 1)).map fun j => if j = n then v else f j := by
  rw [List.range_succ, List.map_append, List.map_singleton, if_pos rfl]
  congr 1
  refine List.map_congr_left fun j hj => ?_
  rw [if_neg (by have := List.mem_range.1 hj; omega)]

/-- A row of representatives joins. -/
theorem Pc.addRow (h : Pc w r B d og ot cp i gn ga gcap ta tcap rb gh) (hot : og ≠ ot) (h0 : og ≠ 0 ∧ ot ≠ 0) {b1 : Nat} (hb1 : RowAt w r B d b1 (R0 d i)) (hrb : r b1 = 2 + 2 * i) (hi : i < 20) (hgn : gn ≤ 20)
    {w1 : World} (hg : Grew ta w w1) {a2 : Option Addr} {n2 c2 j : Nat} (ho : Own w1 B 22 a2 n2 c2 (((List.range i).map fun j => .slice (some ⟨rb j, 0, none⟩) d d) ++ [.slice (some ⟨b1, 0, none⟩) d d])) (ha : a2 = ta ∨ a2 = some ⟨w.heap.size + j, 0, none⟩) :
    ∃ g2, Pc (w1.setCell ⟨cp, ot, none⟩ (.slice a2 n2 c2)) (roleS r g2 100) B d og ot cp (i + 1) gn ga gcap a2 c2 (fun j => if j = i then b1 else rb j) gh ∧ Below B w (w1.setCell ⟨cp, ot, none⟩ (.slice a2 n2 c2)) ∧ (∀ b, b < w.heap.size → roleS r g2 100 b = r b) ∧ Stand r w (w1.setCell ⟨cp, ot, none⟩ (.slice a2 n2 c2)) := by
  have hl := ho.length
  simp at hl
  obtain ⟨g2, rfl⟩ : ∃ g2, a2 = some ⟨g2, 0, none⟩ := by
    rcases ho.addr with ⟨_, h, _⟩ | ⟨g, h, _⟩
    · omega
    · exact ⟨g, h⟩
  have hg2l := ho.lt rfl
  obtain ⟨hrole, hK, hblk, hlo, hbel⟩ := h.other hg (v := 100) (o := ot) (.inl rfl) h.rt (g2 := g2) (by rcases ha with e | e; exact .inl ⟨0, none, e.symm⟩; cases e; exact .inr (Nat.le_add_right _ _)) hg2l (.slice (some ⟨g2, 0, none⟩) n2 c2)
  have hcp := h.lo cp (by rw [h.rc]; omega)
  have hlt : ∀ b, r b ≠ 0 → b < w.heap.size := fun b hb => (h.lo b hb).2
  have hr2 : ∀ c, c < w.heap.size → RZ r c → RZ (roleS r g2 100) c := fun c hc hz => by show roleS r g2 100 c = 0; rw [hrole c hc]; exact hz
  have hncp : ¬ fpI ta cp := fun e => by have := h.rt cp e; rw [h.rc] at this; omega
  have hcell : ∀ o v, w.cell? ⟨cp, o, none⟩ = some v → w1.cell? ⟨cp, o, none⟩ = some v := fun o v hv => hg.cell_far hv hncp
  have hfr : ∀ o, w.frozen? ⟨cp, o, none⟩ = false → w1.frozen? ⟨cp, o, none⟩ = false := fun o hv => (hg.frozen_far (p := ⟨cp, o, none⟩) hcp.2 hncp).trans hv
  have hst : ∀ o v, o ≠ ot → w1.cell? ⟨cp, o, none⟩ = some v → (w1.setCell ⟨cp, ot, none⟩ (.slice (some ⟨g2, 0, none⟩) n2 c2)).cell? ⟨cp, o, none⟩ = some v := fun o v hne hv => by
    rw [World.cell?_setCell_other _ _ _ (b := ⟨cp, o, none⟩) (by intro e; cases e; exact hne rfl)]; exact hv
  obtain ⟨v1, hv1⟩ : ∃ v, w1.cell? ⟨cp, ot, none⟩ = some v := ⟨_, hcell _ _ h.c2⟩
  obtain rfl : n2 = i + 1 := hl.symm
  have hg2cp : g2 ≠ cp := fun e => by
    rcases ha with e' | e'
    · exact hncp ⟨0, none, by rw [← e', e]⟩
    · cases e'; omega
  refine ⟨g2, ⟨hst _ _ (Ne.symm h0.2) (hcell _ _ h.c0), hst _ _ hot (hcell _ _ h.c1), World.cell?_setCell_same _ _ _ hv1, by rw [World.frozen?_setCell]; exact hfr _ h.f1, by rw [World.frozen?_setCell]; exact hfr _ h.f2, by rw [hrole _ hcp.2]; exact h.rc, fun b e => by rw [hrole b (hlt b (by rw [h.rg b e]; omega))]; exact h.rg b e, fun b ⟨off, s, e⟩ => by cases e; simp [roleS],
    h.gg.of_heap fun b off s e => ?_, ?_, fun j hj => ?_, fun j hj => ?_, fun j hj => ?_, hlo⟩, hbel, hrole, fun b hb h2 => hblk b hb (by omega) (fun e => by have := h.rc; rw [← e] at this; omega)⟩
  · have hr := h.rg b ⟨off, s, e⟩
    exact hblk b (hlt b (by omega)) (by omega) (fun e => by rw [e, h.rc] at hr; omega)
  · have h1 := ho.store_other cp ot (.slice (some ⟨g2, 0, none⟩) (i + 1) c2) (fun b off s e => by cases e; exact hg2cp)
    rw [ownRange] at h1
    refine Eq.mp (congrArg (fun l => Own _ B _ _ _ _ l) (List.map_congr_left fun j _ => ?_)) h1
    split <;> rfl
  · by_cases e : j = i
    · subst e; simp only [if_pos]; rw [hrole _ hb1.lt]; exact hrb
    · simp only [if_neg e]; rw [hrole _ (hlt _ (by rw [h.rr j (by omega)]; omega))]; exact h.rr j (by omega)
  · by_cases e : j = i
    · subst e
      simp only [if_pos]
      exact hb1.step (hblk _ hb1.lt (by omega) (fun e => by rw [e, h.rc] at hrb; omega)) hK hr2
    · simp only [if_neg e]
      have hr := h.rr j (by omega)
      exact (h.rows j (by omega)).step (hblk _ (hlt _ (by omega)) (by omega) (fun e => by rw [e, h.rc] at hr; omega)) hK hr2
  · have hfl : ∀ b, fpI (gh j).1 b → b < w.heap.size := fun b e => hlt b (by rw [h.fl hj b e]; omega)
    exact (h.gens j hj).step (fun b e => hblk b (hfl b e) (by rw [h.fl hj b e]; omega) (fun e' => by have := h.fl hj b e; rw [e', h.rc] at this; omega)) hK hr2 (fun b e => hrole b (hfl b e))

/-- An empty row of generators joins. -/
theorem Pc.addGen (h : Pc w r B d og ot cp i gn ga gcap ta tcap rb gh) (hot : og ≠ ot) (h0 : og ≠ 0 ∧ ot ≠ 0) {b1 : Nat} (hb1 : Own w B 23 (some ⟨b1, 0, none⟩) 0 0 []) (hrb : r b1 = 3 + 2 * gn) (hi : i ≤ 20) (hgn : gn < 20)
    {w1 : World} (hg : Grew ga w w1) {a2 : Option Addr} {n2 c2 j : Nat} (ho : Own w1 B 22 a2 n2 c2 (((List.range gn).map fun j => hvv (gh j)) ++ [.slice (some ⟨b1, 0, none⟩) 0 0])) (ha : a2 = ga ∨ a2 = some ⟨w.heap.size + j, 0, none⟩) :
    ∃ g2, Pc (w1.setCell ⟨cp, og, none⟩ (.slice a2 n2 c2)) (roleS r g2 102) B d og ot cp i (gn + 1) a2 c2 ta tcap rb (fun j => if j = gn then (some ⟨b1, 0, none⟩, 0, 0) else gh j) ∧ Below B w (w1.setCell ⟨cp, og, none⟩ (.slice a2 n2 c2)) ∧ (∀ b, b < w.heap.size → roleS r g2 102 b = r b) ∧ Stand r w (w1.setCell ⟨cp, og, none⟩ (.slice a2 n2 c2)) := by
  have hl := ho.length
  simp at hl
  obtain ⟨g2, rfl⟩ : ∃ g2, a2 = some ⟨g2, 0, none⟩ := by
    rcases ho.addr with ⟨_, h, _⟩ | ⟨g, h, _⟩
    · omega
    · exact ⟨g, h⟩
  have hg2l := ho.lt rfl
  obtain ⟨hrole, hK, hblk, hlo, hbel⟩ := h.other hg (v := 102) (o := og) (.inr rfl) h.rg (g2 := g2) (by rcases ha with e | e; exact .inl ⟨0, none, e.symm⟩; cases e; exact .inr (Nat.le_add_right _ _)) hg2l (.slice (some ⟨g2, 0, none⟩) n2 c2)
  have hcp := h.lo cp (by rw [h.rc]; omega)
  have hlt : ∀ b, r b ≠ 0 → b < w.heap.size := fun b hb => (h.lo b hb).2
  have hb1l := (hb1.lt rfl).2
  have hr2 : ∀ c, c < w.heap.size → RZ r c → RZ (roleS r g2 102) c := fun c hc hz => by show roleS r g2 102 c = 0; rw [hrole c hc]; exact hz
  have hncp : ¬ fpI ga cp := fun e => by have := h.rg cp e; rw [h.rc] at this; omega
  have hcell : ∀ o v, w.cell? ⟨cp, o, none⟩ = some v → w1.cell? ⟨cp, o, none⟩ = some v := fun o v hv => hg.cell_far hv hncp
  have hfr : ∀ o, w.frozen? ⟨cp, o, none⟩ = false → w1.frozen? ⟨cp, o, none⟩ = false := fun o hv => (hg.frozen_far (p := ⟨cp, o, none⟩) hcp.2 hncp).trans hv
  have hst : ∀ o v, o ≠ og → w1.cell? ⟨cp, o, none⟩ = some v → (w1.setCell ⟨cp, og, none⟩ (.slice (some ⟨g2, 0, none⟩) n2 c2)).cell? ⟨cp, o, none⟩ = some v := fun o v hne hv => by
    rw [World.cell?_setCell_other _ _ _ (b := ⟨cp, o, none⟩) (by intro e; cases e; exact hne rfl)]; exact hv
  obtain ⟨v1, hv1⟩ : ∃ v, w1.cell? ⟨cp, og, none⟩ = some v := ⟨_, hcell _ _ h.c1⟩
  obtain rfl : n2 = gn + 1 := hl.symm
  have hg2cp : g2 ≠ cp := fun e => by
    rcases ha with e' | e'
    · exact hncp ⟨0, none, by rw [← e', e]⟩
    · cases e'; omega
  refine ⟨g2, ⟨hst _ _ (Ne.symm h0.1) (hcell _ _ h.c0), World.cell?_setCell_same _ _ _ hv1, hst _ _ (Ne.symm hot) (hcell _ _ h.c2), by rw [World.frozen?_setCell]; exact hfr _ h.f1, by rw [World.frozen?_setCell]; exact hfr _ h.f2, by rw [hrole _ hcp.2]; exact h.rc, fun b ⟨off, s, e⟩ => by cases e; simp [roleS], fun b e => by rw [hrole b (hlt b (by rw [h.rt b e]; omega))]; exact h.rt b e,
    ?_, h.tt.of_heap fun b off s e => ?_, fun j hj => ?_, fun j hj => ?_, fun j hj => ?_, hlo⟩, hbel, hrole, fun b hb h2 => hblk b hb (by omega) (fun e => by have := h.rc; rw [← e] at this; omega)⟩
  · have h1 := ho.store_other cp og (.slice (some ⟨g2, 0, none⟩) (gn + 1) c2) (fun b off s e => by cases e; exact hg2cp)
    rw [ownRange] at h1
    refine Eq.mp (congrArg (fun l => Own _ B _ _ _ _ l) (List.map_congr_left fun j _ => ?_)) h1
    split <;> rfl
  · have hr := h.rt b ⟨off, s, e⟩
    exact hblk b (hlt b (by omega)) (by omega) (fun e => by rw [e, h.rc] at hr; omega)
  · rw [hrole _ (hlt _ (by rw [h.rr j hj]; omega))]; exact h.rr j hj
  · have hr := h.rr j hj
    exact (h.rows j hj).step (hblk _ (hlt _ (by omega)) (by omega) (fun e => by rw [e, h.rc] at hr; omega)) hK hr2
  · by_cases e : j = gn
    · subst e
      simp only [if_pos]
      refine ⟨[], hb1.of_heap fun b off s e => ?_, rfl, fun b ⟨off, s, e⟩ => ?_, by simp⟩
      · cases e; exact hblk _ hb1l (by omega) (fun e => by rw [e, h.rc] at hrb; omega)
      · cases e; rw [hrole _ hb1l]; exact hrb
    · simp only [if_neg e]
      have hj' : j < gn := by omega
      have hfl : ∀ b, fpI (gh j).1 b → b < w.heap.size := fun b e => hlt b (by rw [h.fl hj' b e]; omega)
      exact (h.gens j hj').step (fun b e => hblk b (hfl b e) (by rw [h.fl hj' b e]; omega) (fun e' => by have := h.fl hj' b e; rw [e', h.rc] at this; omega)) hK hr2 (fun b e => hrole b (hfl b e))

/-- The roles of a chain that is whole. -/
def roleE (r : Role) (cp gb tb : Nat) : Role := fun b => if b = cp ∨ b = tb then 0 else if b = gb then 1 else r b
/-- All levels stand. -/
theorem Pc.finish (h : Pc w r B d og ot cp d d ga gcap ta tcap rb gh) (h1 : 1 ≤ d) (h2 : d ≤ 20) : ∃ gb tb, Ch w (roleE r cp gb tb) B d og ot cp gb tb gcap tcap rb gh (R0 d) (fun _ => []) ∧ ∀ b, r b < 100 ∨ 102 < r b → roleE r cp gb tb b = r b := by
  obtain ⟨gb, rfl⟩ : ∃ g, ga = some ⟨g, 0, none⟩ := by
    rcases h.gg.addr with ⟨_, h, _⟩ | ⟨g, h, _⟩
    · omega
    · exact ⟨g, h⟩
  obtain ⟨tb, rfl⟩ : ∃ g, ta = some ⟨g, 0, none⟩ := by
    rcases h.tt.addr with ⟨_, h, _⟩ | ⟨g, h, _⟩
    · omega
    · exact ⟨g, h⟩
  have rgb := h.rg gb ⟨0, none, rfl⟩
  have rtb := h.rt tb ⟨0, none, rfl⟩
  have rcp := h.rc
  have hsame2 : ∀ b, r b < 100 ∨ 102 < r b → roleE r cp gb tb b = r b := fun b hb => by
    unfold roleE
    rw [if_neg, if_neg]
    · intro e; rw [e, rgb] at hb; omega
    · rintro (e | e)
      · rw [e, rcp] at hb; omega
      · rw [e, rtb] at hb; omega
  have hsame : ∀ b, r b < 100 → roleE r cp gb tb b = r b := fun b hb => hsame2 b (.inl hb)
  have hz : ∀ c, c < w.heap.size → RZ r c → RZ (roleE r cp gb tb) c := fun c _ hc => by show roleE r cp gb tb c = 0; rw [hsame c (by have : r c = 0 := hc; omega)]; exact hc
  have hK : Kept (RZ r) w w := fun _ _ _ => rfl
  refine ⟨gb, tb, ⟨h1, h2, h.c0, h.c1, h.c2, by simp [roleE], by simp [roleE], ?_, fun i hi => ⟨?_, ?_⟩, h.gg, fun i hi => (h.rows i hi).step rfl hK hz, fun i hi => (h.gens i hi).step (fun _ _ => rfl) hK hz (fun b e => hsame b (by rw [h.fl hi b e]; omega)), fun b hn => ?_⟩, hsame2⟩
  · unfold roleE
    rw [if_neg, if_pos rfl]
    rintro (e | e)
    · rw [e, rcp] at rgb; omega
    · rw [e, rtb] at rgb; omega
  · obtain ⟨v, e1, _, e2⟩ := h.tt.at' hi
    have e2 := e2.o
    rw [List.getElem?_map, List.getElem?_range hi] at e2
    simp only [Option.map_some, Option.some.injEq] at e2
    rw [e1, e2]
  · rw [hsame _ (by rw [h.rr i hi]; omega)]; exact h.rr i hi
  · apply h.lo
    intro e
    exact hn (by rw [hsame b (by omega)]; exact e)
end
end Go.Proofs.Ytpijnjhheikmcaa
