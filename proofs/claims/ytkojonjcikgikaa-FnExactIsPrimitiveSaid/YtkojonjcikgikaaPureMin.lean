/- The finest partition with some pairs of points in one block that permutations keep: labels of points, merged till nothing changes; the blocks of labels; no program in sight. -/
import Derived.Test.YtkojonjcikgikaaPureStab
namespace Go.Proofs.Ytkojonjcikgikaa

/-- The smallest equivalence of the points below d that holds the pairs S and goes with the permutations. -/
inductive Cg (d : Nat) (gens : List (List Int)) (S : Int → Int → Prop) : Int → Int → Prop
  | base {i j : Int} : S i j → Cg d gens S i j
  | refl {i : Int} : 0 ≤ i → i < d → Cg d gens S i i
  | symm {i j : Int} : Cg d gens S i j → Cg d gens S j i
  | trans {i j k : Int} : Cg d gens S i j → Cg d gens S j k → Cg d gens S i k
  | img {i j : Int} {g : List Int} : g ∈ gens → Cg d gens S i j → Cg d gens S (at0 g i) (at0 g j)
/-- The pairs are pairs of points. -/
def Pts (d : Nat) (S : Int → Int → Prop) : Prop := ∀ i j, S i j → (0 ≤ i ∧ i < d) ∧ 0 ≤ j ∧ j < (d : Int)
theorem Cg.rng {d : Nat} {gens : List (List Int)} {S : Int → Int → Prop} (hg : Gs d gens) (hS : Pts d S) {i j : Int} (h : Cg d gens S i j) : (0 ≤ i ∧ i < (d : Int)) ∧ 0 ≤ j ∧ j < (d : Int) := by
  induction h with
  | base h => exact hS _ _ h
  | refl h0 h1 => exact ⟨⟨h0, h1⟩, h0, h1⟩
  | symm _ ih => exact ⟨ih.2, ih.1⟩
  | trans _ _ ih1 ih2 => exact ⟨ih1.1, ih2.2⟩
  | img hm _ ih => exact ⟨(hg _ hm).rng ih.1.1 ih.1.2, (hg _ hm).rng ih.2.1 ih.2.2⟩

/-- All labels b become a. -/
def mrg (L : List Int) (a b : Int) : List Int := L.map fun v => if v = b then a else v
theorem mrg_length (L : List Int) (a b : Int) : (mrg L a b).length = L.length := by simp [mrg]
theorem at0_get {L : List Int} {x : Int} (h0 : 0 ≤ x) (hx : x < L.length) : L[x.toNat]? = some (at0 L x) := by
  have : x.toNat < L.length := by omega
  unfold at0
  rw [List.getElem?_eq_getElem this]; rfl
theorem at0_mem {L : List Int} {x : Int} (h0 : 0 ≤ x) (hx : x < L.length) : at0 L x ∈ L := List.mem_of_getElem? (at0_get h0 hx)
theorem mrg_at {L : List Int} {a b x : Int} (h0 : 0 ≤ x) (hx : x < L.length) : at0 (mrg L a b) x = if at0 L x = b then a else at0 L x := by
  have h := at0_get h0 hx
  apply at0_of
  unfold mrg
  rw [List.getElem?_map, h]; rfl
theorem mrg_self (L : List Int) (a : Int) : mrg L a a = L := by
  unfold mrg
  conv => rhs; rw [← List.map_id L]
  refine List.map_congr_left fun v _ => ?_
  split
  · rename_i h; exact h.symm
  · rfl
/-- Labels of the points. -/
structure Lab (d : Nat) (L : List Int) : Prop where
  len : L.length = d
  rng : ∀ v ∈ L, 0 ≤ v ∧ v < (d : Int)
theorem Lab.idl (d : Nat) : Lab d (Go.Proofs.Ytkojonjcikgikaa.idl d) := ⟨idl_length d, fun _ hv => mem_idl.1 hv⟩
theorem Lab.at {d : Nat} {L : List Int} (h : Lab d L) {x : Int} (h0 : 0 ≤ x) (hx : x < d) : 0 ≤ at0 L x ∧ at0 L x < d := h.rng _ (at0_mem h0 (by rw [h.len]; exact hx))
theorem Lab.mrg {d : Nat} {L : List Int} (h : Lab d L) {a b : Int} (ha : 0 ≤ a ∧ a < d) : Lab d (Go.Proofs.Ytkojonjcikgikaa.mrg L a b) := by
  refine ⟨by rw [mrg_length]; exact h.len, fun v hv => ?_⟩
  unfold Go.Proofs.Ytkojonjcikgikaa.mrg at hv
  obtain ⟨u, hu, rfl⟩ := List.mem_map.1 hv
  split
  · exact ha
  · exact h.rng u hu
/-- Equal labels, only where E. -/
def SubE (d : Nat) (L : List Int) (E : Int → Int → Prop) : Prop := ∀ i j : Int, 0 ≤ i → i < d → 0 ≤ j → j < d → at0 L i = at0 L j → E i j
/-- Equal labels go with the permutations. -/
def ClE (d : Nat) (gens : List (List Int)) (L : List Int) : Prop := ∀ g ∈ gens, ∀ i j : Int, 0 ≤ i → i < d → 0 ≤ j → j < d → at0 L i = at0 L j → at0 L (at0 g i) = at0 L (at0 g j)
section
variable {d : Nat} {gens : List (List Int)} {S : Int → Int → Prop} {L : List Int}
theorem SubE.idl : SubE d (Go.Proofs.Ytkojonjcikgikaa.idl d) (Cg d gens S) := fun i j h0 hi h0' hj e => by
  rw [idl_at0 h0 hi, idl_at0 h0' hj] at e
  subst e
  exact .refl h0 hi
theorem SubE.mrg (hl : Lab d L) (h : SubE d L (Cg d gens S)) {i j : Int} (hi : 0 ≤ i ∧ i < d) (hj : 0 ≤ j ∧ j < d) (he : Cg d gens S i j) : SubE d (Go.Proofs.Ytkojonjcikgikaa.mrg L (at0 L i) (at0 L j)) (Cg d gens S) := by
  intro p q p0 hp q0 hq e
  rw [mrg_at p0 (by rw [hl.len]; exact hp), mrg_at q0 (by rw [hl.len]; exact hq)] at e
  split at e <;> split at e
  · rename_i e1 e2; exact h p q p0 hp q0 hq (e1.trans e2.symm)
  · rename_i e1 e2
    exact .trans (h p j p0 hp hj.1 hj.2 e1) (.trans (.symm he) (h i q hi.1 hi.2 q0 hq e))
  · rename_i e1 e2
    exact .trans (h p i p0 hp hi.1 hi.2 e) (.trans he (h j q hj.1 hj.2 q0 hq e2.symm))
  · exact h p q p0 hp q0 hq e
theorem mrg_keeps (hl : Lab d L) {a b p q : Int} (hp : 0 ≤ p ∧ p < d) (hq : 0 ≤ q ∧ q < d) (e : at0 L p = at0 L q) : at0 (mrg L a b) p = at0 (mrg L a b) q := by
  rw [mrg_at hp.1 (by rw [hl.len]; exact hp.2), mrg_at hq.1 (by rw [hl.len]; exact hq.2), e]
theorem mrg_joins (hl : Lab d L) {p q : Int} (hp : 0 ≤ p ∧ p < d) (hq : 0 ≤ q ∧ q < d) : at0 (mrg L (at0 L p) (at0 L q)) p = at0 (mrg L (at0 L p) (at0 L q)) q := by
  rw [mrg_at hp.1 (by rw [hl.len]; exact hp.2), mrg_at hq.1 (by rw [hl.len]; exact hq.2), if_pos rfl]
  split <;> rfl
theorem mrg_joins' (hl : Lab d L) {p q : Int} (hp : 0 ≤ p ∧ p < d) (hq : 0 ≤ q ∧ q < d) : at0 (mrg L (at0 L q) (at0 L p)) p = at0 (mrg L (at0 L q) (at0 L p)) q := (mrg_joins hl hq hp).symm
theorem ker_iff (hg : Gs d gens) (hS : Pts d S) (h : SubE d L (Cg d gens S)) (hb : ∀ i j, S i j → at0 L i = at0 L j) (hc : ClE d gens L) {i j : Int} (hi : 0 ≤ i ∧ i < d) (hj : 0 ≤ j ∧ j < d) : at0 L i = at0 L j ↔ Cg d gens S i j := by
  refine ⟨h i j hi.1 hi.2 hj.1 hj.2, fun hcg => ?_⟩
  clear hi hj
  induction hcg with
  | base hs => exact hb _ _ hs
  | refl _ _ => rfl
  | symm _ ih => exact ih.symm
  | trans _ _ ih1 ih2 => exact ih1.trans ih2
  | img hm hcg ih =>
    have r := hcg.rng hg hS
    exact hc _ hm _ _ r.1.1 r.1.2 r.2.1 r.2.2 ih
end
/-- How many labels there are. -/
def dst (d : Nat) (L : List Int) : Nat := ((idl d).filter fun v => decide (v ∈ L)).length
theorem dst_le (d : Nat) (L : List Int) : dst d L ≤ d := by
  unfold dst
  refine Nat.le_trans (List.length_filter_le _ _) ?_
  rw [idl_length]; exact Nat.le_refl _
theorem dst_mrg {d : Nat} {L : List Int} (h : Lab d L) {a b : Int} (ha : a ∈ L) (hb : b ∈ L) (hne : a ≠ b) : dst d (mrg L a b) < dst d L := by
  refine filter_lt (fun v hv => ?_) _ b (mem_idl.2 (h.rng b hb)) (decide_eq_false fun hm => ?_) (decide_eq_true hb)
  · have := of_decide_eq_true hv
    unfold mrg at this
    obtain ⟨u, hu, e⟩ := List.mem_map.1 this
    split at e
    · rw [← e]; exact decide_eq_true ha
    · rw [← e]; exact decide_eq_true hu
  · unfold mrg at hm
    obtain ⟨u, _, e⟩ := List.mem_map.1 hm
    split at e
    · exact hne e
    · rename_i h'; exact h' e
/-- One pass: the first k permutations are done with, of the next the points below i, of i those below j. -/
def DoneS (d : Nat) (gens : List (List Int)) (L : List Int) (k : Nat) (i j : Int) : Prop :=
  (∀ (k' : Nat) (g : List Int), k' < k → gens[k']? = some g → ∀ p q : Int, 0 ≤ q → q < p → p < d → at0 L p = at0 L q → at0 L (at0 g p) = at0 L (at0 g q)) ∧
  ∀ g, gens[k]? = some g → ∀ p q : Int, 0 ≤ q → q < p → (p < i ∨ p = i ∧ q < j) → at0 L p = at0 L q → at0 L (at0 g p) = at0 L (at0 g q)
theorem DoneS.start (d : Nat) (gens : List (List Int)) (L : List Int) : DoneS d gens L 0 0 0 := ⟨fun k' g h => by omega, fun g _ p q h0 h1 h2 => by omega⟩
theorem DoneS.step {d : Nat} {gens : List (List Int)} {L : List Int} {k : Nat} {i j : Int} {g : List Int} (h : DoneS d gens L k i j) (hg : gens[k]? = some g) (hn : at0 L i = at0 L j → at0 L (at0 g i) = at0 L (at0 g j)) : DoneS d gens L k i (j + 1) :=
  ⟨h.1, fun g' e p q q0 hqp hpi heq => by
    rw [hg] at e; cases e
    by_cases hpq : p = i ∧ q = j
    · rw [hpq.1, hpq.2] at heq ⊢; exact hn heq
    · exact h.2 g hg p q q0 hqp (by omega) heq⟩
theorem DoneS.row {d : Nat} {gens : List (List Int)} {L : List Int} {k : Nat} {i : Int} (h : DoneS d gens L k i i) : DoneS d gens L k (i + 1) 0 :=
  ⟨h.1, fun g e p q q0 hqp hpi heq => h.2 g e p q q0 hqp (by omega) heq⟩
theorem DoneS.gen {d : Nat} {gens : List (List Int)} {L : List Int} {k : Nat} (h : DoneS d gens L k (d : Int) 0) : DoneS d gens L (k + 1) 0 0 :=
  ⟨fun k' g hk e p q q0 hqp hp heq => by
    by_cases hkk : k' = k
    · subst hkk; exact h.2 g e p q q0 hqp (by omega) heq
    · exact h.1 k' g (by omega) e p q q0 hqp hp heq, fun g _ p q q0 hqp hpi => by omega⟩
theorem DoneS.cl {d : Nat} {gens : List (List Int)} {L : List Int} (h : DoneS d gens L gens.length 0 0) : ClE d gens L := by
  intro g hg i j i0 hi j0 hj e
  obtain ⟨k, hk, eg⟩ := List.mem_iff_getElem.1 hg
  have eg' : gens[k]? = some g := by rw [List.getElem?_eq_getElem hk, eg]
  by_cases hij : j < i
  · exact h.1 k g hk eg' i j j0 hij hi e
  · by_cases hji : i < j
    · exact (h.1 k g hk eg' j i i0 hji hj e.symm).symm
    · obtain rfl : i = j := by omega
      rfl
/-- The labels of the program: a label is a point that bears it. -/
def Own0 (d : Nat) (L : List Int) : Prop := ∀ x : Int, 0 ≤ x → x < d → at0 L (at0 L x) = at0 L x
theorem Own0.idl (d : Nat) : Own0 d (Go.Proofs.Ytkojonjcikgikaa.idl d) := fun x h0 hx => by rw [idl_at0 h0 hx, idl_at0 h0 hx]
theorem Own0.mrg {d : Nat} {L : List Int} (hl : Lab d L) (h : Own0 d L) {a b : Int} (ha : 0 ≤ a ∧ a < d) (hla : at0 L a = a) : Own0 d (Go.Proofs.Ytkojonjcikgikaa.mrg L a b) := by
  intro x h0 hx
  have hx' : x < L.length := by rw [hl.len]; exact hx
  have hr := hl.at h0 hx
  have e := h x h0 hx
  rw [mrg_at h0 hx']
  split
  · rw [mrg_at ha.1 (by rw [hl.len]; exact ha.2), hla]; split <;> rfl
  · rename_i hne
    rw [mrg_at hr.1 (by rw [hl.len]; exact hr.2), e, if_neg hne]
/-- One pass of the program: the first k permutations are done with, of the next the points below z. -/
def DoneI (d : Nat) (gens : List (List Int)) (L : List Int) (k : Nat) (z : Int) : Prop :=
  (∀ (k' : Nat) (g : List Int), k' < k → gens[k']? = some g → ∀ p : Int, 0 ≤ p → p < d → at0 L (at0 g p) = at0 L (at0 g (at0 L p))) ∧
  ∀ g, gens[k]? = some g → ∀ p : Int, 0 ≤ p → p < z → at0 L (at0 g p) = at0 L (at0 g (at0 L p))
theorem DoneI.start (d : Nat) (gens : List (List Int)) (L : List Int) : DoneI d gens L 0 0 := ⟨fun k' g h => by omega, fun g _ p h0 h1 => by omega⟩
theorem DoneI.step {d : Nat} {gens : List (List Int)} {L : List Int} {k : Nat} {z : Int} {g : List Int} (h : DoneI d gens L k z) (hg : gens[k]? = some g) (hn : at0 L (at0 g z) = at0 L (at0 g (at0 L z))) : DoneI d gens L k (z + 1) :=
  ⟨h.1, fun g' e p p0 hp => by
    rw [hg] at e; cases e
    by_cases hpz : p = z
    · rw [hpz]; exact hn
    · exact h.2 g hg p p0 (by omega)⟩
theorem DoneI.gen {d : Nat} {gens : List (List Int)} {L : List Int} {k : Nat} (h : DoneI d gens L k (d : Int)) : DoneI d gens L (k + 1) 0 :=
  ⟨fun k' g hk e p p0 hp => by
    by_cases hkk : k' = k
    · subst hkk; exact h.2 g e p p0 hp
    · exact h.1 k' g (by omega) e p p0 hp, fun g _ p p0 hp => by omega⟩
theorem DoneI.cl {d : Nat} {gens : List (List Int)} {L : List Int} (h : DoneI d gens L gens.length 0) : ClE d gens L := by
  intro g hg i j i0 hi j0 hj e
  obtain ⟨k, hk, eg⟩ := List.mem_iff_getElem.1 hg
  have eg' : gens[k]? = some g := by rw [List.getElem?_eq_getElem hk, eg]
  rw [h.1 k g hk eg' i i0 hi, h.1 k g hk eg' j j0 hj, e]
open Classical in
/-- The blocks of an equivalence, in the order of their first points. -/
noncomputable def fstP (K : Int → Int → Prop) (k : Nat) : List Int := (idl k).filter fun x => decide (∀ y : Int, 0 ≤ y → y < x → ¬ K y x)
open Classical in
noncomputable def blkP (K : Int → Int → Prop) (k : Nat) (x : Int) : List Int := (idl k).filter fun y => decide (K x y)
noncomputable def blks (K : Int → Int → Prop) (i k : Nat) : List (List Int) := (fstP K i).map (blkP K k)
open Classical in
theorem blks_congr {K K' : Int → Int → Prop} {d : Nat} (h : ∀ i j : Int, (0 ≤ i ∧ i < d) → (0 ≤ j ∧ j < d) → (K i j ↔ K' i j)) : blks K d d = blks K' d d := by
  have e1 : fstP K d = fstP K' d := by
    unfold fstP
    refine List.filter_congr fun x hx => ?_
    have hx := mem_idl.1 hx
    have : (∀ y : Int, 0 ≤ y → y < x → ¬ K y x) ↔ (∀ y : Int, 0 ≤ y → y < x → ¬ K' y x) :=
      ⟨fun hh y y0 hy hk => hh y y0 hy ((h y x ⟨y0, by omega⟩ hx).2 hk), fun hh y y0 hy hk => hh y y0 hy ((h y x ⟨y0, by omega⟩ hx).1 hk)⟩
    simp only [this]
  unfold blks
  rw [e1]
  refine List.map_congr_left fun x hx => ?_
  have hx : 0 ≤ x ∧ x < d := by unfold fstP at hx; exact mem_idl.1 (List.mem_filter.1 hx).1
  unfold blkP
  refine List.filter_congr fun y hy => ?_
  have := h x y hx (mem_idl.1 hy)
  simp only [this]
/-- Equal labels. -/
def KerL (L : List Int) (i j : Int) : Prop := at0 L i = at0 L j
noncomputable def pMin (d : Nat) (gens : List (List Int)) (x y : Int) : List (List Int) := blks (Cg d gens fun i j => i = x ∧ j = y) d d
def JoinS (bs : List (List Int)) (i j : Int) : Prop := ∃ b ∈ bs, i = at0 b 0 ∧ j ∈ b
noncomputable def pJoinB (d : Nat) (bs : List (List Int)) : List (List Int) := blks (Cg d [] (JoinS bs)) d d
theorem fstP_succ (K : Int → Int → Prop) (k : Nat) : fstP K (k + 1) = fstP K k ++ (@ite _ (∀ y : Int, 0 ≤ y → y < (k : Int) → ¬ K y k) (Classical.propDecidable _) [(k : Int)] []) := by
  unfold fstP
  rw [idl_succ, List.filter_append]
  congr 1
  split
  · rename_i h; rw [List.filter_cons, if_pos (@decide_eq_true _ (Classical.propDecidable _) h)]; rfl
  · rename_i h; rw [List.filter_cons, if_neg (by rw [@decide_eq_false _ (Classical.propDecidable _) h]; simp)]; rfl
theorem fstP_old {K : Int → Int → Prop} {k : Nat} (h : ∃ y : Int, 0 ≤ y ∧ y < (k : Int) ∧ K y k) : fstP K (k + 1) = fstP K k := by
  rw [fstP_succ, if_neg]
  · simp
  · intro hh; obtain ⟨y, y0, hy, hk⟩ := h; exact hh y y0 hy hk
theorem fstP_new {K : Int → Int → Prop} {k : Nat} (h : ∀ y : Int, 0 ≤ y → y < (k : Int) → ¬ K y k) : fstP K (k + 1) = fstP K k ++ [(k : Int)] := by
  rw [fstP_succ, if_pos h]
theorem blkP_succ (K : Int → Int → Prop) (k : Nat) (x : Int) : blkP K (k + 1) x = blkP K k x ++ (@ite _ (K x k) (Classical.propDecidable _) [(k : Int)] []) := by
  unfold blkP
  rw [idl_succ, List.filter_append]
  congr 1
  split
  · rename_i h; rw [List.filter_cons, if_pos (@decide_eq_true _ (Classical.propDecidable _) h)]; rfl
  · rename_i h; rw [List.filter_cons, if_neg (by rw [@decide_eq_false _ (Classical.propDecidable _) h]; simp)]; rfl
end Go.Proofs.Ytkojonjcikgikaa
