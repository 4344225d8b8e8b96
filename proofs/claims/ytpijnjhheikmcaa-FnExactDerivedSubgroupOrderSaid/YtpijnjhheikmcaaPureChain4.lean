/- What the reference's addGenerator and addProduct do to a chain; no program in sight. -/
import Derived.Test.YtpijnjhheikmcaaPureChain3
namespace Go.Proofs.Ytpijnjhheikmcaa

theorem sf_one {d : Nat} (h1 : 1 ≤ d) (h2 : d ≤ 20) {R : Tr} {G : Nat → List (List Int)} {j : Nat} (hj : j ≤ d) (h : Okc d R G j) : Sf d R j (idl d) := by
  by_cases hlt : j < d
  · exact (sf_grp h1 h2 h _ j rfl (Nat.le_refl _) hlt _ (.idl h1 h2) (.idl _ _ hj)).2 .one
  · have : j = d := by omega
    subst this; exact sf_end j R _

/-- From (R, G) to (R', G') at level k: whatever is new at the level is closed under the level's generators. -/
structure Run (d k : Nat) (R : Tr) (G : Nat → List (List Int)) (R' : Tr) (G' : Nat → List (List Int)) : Prop where
  hf0 : Hf d k R G
  hf : Hf d k R' G'
  gk : G' k = G k
  low : ∀ i, i < k → R' i = R i ∧ G' i = G i
  mon : Mon R R'
  sub : ∀ g ∈ G (k + 1), g ∈ G' (k + 1)
  clo : ∀ y t, R' k y = some t → R k y = some t ∨ ∀ g ∈ G k, Clo d R' k t g
theorem Run.refl {d k : Nat} {R : Tr} {G : Nat → List (List Int)} (h : Hf d k R G) : Run d k R G R G :=
  ⟨h, h, rfl, fun _ _ => ⟨rfl, rfl⟩, Mon.refl _, fun _ h => h, fun _ _ h => .inl h⟩
theorem Run.move {d k : Nat} (h1 : 1 ≤ d) (h2 : d ≤ 20) (hk : k < d) {R R' : Tr} {G G' : Nat → List (List Int)} (h : Run d k R G R' G') {y : Nat} {t g : List Int} (ht : R k y = some t) (hg : g ∈ G k) (hc : Clo d R k t g) : Clo d R' k t g := by
  obtain ⟨t', e, hs⟩ := hc
  obtain ⟨g1, g2⟩ := h.hf0.lv.gen g hg
  obtain ⟨_, _, a3, a4, _⟩ := h.hf0.lv.row y t ht
  have hr := g1.rng (x := at0 t k) (by omega) (by omega)
  obtain ⟨a, b⟩ := rest_ok hk h.hf0.lv ht e g1 g2 (by omega)
  exact ⟨t', h.mon k _ _ e, sf_mono h1 h2 hk h.hf0.ok.okc h.hf.ok.okc h.sub a b hs⟩
theorem Run.trans {d k : Nat} (h1 : 1 ≤ d) (h2 : d ≤ 20) (hk : k < d) {R R1 R2 : Tr} {G G1 G2 : Nat → List (List Int)} (h : Run d k R G R1 G1) (h' : Run d k R1 G1 R2 G2) : Run d k R G R2 G2 :=
  ⟨h.hf0, h'.hf, h'.gk.trans h.gk, fun i hi => ⟨(h'.low i hi).1.trans (h.low i hi).1, (h'.low i hi).2.trans (h.low i hi).2⟩, h.mon.trans h'.mon, fun g hg => h'.sub g (h.sub g hg), fun y t e => by
    rcases h'.clo y t e with e1 | e1
    · rcases h.clo y t e1 with e2 | e2
      · exact .inl e2
      · exact .inr fun g hg => h'.move h1 h2 hk e1 (by rw [h.gk]; exact hg) (e2 g hg)
    · exact .inr fun g hg => e1 g (by rw [h.gk]; exact hg)⟩
/-- What addProduct at level k does with p. -/
structure ProdPost (d k : Nat) (p : List Int) (R : Tr) (G : Nat → List (List Int)) (R' : Tr) (G' : Nat → List (List Int)) : Prop where
  run : Run d k R G R' G'
  has : ∃ t', R' k (at0 p k).toNat = some t' ∧ Sf d R' (k + 1) (comp p (inv t'))
/-- There is a representative: what is left goes to the next level. -/
theorem ProdPost.old {d k : Nat} (h1 : 1 ≤ d) (h2 : d ≤ 20) (hk : k < d) {p t : List Int} {R R' : Tr} {G G' : Nat → List (List Int)} (h : Hf d k R G) (hp : Grp d (G k) p) (ht : R k (at0 p k).toNat = some t) (ha : AddPost d (k + 1) (comp p (inv t)) R G R' G') : ProdPost d k p R G R' G' := by
  obtain ⟨_, _, _, _, tg⟩ := h.lv.row _ t ht
  obtain ⟨n1, n2, n3, _⟩ := h.next h1 h2 hk (hp.comp h1 h2 h.lv.gs (grp_inv h1 h2 h.lv.gs tg)) ha
  refine ⟨⟨h, n1, n3, fun i hi => ha.low i (by omega), ha.mon, ha.gen, fun y u e => .inl (by rw [← n2]; exact e)⟩, t, by rw [n2]; exact ht, ha.has⟩
theorem div_grp {d k : Nat} (h1 : 1 ≤ d) (h2 : d ≤ 20) {p t : List Int} {R : Tr} {G : Nat → List (List Int)} (h : Hf d k R G) (hp : Grp d (G k) p) (ht : R k (at0 p k).toNat = some t) : Grp d (G k) (comp p (inv t)) := by
  obtain ⟨_, _, _, _, tg⟩ := h.lv.row _ t ht
  exact hp.comp h1 h2 h.lv.gs (grp_inv h1 h2 h.lv.gs tg)
/-- p has become a representative; its products with the first j generators are in. -/
structure Fresh (d k : Nat) (p : List Int) (R : Tr) (G : Nat → List (List Int)) (j : Nat) (R' : Tr) (G' : Nat → List (List Int)) : Prop where
  run : Run d k (setR R k (at0 p k).toNat p) G R' G'
  done : ∀ (b : Nat) (g : List Int), b < j → (G k)[b]? = some g → Clo d R' k p g
theorem Fresh.start {d k : Nat} (hk : k < d) {p : List Int} {R : Tr} {G : Nat → List (List Int)} (h : Hf d k R G) (hp : Pm d p) (hf : Fx k p) (hg : Grp d (G k) p) (hn : R k (at0 p k).toNat = none) : Fresh d k p R G 0 (setR R k (at0 p k).toNat p) G := by
  have hr := hp.rng (x := (k : Int)) (by omega) (by omega)
  exact ⟨.refl (h.rep hn hp hf (by omega) (by omega) hg), fun _ _ h => by omega⟩
theorem Fresh.rep {d k j : Nat} {p : List Int} {R R' : Tr} {G G' : Nat → List (List Int)} (h : Fresh d k p R G j R' G') : R' k (at0 p k).toNat = some p := h.run.mon k _ _ (setR_same _ _ _ _)
theorem Fresh.step {d k j : Nat} (h1 : 1 ≤ d) (h2 : d ≤ 20) (hk : k < d) {p g : List Int} {R R1 R2 : Tr} {G G1 G2 : Nat → List (List Int)} (h : Fresh d k p R G j R1 G1) (hg : (G k)[j]? = some g) (hp : ProdPost d k (comp p g) R1 G1 R2 G2) : Fresh d k p R G (j + 1) R2 G2 := by
  have hrep := h.rep
  obtain ⟨pp, _, _, _, _⟩ := h.run.hf.lv.row _ p hrep
  refine ⟨h.run.trans h1 h2 hk hp.run, fun b g' hb e => ?_⟩
  have hg' : g' ∈ G1 k := by rw [h.run.gk]; exact List.mem_of_getElem? e
  by_cases hbj : b = j
  · subst hbj
    rw [hg] at e; cases e
    obtain ⟨t', e', hs⟩ := hp.has
    refine ⟨t', ?_, hs⟩
    rw [pp.at_comp (by omega) (by omega)] at e'
    exact e'
  · exact hp.run.move h1 h2 hk hrep hg' (h.done b g' (by omega) e)
theorem Fresh.full {d k : Nat} (h1 : 1 ≤ d) (h2 : d ≤ 20) (hk : k < d) {p : List Int} {R R' : Tr} {G G' : Nat → List (List Int)} (h0 : Hf d k R G) (hn : R k (at0 p k).toNat = none) (h : Fresh d k p R G (G k).length R' G') : ProdPost d k p R G R' G' := by
  have hrep := h.rep
  obtain ⟨pp, _, _, _, _⟩ := h.run.hf.lv.row _ p hrep
  refine ⟨⟨h0, h.run.hf, h.run.gk, fun i hi => ⟨(h.run.low i hi).1.trans (setR_low (by omega)), (h.run.low i hi).2⟩, (setR_mon hn).trans h.run.mon, h.run.sub, fun y t e => ?_⟩, p, hrep, ?_⟩
  · rcases h.run.clo y t e with e1 | e1
    · by_cases hy : y = (at0 p k).toNat
      · subst hy
        rw [setR_same] at e1
        cases e1
        refine .inr fun g hg => ?_
        obtain ⟨b, hb⟩ := List.getElem?_of_mem hg
        exact h.done b g (List.getElem?_eq_some_iff.1 hb).1 hb
      · rw [setR_ne (by simp [hy])] at e1
        exact .inl e1
    · exact .inr e1
  · rw [pp.mul_inv]
    exact sf_one h1 h2 hk h.run.hf.ok.okc
theorem Fresh.sz {d k j : Nat} (hk : k < d) {p : List Int} {R R' : Tr} {G G' : Nat → List (List Int)} (hp : Pm d p) (hn : R k (at0 p k).toNat = none) (h : Fresh d k p R G j R' G') : szR d R k < szR d R' k := by
  have hr := hp.rng (x := (k : Int)) (by omega) (by omega)
  exact szR_lt ((setR_mon hn).trans h.run.mon) (by omega) hn (by rw [h.rep]; rfl)
/-- The product of the representative p with a generator is a member. -/
theorem Fresh.prod {d k j : Nat} (h1 : 1 ≤ d) (h2 : d ≤ 20) (hk : k < d) {p g : List Int} {R R' : Tr} {G G' : Nat → List (List Int)} (h : Fresh d k p R G j R' G') (hg : g ∈ G k) : (Pm d (comp p g) ∧ Fx k (comp p g)) ∧ Grp d (G' k) (comp p g) := by
  obtain ⟨pp, pf, _, _, pg⟩ := h.run.hf.lv.row _ p h.rep
  have hg' : g ∈ G' k := by rw [h.run.gk]; exact hg
  obtain ⟨g1, g2⟩ := h.run.hf.lv.gen g hg'
  exact ⟨⟨pp.comp g1, pf.comp (by omega) pp g2⟩, pg.comp h1 h2 h.run.hf.lv.gs (Grp.gen h.run.hf.lv.gs hg')⟩

/-- The representatives of a level, in the order of their points. -/
def repsTo (f : Nat → Option (List Int)) (k : Nat) : List (List Int) := (List.range k).filterMap f
theorem repsTo_succ (f : Nat → Option (List Int)) (k : Nat) : repsTo f (k + 1) = repsTo f k ++ (f k).toList := by
  unfold repsTo
  rw [List.range_succ, List.filterMap_append]
  congr 1
theorem repsTo_le (f : Nat → Option (List Int)) (k : Nat) : (repsTo f k).length ≤ k := by
  unfold repsTo
  refine Nat.le_trans (List.length_filterMap_le _ _) ?_
  rw [List.length_range]; exact Nat.le_refl _
theorem mem_repsTo {f : Nat → Option (List Int)} {k : Nat} {t : List Int} : t ∈ repsTo f k ↔ ∃ y, y < k ∧ f y = some t := by
  unfold repsTo
  rw [List.mem_filterMap]
  exact ⟨fun ⟨y, h, e⟩ => ⟨y, List.mem_range.1 h, e⟩, fun ⟨y, h, e⟩ => ⟨y, List.mem_range.2 h, e⟩⟩

/-- p has joined the generators of level k; its products with the first i old representatives are in. -/
structure Joined (d k : Nat) (p : List Int) (R : Tr) (G : Nat → List (List Int)) (i : Nat) (R' : Tr) (G' : Nat → List (List Int)) : Prop where
  run : Run d k R (addG G k p) R' G'
  done : ∀ (a : Nat) (t : List Int), a < i → (repsTo (R k) d)[a]? = some t → Clo d R' k t p
theorem Joined.start {d k : Nat} (h1 : 1 ≤ d) (h2 : d ≤ 20) {p : List Int} {R : Tr} {G : Nat → List (List Int)} (h : Hf d k R G) (hp : Pm d p) (hf : Fx k p) : Joined d k p R G 0 R (addG G k p) :=
  ⟨.refl (h.gen h1 h2 hp hf), fun _ _ h => by omega⟩
theorem Joined.step {d k i : Nat} (h1 : 1 ≤ d) (h2 : d ≤ 20) (hk : k < d) {p t : List Int} {R R1 R2 : Tr} {G G1 G2 : Nat → List (List Int)} (h : Joined d k p R G i R1 G1) (ht : (repsTo (R k) d)[i]? = some t) (hp : ProdPost d k (comp t p) R1 G1 R2 G2) : Joined d k p R G (i + 1) R2 G2 := by
  refine ⟨h.run.trans h1 h2 hk hp.run, fun a u ha e => ?_⟩
  obtain ⟨y, hy, ey⟩ := mem_repsTo.1 (List.mem_of_getElem? e)
  have ey1 := h.run.mon k y u ey
  have hpm : p ∈ G1 k := by rw [h.run.gk, addG_same]; exact List.mem_append_right _ (List.mem_singleton_self _)
  by_cases hai : a = i
  · subst hai
    rw [ht] at e; cases e
    obtain ⟨tp, _, _, _, _⟩ := h.run.hf.lv.row y t ey1
    obtain ⟨t', e', hs⟩ := hp.has
    refine ⟨t', ?_, hs⟩
    rw [tp.at_comp (by omega) (by omega)] at e'
    exact e'
  · exact hp.run.move h1 h2 hk ey1 hpm (h.done a u (by omega) e)
theorem Joined.prod {d k i : Nat} (h1 : 1 ≤ d) (h2 : d ≤ 20) (hk : k < d) {p t : List Int} {R R' : Tr} {G G' : Nat → List (List Int)} (h : Joined d k p R G i R' G') (ht : t ∈ repsTo (R k) d) : (Pm d (comp t p) ∧ Fx k (comp t p)) ∧ Grp d (G' k) (comp t p) := by
  obtain ⟨y, hy, ey⟩ := mem_repsTo.1 ht
  obtain ⟨tp, tf, _, _, tg⟩ := h.run.hf.lv.row y t (h.run.mon k y t ey)
  have hpm : p ∈ G' k := by rw [h.run.gk, addG_same]; exact List.mem_append_right _ (List.mem_singleton_self _)
  obtain ⟨g1, g2⟩ := h.run.hf.lv.gen p hpm
  exact ⟨⟨tp.comp g1, tf.comp (by omega) tp g2⟩, tg.comp h1 h2 h.run.hf.lv.gs (Grp.gen h.run.hf.lv.gs hpm)⟩
theorem Joined.full {d k : Nat} (h1 : 1 ≤ d) (h2 : d ≤ 20) (hk : k < d) {p : List Int} {R R' : Tr} {G G' : Nat → List (List Int)} (hp : Pm d p ∧ Fx k p) (h0 : Okx d R G k) (hno : ¬ Sf d R k p) (h : Joined d k p R G (repsTo (R k) d).length R' G') : AddPost d k p R G R' G' := by
  have hGk : G' k = G k ++ [p] := by rw [h.run.gk, addG_same]
  have hclo : ∀ y t g, R' k y = some t → g ∈ G' k → Clo d R' k t g := by
    intro y t g e hg
    rcases h.run.clo y t e with e1 | e1
    · have hyd := ((h0.okc k (Nat.le_refl _) hk).1.row y t e1).2.2.2.1
      rw [hGk] at hg
      rcases List.mem_append.1 hg with hg | hg
      · exact h.run.move h1 h2 hk e1 (by rw [addG_same]; exact List.mem_append_left _ hg) ((h0.okc k (Nat.le_refl _) hk).2.1 y t g e1 hg)
      · obtain rfl := List.mem_singleton.1 hg
        obtain ⟨a, ha⟩ := List.getElem?_of_mem (mem_repsTo.2 ⟨y, hyd, e1⟩)
        exact h.done a t (List.getElem?_eq_some_iff.1 ha).1 ha
    · exact e1 g (by rw [← h.run.gk]; exact hg)
  have hok : Okc d R' G' k := fun i hi1 hi2 => by
    by_cases e : i = k
    · subst e; exact ⟨h.run.hf.lv, hclo, h.run.hf.up⟩
    · exact h.run.hf.ok.okc i (by omega) hi2
  have hpg : Grp d (G' k) p := Grp.gen h.run.hf.lv.gs (by rw [hGk]; exact List.mem_append_right _ (List.mem_singleton_self _))
  have hs : Sf d R' k p := (sf_grp h1 h2 hok _ k rfl (Nat.le_refl _) hk p hp.1 hp.2).2 hpg
  have hpot := pot_lt h.run.mon (fun i y hs hi1 hi2 => by
    obtain ⟨t, ht⟩ := Option.isSome_iff_exists.1 hs
    exact ((hok i hi1 hi2).1.row y t ht).2.2.2.1) hno hs
  have hlen := h0.len k (Nat.le_refl _) hk
  refine ⟨h.run.hf.close (by rw [hGk, List.length_append, List.length_singleton]; omega) hclo, fun i hi => ⟨(h.run.low i hi).1, (h.run.low i hi).2.trans (addG_ne (by omega))⟩, fun g hg => by rw [hGk]; exact List.mem_append_left _ hg, fun g hg => ?_, h.run.mon, hs⟩
  rw [hGk] at hg
  rcases List.mem_append.1 hg with hg | hg
  · exact .inl hg
  · exact .inr (List.mem_singleton.1 hg)
end Go.Proofs.Ytpijnjhheikmcaa
