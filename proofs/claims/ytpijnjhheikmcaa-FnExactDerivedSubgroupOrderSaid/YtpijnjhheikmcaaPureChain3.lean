/- How the program's add goes on: the orbit of a level in breadth, then the remainders; no program in sight. -/
import Derived.Test.YtpijnjhheikmcaaPureChain2
namespace Go.Proofs.Ytpijnjhheikmcaa

/-- The points below k that have a representative. -/
def ptsTo (f : Nat → Option (List Int)) (k : Nat) : List Int := (idl k).filter fun y => (f y.toNat).isSome
theorem ptsTo_succ (f : Nat → Option (List Int)) (k : Nat) : ptsTo f (k + 1) = ptsTo f k ++ (if (f k).isSome then [(k : Int)] else []) := by
  unfold ptsTo
  rw [idl_succ, List.filter_append]
  congr 1
  by_cases h : (f k).isSome = true
  · simp [h]
  · simp [h]
theorem ptsTo_le (f : Nat → Option (List Int)) (k : Nat) : (ptsTo f k).length ≤ k := by
  unfold ptsTo
  refine Nat.le_trans (List.length_filter_le _ _) ?_
  rw [idl_length]; exact Nat.le_refl _
theorem mem_ptsTo {f : Nat → Option (List Int)} {k : Nat} {y : Int} : y ∈ ptsTo f k ↔ 0 ≤ y ∧ y < k ∧ (f y.toNat).isSome := by
  unfold ptsTo
  rw [List.mem_filter, mem_idl]
  exact ⟨fun h => ⟨h.1.1, h.1.2, h.2⟩, fun h => ⟨⟨h.1, h.2.1⟩, h.2.2⟩⟩
theorem ptsTo_len (d : Nat) (R : Tr) (i : Nat) : (ptsTo (R i) d).length = szR d R i := by
  unfold ptsTo szR idl
  rw [List.filter_map, List.length_map]
  congr 2
theorem ptsTo_nodup (f : Nat → Option (List Int)) (k : Nat) : (ptsTo f k).Nodup := (idl_nodup k).filter _

/-- The orbit so far: os, of which the first i are gone through. -/
structure Bfs (d k : Nat) (R0 : Tr) (G : Nat → List (List Int)) (R : Tr) (os : List Int) (i : Nat) : Prop where
  hf : Hf d k R G
  mon : Mon R0 R
  low : ∀ j, j ≠ k → R j = R0 j
  nd : os.Nodup
  mem : ∀ y : Int, y ∈ os ↔ 0 ≤ y ∧ y < d ∧ (R k y.toNat).isSome
  clo : ∀ (j : Nat) (u : Int), j < i → os[j]? = some u → ∀ g ∈ G k, (R k (at0 g u).toNat).isSome
theorem Bfs.start {d k : Nat} {R : Tr} {G : Nat → List (List Int)} (h : Hf d k R G) : Bfs d k R G R (ptsTo (R k) d) 0 :=
  ⟨h, Mon.refl _, fun _ _ => rfl, ptsTo_nodup _ _, fun _ => mem_ptsTo, fun _ _ h => by omega⟩
theorem Bfs.len {d k i : Nat} {R0 R : Tr} {G : Nat → List (List Int)} {os : List Int} (h : Bfs d k R0 G R os i) : os.length ≤ d := by
  have hs : os ⊆ idl d := fun y hy => mem_idl.2 ⟨((h.mem y).1 hy).1, ((h.mem y).1 hy).2.1⟩
  have := h.nd.length_le_of_subset hs
  rwa [idl_length] at this
theorem Bfs.push {d k i : Nat} (h1 : 1 ≤ d) (h2 : d ≤ 20) (hk : k < d) {R0 R : Tr} {G : Nat → List (List Int)} {os : List Int} (h : Bfs d k R0 G R os i) (hi : i ≤ os.length) {u : Int} {t g : List Int} (hu : 0 ≤ u ∧ u < d) (ht : R k u.toNat = some t) (hg : g ∈ G k) (hn : R k (at0 g u).toNat = none) :
    Bfs d k R0 G (setR R k (at0 g u).toNat (comp t g)) (os ++ [at0 g u]) i := by
  obtain ⟨a1, a2, a3, a4, a5⟩ := h.hf.lv.row _ t ht
  obtain ⟨g1, g2⟩ := h.hf.lv.gen g hg
  have hz := g1.rng hu.1 hu.2
  have hti : at0 t k = u := by rw [a3]; omega
  have hmon := setR_mon (t := comp t g) hn
  have hzt : ((at0 g u).toNat : Int) = at0 g u := by omega
  refine ⟨h.hf.rep hn (a1.comp g1) (a2.comp (by omega) a1 g2) ?_ (by omega) (a5.comp h1 h2 h.hf.lv.gs (Grp.gen h.hf.lv.gs hg)), h.mon.trans hmon, fun j hj => (setR_low hj).trans (h.low j hj), ?_, fun y => ?_, fun j v hj e g' hg' => ?_⟩
  · rw [a1.at_comp (by omega) (by omega), hti, hzt]
  · refine List.nodup_append.2 ⟨h.nd, List.pairwise_singleton _ _, fun a ha b hb => ?_⟩
    obtain rfl := List.mem_singleton.1 hb
    intro e
    have := ((h.mem a).1 ha).2.2
    rw [e, hn] at this; cases this
  · rw [List.mem_append, List.mem_singleton, h.mem]
    by_cases e : y = at0 g u
    · subst e
      rw [setR_same]
      exact ⟨fun _ => ⟨hz.1, hz.2, rfl⟩, fun _ => .inr rfl⟩
    · constructor
      · rintro (⟨b1, b2, b3⟩ | b)
        · rw [setR_ne (by omega)]; exact ⟨b1, b2, b3⟩
        · exact absurd b e
      · rintro ⟨b1, b2, b3⟩
        rw [setR_ne (by omega)] at b3
        exact .inl ⟨b1, b2, b3⟩
  · rw [List.getElem?_append_left (by omega)] at e
    obtain ⟨v', hv'⟩ := Option.isSome_iff_exists.1 (h.clo j v hj e g' hg')
    rw [hmon k _ _ hv']; rfl
/-- Within a round. -/
def BfsIn (d k : Nat) (R0 : Tr) (G : Nat → List (List Int)) (R : Tr) (os : List Int) (i : Nat) (u : Int) (j : Nat) : Prop :=
  Bfs d k R0 G R os i ∧ os[i]? = some u ∧ ∀ (q : Nat) (g : List Int), q < j → (G k)[q]? = some g → (R k (at0 g u).toNat).isSome
theorem BfsIn.next {d k i : Nat} {R0 R : Tr} {G : Nat → List (List Int)} {os : List Int} {u : Int} (h : BfsIn d k R0 G R os i u (G k).length) : Bfs d k R0 G R os (i + 1) :=
  ⟨h.1.hf, h.1.mon, h.1.low, h.1.nd, h.1.mem, fun j v hj e g hg => by
    by_cases hji : j = i
    · subst hji
      rw [h.2.1] at e
      cases e
      obtain ⟨q, hq⟩ := List.getElem?_of_mem hg
      exact h.2.2 q g (List.getElem?_eq_some_iff.1 hq).1 hq
    · exact h.1.clo j v (by omega) e g hg⟩
theorem BfsIn.old {d k i j : Nat} {R0 R : Tr} {G : Nat → List (List Int)} {os : List Int} {u : Int} {g : List Int} (h : BfsIn d k R0 G R os i u j) (hg : (G k)[j]? = some g) (hs : (R k (at0 g u).toNat).isSome) : BfsIn d k R0 G R os i u (j + 1) :=
  ⟨h.1, h.2.1, fun q g' hq e => by
    by_cases hqj : q = j
    · subst hqj; rw [hg] at e; cases e; exact hs
    · exact h.2.2 q g' (by omega) e⟩
theorem BfsIn.new {d k i j : Nat} (h1 : 1 ≤ d) (h2 : d ≤ 20) (hk : k < d) {R0 R : Tr} {G : Nat → List (List Int)} {os : List Int} {u : Int} {t g : List Int} (h : BfsIn d k R0 G R os i u j) (hg : (G k)[j]? = some g) (ht : R k u.toNat = some t) (hn : R k (at0 g u).toNat = none) :
    BfsIn d k R0 G (setR R k (at0 g u).toNat (comp t g)) (os ++ [at0 g u]) i u (j + 1) := by
  have hil := (List.getElem?_eq_some_iff.1 h.2.1).1
  have hu := (h.1.mem u).1 (List.mem_of_getElem? h.2.1)
  refine ⟨h.1.push h1 h2 hk (by omega) ⟨hu.1, hu.2.1⟩ ht (List.mem_of_getElem? hg) hn, by rw [List.getElem?_append_left hil]; exact h.2.1, fun q g' hq e => ?_⟩
  by_cases hqj : q = j
  · subst hqj; rw [hg] at e; cases e; rw [setR_same]; rfl
  · obtain ⟨v', hv'⟩ := Option.isSome_iff_exists.1 (h.2.2 q g' (by omega) e)
    rw [setR_mon hn k _ _ hv']; rfl
theorem Bfs.full {d k : Nat} {R0 R : Tr} {G : Nat → List (List Int)} {os : List Int} (h : Bfs d k R0 G R os os.length) : ∀ y t g, R k y = some t → g ∈ G k → ∃ t', R k (at0 g (at0 t k)).toNat = some t' := by
  intro y t g e hg
  obtain ⟨_, _, a3, a4, _⟩ := h.hf.lv.row y t e
  have hm : (y : Int) ∈ os := (h.mem y).2 ⟨by omega, by omega, by rw [Int.toNat_natCast, e]; rfl⟩
  obtain ⟨j, hj⟩ := List.getElem?_of_mem hm
  have := h.clo j y (List.getElem?_eq_some_iff.1 hj).1 hj g hg
  rw [a3]
  exact Option.isSome_iff_exists.1 this

/-- The remainders so far: of the points ys the first i, and of number i's generators the first j. -/
structure Dbl (d k : Nat) (R0 : Tr) (G0 : Nat → List (List Int)) (ys : List Int) (i j : Nat) (R : Tr) (G : Nat → List (List Int)) : Prop where
  hf : Hf d k R G
  rk : R k = R0 k
  gk : G k = G0 k
  low : ∀ x, x < k → R x = R0 x ∧ G x = G0 x
  mon : Mon R0 R
  orb : ∀ y t g, R0 k y = some t → g ∈ G0 k → ∃ t', R0 k (at0 g (at0 t k)).toNat = some t'
  done : ∀ (a : Nat) (y : Int) (t g : List Int), a < i → ys[a]? = some y → R0 k y.toNat = some t → g ∈ G0 k → Clo d R k t g
  part : ∀ (b : Nat) (y : Int) (t g : List Int), b < j → ys[i]? = some y → (G0 k)[b]? = some g → R0 k y.toNat = some t → Clo d R k t g
theorem Dbl.start {d k : Nat} {R0 : Tr} {G0 : Nat → List (List Int)} {ys : List Int} (h : Hf d k R0 G0) (ho : ∀ y t g, R0 k y = some t → g ∈ G0 k → ∃ t', R0 k (at0 g (at0 t k)).toNat = some t') : Dbl d k R0 G0 ys 0 0 R0 G0 :=
  ⟨h, rfl, rfl, fun _ _ => ⟨rfl, rfl⟩, Mon.refl _, ho, fun _ _ _ _ h => by omega, fun _ _ _ _ h => by omega⟩
/-- The remainder at a point and a generator: a member, and it fixes one point more. -/
theorem Dbl.rest {d k : Nat} (h1 : 1 ≤ d) (h2 : d ≤ 20) (hk : k < d) {R0 R : Tr} {G0 G : Nat → List (List Int)} {ys : List Int} {i j : Nat} (h : Dbl d k R0 G0 ys i j R G) {y : Nat} {t t' g : List Int} (ht : R0 k y = some t) (hg : g ∈ G0 k) (ht' : R0 k (at0 g (at0 t k)).toNat = some t') :
    (Pm d (comp (comp t g) (inv t')) ∧ Fx (k + 1) (comp (comp t g) (inv t'))) ∧ Grp d (G k) (comp (comp t g) (inv t')) := by
  rw [← h.rk] at ht ht'
  rw [← h.gk] at hg
  obtain ⟨g1, g2⟩ := h.hf.lv.gen g hg
  obtain ⟨a1, a2, a3, a4, a5⟩ := h.hf.lv.row y t ht
  obtain ⟨b1, b2, b3, b4, b5⟩ := h.hf.lv.row _ t' ht'
  have hr := g1.rng (x := at0 t k) (by omega) (by omega)
  refine ⟨rest_ok hk h.hf.lv ht ht' g1 g2 (by omega), ?_⟩
  exact (a5.comp h1 h2 h.hf.lv.gs (Grp.gen h.hf.lv.gs hg)).comp h1 h2 h.hf.lv.gs (grp_inv h1 h2 h.hf.lv.gs b5)
theorem Dbl.step {d k : Nat} (h1 : 1 ≤ d) (h2 : d ≤ 20) (hk : k < d) {R0 R R' : Tr} {G0 G G' : Nat → List (List Int)} {ys : List Int} {i j : Nat} (h : Dbl d k R0 G0 ys i j R G) {y : Int} {t t' g : List Int} (hy : ys[i]? = some y) (hg : (G0 k)[j]? = some g) (ht : R0 k y.toNat = some t) (ht' : R0 k (at0 g (at0 t k)).toNat = some t')
    (hp : AddPost d (k + 1) (comp (comp t g) (inv t')) R G R' G') : Dbl d k R0 G0 ys i (j + 1) R' G' := by
  obtain ⟨hpf, hgr⟩ := h.rest h1 h2 hk ht (List.mem_of_getElem? hg) ht'
  obtain ⟨n1, n2, n3, n4⟩ := h.hf.next h1 h2 hk hgr hp
  have hmove : ∀ (z : Nat) (u f : List Int), R0 k z = some u → f ∈ G0 k → Clo d R k u f → Clo d R' k u f := by
    intro z u f hu hf hc
    have hu' := hu
    have hf' := hf
    rw [← h.rk] at hu'
    rw [← h.gk] at hf'
    obtain ⟨f1, f2⟩ := h.hf.lv.gen f hf'
    obtain ⟨a1, a2, a3, a4, _⟩ := h.hf.lv.row z u hu'
    refine n4 u f a1 f1 a2 f2 (fun u' e => ?_) hc
    rw [h.rk] at e
    exact (h.rest h1 h2 hk hu hf e).1
  refine ⟨n1, n2.trans h.rk, n3.trans h.gk, fun x hx => ?_, h.mon.trans hp.mon, h.orb, fun a z u f ha e eu hf => hmove _ u f eu hf (h.done a z u f ha e eu hf), fun b z u f hb e ef eu => ?_⟩
  · obtain ⟨e1, e2⟩ := hp.low x (by omega)
    exact ⟨e1.trans (h.low x hx).1, e2.trans (h.low x hx).2⟩
  · by_cases hbj : b = j
    · subst hbj
      rw [hy] at e; cases e
      rw [hg] at ef; cases ef
      rw [ht] at eu; cases eu
      exact ⟨t', by rw [n2, h.rk]; exact ht', hp.has⟩
    · exact hmove _ u f eu (List.mem_of_getElem? ef) (h.part b z u f (by omega) e ef eu)
theorem Dbl.row {d k : Nat} {R0 R : Tr} {G0 G : Nat → List (List Int)} {ys : List Int} {i : Nat} (h : Dbl d k R0 G0 ys i (G0 k).length R G) : Dbl d k R0 G0 ys (i + 1) 0 R G :=
  ⟨h.hf, h.rk, h.gk, h.low, h.mon, h.orb, fun a y t g ha e et hg => by
    by_cases hai : a = i
    · subst hai
      obtain ⟨b, hb⟩ := List.getElem?_of_mem hg
      exact h.part b y t g (List.getElem?_eq_some_iff.1 hb).1 e hb et
    · exact h.done a y t g (by omega) e et hg, fun _ _ _ _ hb => by omega⟩
/-- All remainders are held: the level is closed, and p is held. -/
theorem Dbl.full {d k : Nat} (h1 : 1 ≤ d) (h2 : d ≤ 20) (hk : k < d) {Rb R0 R : Tr} {Gb G0 G : Nat → List (List Int)} {p : List Int} (hp : Pm d p ∧ Fx k p) (hb : Okx d Rb Gb k) (hno : ¬ Sf d Rb k p) (hbm : Mon Rb R0) (hbl : ∀ i, i < k → R0 i = Rb i) (hG0 : G0 = addG Gb k p)
    (h : Dbl d k R0 G0 (ptsTo (R0 k) d) (ptsTo (R0 k) d).length 0 R G) : AddPost d k p Rb Gb R G := by
  have hclo : ∀ y t g, R k y = some t → g ∈ G k → Clo d R k t g := by
    intro y t g e hg
    have hyd := (h.hf.lv.row y t e).2.2.2.1
    rw [h.rk] at e
    rw [h.gk] at hg
    have hm : (y : Int) ∈ ptsTo (R0 k) d := mem_ptsTo.2 ⟨by omega, by omega, by rw [Int.toNat_natCast, e]; rfl⟩
    obtain ⟨a, ha⟩ := List.getElem?_of_mem hm
    exact h.done a y t g (List.getElem?_eq_some_iff.1 ha).1 ha (by rw [Int.toNat_natCast]; exact e) hg
  have hok : Okc d R G k := fun i hi1 hi2 => by
    by_cases e : i = k
    · subst e; exact ⟨h.hf.lv, hclo, h.hf.up⟩
    · exact h.hf.ok.okc i (by omega) hi2
  have hGk : G k = Gb k ++ [p] := by rw [h.gk, hG0, addG_same]
  have hpg : Grp d (G k) p := Grp.gen h.hf.lv.gs (by rw [hGk]; exact List.mem_append_right _ (List.mem_singleton_self _))
  have hs : Sf d R k p := (sf_grp h1 h2 hok _ k rfl (Nat.le_refl _) hk p hp.1 hp.2).2 hpg
  have hmon := hbm.trans h.mon
  have hpot := pot_lt hmon (fun i y hs hi1 hi2 => by
    obtain ⟨t, ht⟩ := Option.isSome_iff_exists.1 hs
    exact ((hok i hi1 hi2).1.row y t ht).2.2.2.1) hno hs
  have hlen := hb.len k (Nat.le_refl _) hk
  refine ⟨h.hf.close (by rw [hGk, List.length_append, List.length_singleton]; omega) hclo, fun i hi => ?_, fun g hg => by rw [hGk]; exact List.mem_append_left _ hg, fun g hg => ?_, hmon, hs⟩
  · obtain ⟨e1, e2⟩ := h.low i hi
    refine ⟨e1.trans (hbl i hi), e2.trans ?_⟩
    rw [hG0, addG_ne (by omega)]
  · rw [hGk] at hg
    rcases List.mem_append.1 hg with hg | hg
    · exact .inl hg
    · exact .inr (List.mem_singleton.1 hg)
end Go.Proofs.Ytpijnjhheikmcaa
