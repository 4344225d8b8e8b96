/- The group of the commutators: what a list of generators must be, so that it makes the smallest group with all commutators that conjugation keeps; no program in sight. -/
import Derived.Test.YtpijnjhheikmcaaPureVal
import Derived.Test.YtpijnjhheikmcaaChainTop6
namespace Go.Proofs.Ytpijnjhheikmcaa

/-- The commutator. -/
def cmt (p q : List Int) : List Int := comp (comp (inv p) (inv q)) (comp p q)
theorem Pm.cmt {d : Nat} {p q : List Int} (hp : Pm d p) (hq : Pm d q) : Pm d (Go.Proofs.Ytpijnjhheikmcaa.cmt p q) := (hp.inv.comp hq.inv).comp (hp.comp hq)
theorem at_cmt {d : Nat} {p q : List Int} (hp : Pm d p) (hq : Pm d q) {x : Int} (h0 : 0 ≤ x) (hx : x < d) : at0 (cmt p q) x = at0 q (at0 p (at0 (inv q) (at0 (inv p) x))) := by
  have a := hp.inv.rng h0 hx
  have b := hq.inv.rng a.1 a.2
  unfold cmt
  rw [(hp.inv.comp hq.inv).at_comp h0 hx, hp.inv.at_comp h0 hx, hp.at_comp b.1 b.2]
theorem cmt_self {d : Nat} {p : List Int} (hp : Pm d p) : cmt p p = idl d := by
  refine pm_ext (hp.cmt hp).2 (idl_length d) fun x h0 hx => ?_
  have a := hp.inv.rng h0 hx
  rw [at_cmt hp hp h0 hx, hp.at_inv a.1 a.2, hp.at_inv h0 hx, idl_at0 h0 hx]
theorem inv_unique' {d : Nat} {p q : List Int} (hp : Pm d p) (hq : Pm d q) (h : ∀ x : Int, 0 ≤ x → x < d → at0 q (at0 p x) = x) : inv p = q := by
  refine pm_ext hp.inv.2 hq.2 fun x h0 hx => ?_
  have a := hp.inv.rng h0 hx
  have := h _ a.1 a.2
  rw [hp.at_inv h0 hx] at this
  exact this.symm
theorem inv_cmt {d : Nat} {p q : List Int} (hp : Pm d p) (hq : Pm d q) : inv (cmt p q) = cmt q p := by
  refine inv_unique' (hp.cmt hq) (hq.cmt hp) fun x h0 hx => ?_
  have a := hp.inv.rng h0 hx
  have b := hq.inv.rng a.1 a.2
  have c := hp.rng b.1 b.2
  have e := hq.rng c.1 c.2
  rw [at_cmt hp hq h0 hx, at_cmt hq hp e.1 e.2, hq.inv_at c.1 c.2, hp.inv_at b.1 b.2, hq.at_inv a.1 a.2, hp.at_inv h0 hx]
theorem at_conj {d : Nat} {p q : List Int} (hp : Pm d p) (hq : Pm d q) {x : Int} (h0 : 0 ≤ x) (hx : x < d) : at0 (conj p q) x = at0 q (at0 p (at0 (inv q) x)) := by
  have a := hq.inv.rng h0 hx
  unfold conj
  rw [(hq.inv.comp hp).at_comp h0 hx, hq.inv.at_comp h0 hx]
theorem conj_idl {d : Nat} (h1 : 1 ≤ d) (h2 : d ≤ 20) {q : List Int} (hq : Pm d q) : conj (idl d) q = idl d := by
  refine pm_ext ((Pm.idl h1 h2).conj hq).2 (idl_length d) fun x h0 hx => ?_
  have a := hq.inv.rng h0 hx
  rw [at_conj (.idl h1 h2) hq h0 hx, idl_at0 a.1 a.2, hq.at_inv h0 hx, idl_at0 h0 hx]
theorem conj_comp {d : Nat} {p g q : List Int} (hp : Pm d p) (hg : Pm d g) (hq : Pm d q) : conj (comp p g) q = comp (conj p q) (conj g q) := by
  refine pm_ext ((hp.comp hg).conj hq).2 ((hp.conj hq).comp (hg.conj hq)).2 fun x h0 hx => ?_
  have a := hq.inv.rng h0 hx
  have b := hp.rng a.1 a.2
  have c := hq.rng b.1 b.2
  rw [at_conj (hp.comp hg) hq h0 hx, hp.at_comp a.1 a.2, (hp.conj hq).at_comp h0 hx, at_conj hp hq h0 hx, at_conj hg hq c.1 c.2, hq.inv_at b.1 b.2]

/-- Conjugates of generators are members: so are those of members. -/
def Norm (d : Nat) (xss L : List (List Int)) : Prop := ∀ g ∈ L, ∀ x ∈ xss, Grp d L (conj g x)
theorem Norm.grp {d : Nat} (h1 : 1 ≤ d) (h2 : d ≤ 20) {xss L : List (List Int)} (hx : Gs d xss) (hL : Gs d L) (h : Norm d xss L) {g : List Int} (hg : Grp d L g) : ∀ x ∈ xss, Grp d L (conj g x) := by
  intro x hxm
  induction hg with
  | one => rw [conj_idl h1 h2 (hx x hxm)]; exact .one
  | mul hp hm ih =>
    rw [conj_comp (hp.pm h1 h2 hL) (hL _ hm) (hx x hxm)]
    exact ih.comp h1 h2 hL (h _ hm x hxm)
/-- A member of every group with all commutators that conjugation keeps. -/
def NC (d : Nat) (xss : List (List Int)) (g : List Int) : Prop :=
  Pm d g ∧ ∀ M : List (List Int), Gs d M → (∀ p ∈ xss, ∀ q ∈ xss, Grp d M (cmt p q)) → Norm d xss M → Grp d M g
theorem NC.cmt {d : Nat} {xss : List (List Int)} (hx : Gs d xss) {p q : List Int} (hp : p ∈ xss) (hq : q ∈ xss) : NC d xss (Go.Proofs.Ytpijnjhheikmcaa.cmt p q) :=
  ⟨(hx p hp).cmt (hx q hq), fun _ _ h _ => h p hp q hq⟩
theorem NC.conj {d : Nat} (h1 : 1 ≤ d) (h2 : d ≤ 20) {xss : List (List Int)} (hx : Gs d xss) {g x : List Int} (hg : NC d xss g) (hxm : x ∈ xss) : NC d xss (Go.Proofs.Ytpijnjhheikmcaa.conj g x) :=
  ⟨hg.1.conj (hx x hxm), fun M hM h hn => hn.grp h1 h2 hx hM (hg.2 M hM h hn) x hxm⟩
/-- The list L makes the group of the commutators. -/
structure Der (d : Nat) (xss L : List (List Int)) : Prop where
  nc : ∀ g ∈ L, NC d xss g
  has : ∀ p ∈ xss, ∀ q ∈ xss, Grp d L (cmt p q)
  norm : Norm d xss L
theorem Der.gs {d : Nat} {xss L : List (List Int)} (h : Der d xss L) : Gs d L := fun g hg => (h.nc g hg).1
theorem Der.sub {d : Nat} (h1 : 1 ≤ d) (h2 : d ≤ 20) {xss L M : List (List Int)} (h : Der d xss L) (k : Der d xss M) {p : List Int} (hp : Grp d L p) : Grp d M p :=
  hp.mono h1 h2 k.gs fun g hg => (h.nc g hg).2 M k.gs k.has k.norm
theorem Der.same {d : Nat} (h1 : 1 ≤ d) (h2 : d ≤ 20) {xss L M : List (List Int)} (h : Der d xss L) (k : Der d xss M) : osz d L = osz d M :=
  osz_congr fun _ => ⟨h.sub h1 h2 k, k.sub h1 h2 h⟩
open Classical in
noncomputable def derO (d : Nat) (xss : List (List Int)) : Nat := if h : ∃ L, Der d xss L then ordF (osz d h.choose) 0 d else 0
open Classical in
theorem derO_eq {d : Nat} (h1 : 1 ≤ d) (h2 : d ≤ 20) {xss L : List (List Int)} (h : Der d xss L) : derO d xss = ordF (osz d L) 0 d := by
  have hex : ∃ L, Der d xss L := ⟨L, h⟩
  unfold derO
  rw [dif_pos hex, hex.choose_spec.same h1 h2 h]
open Classical in
noncomputable def pDer (z : Int) (xss : List (List Int)) : Int := if GenSet z xss then (derO z.toNat xss : Nat) else 0

theorem grp_snoc {d : Nat} {L : List (List Int)} {p q : List Int} (h : Grp d L q) : Grp d (L ++ [p]) q := by
  induction h with
  | one => exact .one
  | mul _ hm ih => exact ih.mul (List.mem_append_left _ hm)
theorem grp_last {d : Nat} {L : List (List Int)} {p : List Int} (hL : Gs d L) (hp : Pm d p) : Grp d (L ++ [p]) p :=
  Grp.gen (fun g hg => by
    rcases List.mem_append.1 hg with hg | hg
    · exact hL g hg
    · obtain rfl := List.mem_singleton.1 hg; exact hp) (List.mem_append_right _ (List.mem_singleton.2 rfl))
/-- One more generator, unless it is a member already: the program's add. -/
structure AddTo (d : Nat) (p : List Int) (L L' : List (List Int)) : Prop where
  ext : ∃ t, L' = L ++ t ∧ ∀ g ∈ t, g = p
  has : Grp d L' p
theorem AddTo.old {d : Nat} {p : List Int} {L : List (List Int)} (h : Grp d L p) : AddTo d p L L := ⟨⟨[], by simp, by simp⟩, h⟩
theorem AddTo.new {d : Nat} {p : List Int} {L : List (List Int)} (hL : Gs d L) (hp : Pm d p) : AddTo d p L (L ++ [p]) := ⟨⟨[p], rfl, by simp⟩, grp_last hL hp⟩
theorem AddTo.sub {d : Nat} {p q : List Int} {L L' : List (List Int)} (h : AddTo d p L L') (hq : Grp d L q) : Grp d L' q := by
  obtain ⟨⟨t, rfl, _⟩, _⟩ := h
  induction hq with
  | one => exact .one
  | mul _ hm ih => exact ih.mul (List.mem_append_left _ hm)
theorem AddTo.nc {d : Nat} {xss : List (List Int)} {p : List Int} {L L' : List (List Int)} (h : AddTo d p L L') (hL : ∀ g ∈ L, NC d xss g) (hp : NC d xss p) : ∀ g ∈ L', NC d xss g := by
  obtain ⟨⟨t, rfl, ht⟩, _⟩ := h
  intro g hg
  rcases List.mem_append.1 hg with hg | hg
  · exact hL g hg
  · rw [ht g hg]; exact hp
theorem AddTo.get {d : Nat} {p g : List Int} {L L' : List (List Int)} (h : AddTo d p L L') {j : Nat} (hj : L[j]? = some g) : L'[j]? = some g := by
  obtain ⟨⟨t, rfl, _⟩, _⟩ := h
  rw [List.getElem?_append_left (List.getElem?_eq_some_iff.1 hj).1]
  exact hj

/-- The program's first two loops: all commutators of the first i with all, and of the i-th with the first k. -/
structure Cm (d : Nat) (xss L : List (List Int)) (i k : Nat) : Prop where
  nc : ∀ g ∈ L, NC d xss g
  has : ∀ (j : Nat) (p : List Int), j < i → xss[j]? = some p → ∀ q ∈ xss, Grp d L (cmt p q)
  now : ∀ (j : Nat) (p q : List Int), j < k → xss[i]? = some p → xss[j]? = some q → Grp d L (cmt p q)
theorem Cm.start (d : Nat) (xss : List (List Int)) : Cm d xss [] 0 0 := ⟨by simp, fun j p hj => by omega, fun j p q hj => by omega⟩
theorem Cm.step {d : Nat} {xss L L' : List (List Int)} {i k : Nat} {p q : List Int} (hx : Gs d xss) (h : Cm d xss L i k) (hp : xss[i]? = some p) (hq : xss[k]? = some q) (ha : AddTo d (cmt p q) L L') : Cm d xss L' i (k + 1) := by
  refine ⟨ha.nc h.nc (.cmt hx (List.mem_of_getElem? hp) (List.mem_of_getElem? hq)), fun j p hj e q hq => ha.sub (h.has j p hj e q hq), fun j p' q' hj e e' => ?_⟩
  by_cases hjk : j = k
  · subst hjk
    rw [hp] at e; cases e
    rw [hq] at e'; cases e'
    exact ha.has
  · exact ha.sub (h.now j p' q' (by omega) e e')
theorem Cm.row {d : Nat} {xss L : List (List Int)} {i : Nat} (h : Cm d xss L i xss.length) : Cm d xss L (i + 1) 0 := by
  refine ⟨h.nc, fun j p hj e q hq => ?_, fun j p q hj => by omega⟩
  by_cases hji : j = i
  · subst hji
    obtain ⟨k, hk, e'⟩ := List.mem_iff_getElem.1 hq
    exact h.now k p q hk e (by rw [List.getElem?_eq_getElem hk, e'])
  · exact h.has j p (by omega) e q hq
theorem Cm.all {d : Nat} {xss L : List (List Int)} (h : Cm d xss L xss.length 0) : ∀ p ∈ xss, ∀ q ∈ xss, Grp d L (cmt p q) := by
  intro p hp q hq
  obtain ⟨k, hk, e⟩ := List.mem_iff_getElem.1 hp
  exact h.has k p hk (by rw [List.getElem?_eq_getElem hk, e]) q hq
/-- The program's last two loops: the conjugates of the first i of the list, and of the i-th by the first k. -/
structure Cj (d : Nat) (xss L : List (List Int)) (i k : Nat) : Prop where
  nc : ∀ g ∈ L, NC d xss g
  has : ∀ p ∈ xss, ∀ q ∈ xss, Grp d L (cmt p q)
  old : ∀ (j : Nat) (g : List Int), j < i → L[j]? = some g → ∀ x ∈ xss, Grp d L (conj g x)
  now : ∀ (j : Nat) (g x : List Int), j < k → L[i]? = some g → xss[j]? = some x → Grp d L (conj g x)
theorem Cj.start {d : Nat} {xss L : List (List Int)} (h : Cm d xss L xss.length 0) : Cj d xss L 0 0 := ⟨h.nc, h.all, fun j p hj => by omega, fun j p q hj => by omega⟩
theorem Cj.step {d : Nat} (h1 : 1 ≤ d) (h2 : d ≤ 20) {xss L L' : List (List Int)} {i k : Nat} {g x : List Int} (hx : Gs d xss) (h : Cj d xss L i k) (hg : L[i]? = some g) (hxk : xss[k]? = some x) (ha : AddTo d (conj g x) L L') : Cj d xss L' i (k + 1) := by
  have hi := (List.getElem?_eq_some_iff.1 hg).1
  have hlow : ∀ j, j ≤ i → ∀ g', L'[j]? = some g' → L[j]? = some g' := fun j hj g' e => by
    have e2 : L[j]? = some (L[j]'(by omega)) := List.getElem?_eq_getElem (by omega)
    rw [ha.get e2] at e
    rw [e2]; exact e
  refine ⟨ha.nc h.nc ((h.nc g (List.mem_of_getElem? hg)).conj h1 h2 hx (List.mem_of_getElem? hxk)), fun p hp q hq => ha.sub (h.has p hp q hq), fun j g' hj e x hx' => ha.sub (h.old j g' hj (hlow j (by omega) g' e) x hx'), fun j g' x' hj e e' => ?_⟩
  have e2 := hlow i (Nat.le_refl _) g' e
  by_cases hjk : j = k
  · subst hjk
    rw [hg] at e2; cases e2
    rw [hxk] at e'; cases e'
    exact ha.has
  · exact ha.sub (h.now j g' x' (by omega) e2 e')
theorem Cj.row {d : Nat} {xss L : List (List Int)} {i : Nat} (h : Cj d xss L i xss.length) : Cj d xss L (i + 1) 0 := by
  refine ⟨h.nc, h.has, fun j g hj e x hx => ?_, fun j p q hj => by omega⟩
  by_cases hji : j = i
  · subst hji
    obtain ⟨k, hk, e'⟩ := List.mem_iff_getElem.1 hx
    exact h.now k g x hk e (by rw [List.getElem?_eq_getElem hk, e'])
  · exact h.old j g (by omega) e x hx
theorem Cj.der {d : Nat} {xss L : List (List Int)} (h : Cj d xss L L.length 0) : Der d xss L := ⟨h.nc, h.has, fun g hg x hx => by
  obtain ⟨k, hk, e⟩ := List.mem_iff_getElem.1 hg
  exact h.old k g hk (by rw [List.getElem?_eq_getElem hk, e]) x hx⟩

/-- The commutators of each with those before it. -/
def cmts (xss : List (List Int)) (i : Nat) : List (List Int) := ((List.range i).flatMap fun j => (List.range j).map fun k => cmt (xss.getD j []) (xss.getD k []))
theorem cmts_succ (xss : List (List Int)) (i : Nat) : cmts xss (i + 1) = cmts xss i ++ (List.range i).map fun k => cmt (xss.getD i []) (xss.getD k []) := by
  unfold cmts; rw [List.range_succ, List.flatMap_append]; simp
def cmtR (xss : List (List Int)) (i k : Nat) : List (List Int) := cmts xss i ++ (List.range k).map fun k => cmt (xss.getD i []) (xss.getD k [])
theorem cmtR_zero (xss : List (List Int)) (i : Nat) : cmtR xss i 0 = cmts xss i := by simp [cmtR]
theorem cmtR_succ {xss : List (List Int)} {i k : Nat} {p q : List Int} (hp : xss[i]? = some p) (hq : xss[k]? = some q) : cmtR xss i (k + 1) = cmtR xss i k ++ [cmt p q] := by
  unfold cmtR
  rw [List.range_succ, List.map_append, List.append_assoc]
  simp [List.getD_eq_getElem?_getD, hp, hq]
theorem cmtR_full (xss : List (List Int)) (i : Nat) : cmtR xss i i = cmts xss (i + 1) := (cmts_succ xss i).symm
theorem cmts_length (xss : List (List Int)) : ∀ i, (cmts xss i).length ≤ i * i
  | 0 => by simp [cmts]
  | i + 1 => by
    rw [cmts_succ, List.length_append, List.length_map, List.length_range]
    have := cmts_length xss i
    have e : (i + 1) * (i + 1) = i * i + i + (i + 1) := by rw [Nat.add_mul, Nat.mul_add]; omega
    omega
theorem mem_cmts {xss : List (List Int)} {i : Nat} {g : List Int} : g ∈ cmts xss i ↔ ∃ j k, j < i ∧ k < j ∧ g = cmt (xss.getD j []) (xss.getD k []) := by
  simp only [cmts, List.mem_flatMap, List.mem_range, List.mem_map]
  constructor
  · rintro ⟨j, hj, k, hk, e⟩; exact ⟨j, k, hj, hk, e.symm⟩
  · rintro ⟨j, k, hj, hk, e⟩; exact ⟨j, hj, k, hk, e.symm⟩
theorem getD_mem {xss : List (List Int)} {j : Nat} (hj : j < xss.length) : xss.getD j [] ∈ xss := by
  rw [List.getD_eq_getElem?_getD, List.getElem?_eq_getElem hj]; exact List.getElem_mem hj
/-- The reference's last loop: the first i of the list D are members; what L bears has its conjugates in D. -/
structure Sj (d : Nat) (xss L D : List (List Int)) (i : Nat) : Prop where
  nc : ∀ g ∈ L, NC d xss g
  dnc : ∀ g ∈ D, NC d xss g
  com : ∀ g ∈ cmts xss xss.length, g ∈ D
  old : ∀ (j : Nat) (g : List Int), j < i → D[j]? = some g → Grp d L g
  cjs : ∀ g ∈ L, ∀ x ∈ xss, conj g x ∈ D
theorem Sj.start {d : Nat} {xss : List (List Int)} (hx : Gs d xss) : Sj d xss [] (cmts xss xss.length) 0 :=
  ⟨by simp, fun g hg => by
    obtain ⟨j, k, hj, hk, rfl⟩ := mem_cmts.1 hg
    exact .cmt hx (getD_mem hj) (getD_mem (by omega)), fun _ h => h, fun j g hj => by omega, by simp⟩
theorem Sj.old' {d : Nat} {xss L D : List (List Int)} {i : Nat} {g : List Int} (h : Sj d xss L D i) (hg : D[i]? = some g) (hm : Grp d L g) : Sj d xss L D (i + 1) :=
  ⟨h.nc, h.dnc, h.com, fun j g' hj e => by
    by_cases hji : j = i
    · subst hji; rw [hg] at e; cases e; exact hm
    · exact h.old j g' (by omega) e, h.cjs⟩
/-- What the reference lays behind the list: the conjugates by the first k. -/
def cjR (xss : List (List Int)) (g : List Int) (k : Nat) : List (List Int) := (xss.take k).map fun x => conj g x
theorem Sj.new {d : Nat} (h1 : 1 ≤ d) (h2 : d ≤ 20) {xss L D : List (List Int)} {i : Nat} {g : List Int} (hx : Gs d xss) (h : Sj d xss L D i) (hg : D[i]? = some g) : Sj d xss (L ++ [g]) (D ++ cjR xss g xss.length) (i + 1) := by
  have hgn := h.dnc g (List.mem_of_getElem? hg)
  have hi := (List.getElem?_eq_some_iff.1 hg).1
  have hcj : cjR xss g xss.length = xss.map fun x => conj g x := by unfold cjR; rw [List.take_length]
  rw [hcj]
  refine ⟨fun p hp => ?_, fun p hp => ?_, fun p hp => List.mem_append_left _ (h.com p hp), fun j p hj e => ?_, fun p hp x hxm => ?_⟩
  · rcases List.mem_append.1 hp with hp | hp
    · exact h.nc p hp
    · obtain rfl := List.mem_singleton.1 hp; exact hgn
  · rcases List.mem_append.1 hp with hp | hp
    · exact h.dnc p hp
    · obtain ⟨x, hxm, rfl⟩ := List.mem_map.1 hp
      exact hgn.conj h1 h2 hx hxm
  · rw [List.getElem?_append_left (by omega)] at e
    by_cases hji : j = i
    · subst hji; rw [hg] at e; cases e
      exact grp_last (fun p hp => (h.nc p hp).1) hgn.1
    · exact grp_snoc (h.old j p (by omega) e)
  · rcases List.mem_append.1 hp with hp | hp
    · exact List.mem_append_left _ (h.cjs p hp x hxm)
    · obtain rfl := List.mem_singleton.1 hp
      exact List.mem_append_right _ (List.mem_map.2 ⟨x, hxm, rfl⟩)
theorem Sj.der {d : Nat} (h1 : 1 ≤ d) (h2 : d ≤ 20) {xss L D : List (List Int)} (hx : Gs d xss) (h : Sj d xss L D D.length) : Der d xss L := by
  have hL : Gs d L := fun g hg => (h.nc g hg).1
  have hall : ∀ g ∈ D, Grp d L g := fun g hg => by
    obtain ⟨k, hk, e⟩ := List.mem_iff_getElem.1 hg
    exact h.old k g hk (by rw [List.getElem?_eq_getElem hk, e])
  refine ⟨h.nc, fun p hp q hq => ?_, fun g hg x hxm => hall _ (h.cjs g hg x hxm)⟩
  obtain ⟨j, hj, ej⟩ := List.mem_iff_getElem.1 hp
  obtain ⟨k, hk, ek⟩ := List.mem_iff_getElem.1 hq
  have gj : xss.getD j [] = p := by rw [List.getD_eq_getElem?_getD, List.getElem?_eq_getElem hj, ej]; rfl
  have gk : xss.getD k [] = q := by rw [List.getD_eq_getElem?_getD, List.getElem?_eq_getElem hk, ek]; rfl
  by_cases h1' : k < j
  · exact hall _ (h.com _ (mem_cmts.2 ⟨j, k, hj, h1', by rw [gj, gk]⟩))
  · by_cases h2' : j < k
    · have := grp_inv h1 h2 hL (hall _ (h.com _ (mem_cmts.2 ⟨k, j, hk, h2', rfl⟩)))
      rw [gj, gk, inv_cmt (hx q hq) (hx p hp)] at this
      exact this
    · obtain rfl : j = k := by omega
      rw [← gj, ← gk, cmt_self (hx _ (getD_mem hj))]
      exact .one
end Go.Proofs.Ytpijnjhheikmcaa
