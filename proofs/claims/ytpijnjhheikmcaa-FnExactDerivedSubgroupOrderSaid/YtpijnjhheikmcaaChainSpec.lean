/- The reference's addGenerator and addProduct. -/
import Derived.Test.YtpijnjhheikmcaaChainStep
import Derived.Test.YtpijnjhheikmcaaPureChain4
namespace Go.Proofs.Ytpijnjhheikmcaa
open Go.RowKit

/-- A row of the call's own of rows that lie in the blocks D, none in the row's own block. -/
def OutD (D : Nat → Prop) (w : World) (B : Nat) (c : Option Addr) (m capc : Nat) (xss : List (List Int)) : Prop :=
  ∃ hs : List Hdr, Own w B 23 c m capc (hs.map hvv) ∧ xss.length = m ∧ ∀ (j : Nat) (h : Hdr) (xs : List Int), hs[j]? = some h → xss[j]? = some xs → IntsD (fun b => D b ∧ ¬ fpI c b) w h.1 h.2.1 xs ∧ h.2.1 ≤ h.2.2
theorem OutD.length {D : Nat → Prop} {w : World} {B : Nat} {c : Option Addr} {m capc : Nat} {xss : List (List Int)} (h : OutD D w B c m capc xss) : xss.length = m := by obtain ⟨_, _, h, _⟩ := h; exact h
theorem OutD.snoc {D : Nat → Prop} {w w' : World} {B j : Nat} {c : Option Addr} {m capc : Nat} {xss : List (List Int)} {hs : List Hdr} (h : Own w B 23 c m capc (hs.map hvv)) (hl : xss.length = m)
    (h3 : ∀ (j : Nat) (h : Hdr) (xs : List Int), hs[j]? = some h → xss[j]? = some xs → IntsD (fun b => D b ∧ ¬ fpI c b) w h.1 h.2.1 xs ∧ h.2.1 ≤ h.2.2)
    {a' : Option Addr} {n' c' : Nat} {xs : List Int} (hx : IntsD (fun b => D b ∧ ¬ fpI c b) w a' n' xs) (hc : n' ≤ c') (hg : Grew c w w') {a2 : Option Addr} {n2 cap2 : Nat} (ho : Own w' B 23 a2 n2 cap2 (hs.map hvv ++ [.slice a' n' c'])) (ha : a2 = c ∨ a2 = some ⟨w.heap.size + j, 0, none⟩) :
    OutD D w' B a2 n2 cap2 (xss ++ [xs]) := by
  have hn := ho.length
  have hn1 := h.length
  simp at hn hn1
  have key : ∀ (a : Option Addr) (n : Nat) (ys : List Int), IntsD (fun b => D b ∧ ¬ fpI c b) w a n ys → IntsD (fun b => D b ∧ ¬ fpI a2 b) w' a n ys := by
    intro a n ys hy
    have hy2 : IntsD (fun b => D b ∧ ¬ fpI c b ∧ ¬ fpI a2 b) w a n ys := hy.mono fun b hb hd => ⟨hd.1, hd.2, fun e => by
      rcases ha with rfl | rfl
      · exact hd.2 e
      · obtain ⟨off, s, e⟩ := e; cases e; omega⟩
    have hk : Kept (fun b => D b ∧ ¬ fpI c b ∧ ¬ fpI a2 b) w w' := .of_grew hg fun b hb => hb.2.1
    exact (hy2.kept hk).mono fun b _ hd => ⟨hd.1, hd.2.2⟩
  refine ⟨hs ++ [(a', n', c')], by rw [List.map_append]; exact ho, by simp; omega, fun i h ys e e' => ?_⟩
  by_cases hi : i < hs.length
  · rw [List.getElem?_append_left hi] at e
    rw [List.getElem?_append_left (by omega)] at e'
    exact ⟨key _ _ _ (h3 i h ys e e').1, (h3 i h ys e e').2⟩
  · rw [List.getElem?_append_right (by omega)] at e
    rw [List.getElem?_append_right (by omega)] at e'
    obtain ⟨hl1, rfl⟩ := List.getElem?_eq_some_iff.1 e
    obtain ⟨hl2, rfl⟩ := List.getElem?_eq_some_iff.1 e'
    simp only [List.getElem_singleton]
    exact ⟨key _ _ _ hx, hc⟩
theorem OutD.matD {D : Nat → Prop} {w : World} {B : Nat} {c : Option Addr} {m capc : Nat} {xss : List (List Int)} (h : OutD D w B c m capc xss) (hD : ∀ b, B ≤ b → D b) : MatD D w c m xss := by
  obtain ⟨hs, h1, h2, h3⟩ := h
  exact ⟨hs, h1.vals, h2, fun b _ ⟨off, s, e⟩ => hD b (h1.lt e).1, fun j h xs e e' => ⟨(h3 j h xs e e').1.mono fun b _ hd => hd.1, (h3 j h xs e e').2⟩⟩
theorem MatD.ev {B k : Nat} {r r' : Role} {w w' : World} {a : Option Addr} {n : Nat} {xss : List (List Int)} (h : MatD (RZ r) w a n xss) (he : Ev B k r w r' w') : MatD (RZ r') w' a n xss :=
  ((h.mono (D' := fun b => RZ r b ∧ RZ r' b) fun b hb hd => ⟨hd, by show r' b = 0; rw [he.role b hb]; exact hd⟩).kept fun b hb hl => he.z b hb.1 hl).mono fun _ _ hd => hd.2

/-- What the statement that appends p leaves. -/
def AddedS (w : World) (r : Role) (B d k cp gb tb gc tc : Nat) (rb : Nat → Nat) (gh : Nat → Hdr) (R : Tr) (G : Nat → List (List Int)) (p : List Int) (wx : World) : Prop :=
  ∃ (r1 : Role) (gh1 : Nat → Hdr), (∀ i, i < k → gh1 i = gh i) ∧ Ch wx r1 B d 2 1 cp gb tb gc tc rb gh1 R (addG G k p) ∧ Ev B k r w r1 wx
theorem addedS_of {w w1 w2 : World} {r : Role} {B d k cp gb tb gc tc : Nat} {rb : Nat → Nat} {gh : Nat → Hdr} {R : Tr} {G : Nat → List (List Int)} (hE : Ev B k r w r w1) (hC : Ch w1 r B d 2 1 cp gb tb gc tc rb gh R G) (hk : k < d) {ga : Option Addr} {gn gcap : Nat} (hgh : gh k = (ga, gn, gcap)) {hs : List Hdr} (h1 : Own w1 B 23 ga gn gcap (hs.map hvv)) (h2 : (G k).length = gn)
    (h4 : ∀ (j : Nat) (x : Hdr) (g : List Int), hs[j]? = some x → (G k)[j]? = some g → IntsD (RZ r) w1 x.1 x.2.1 g ∧ x.2.1 ≤ x.2.2) {a : Option Addr} {n cap : Nat} {p : List Int} (hp : IntsD (RZ r) w1 a n p) (hc : n ≤ cap) (hg : Grew ga w1 w2) {a' : Option Addr} {n' cap' j : Nat} (ho : Own w2 B 23 a' n' cap' (hs.map hvv ++ [.slice a n cap])) (ha : a' = ga ∨ a' = some ⟨w1.heap.size + j, 0, none⟩) :
    AddedS w r B d k cp gb tb gc tc rb gh R G p (w2.setCell ⟨gb, k, none⟩ (.slice a' n' cap')) := by
  have hl := ho.length
  have hl1 := h1.length
  simp at hl hl1
  obtain ⟨g2, rfl⟩ : ∃ g2, a' = some ⟨g2, 0, none⟩ := by
    rcases ho.addr with ⟨_, h, _⟩ | ⟨g, h, _⟩
    · omega
    · exact ⟨g, h⟩
  have ha2 : (gh k).1 = some ⟨g2, 0, none⟩ ∨ w1.heap.size ≤ g2 := by
    rw [hgh]
    rcases ha with e | e
    · exact .inl e.symm
    · cases e; exact .inr (Nat.le_add_right _ _)
  have hgb := hC.lo gb (by rw [hC.rg]; omega)
  have hfp := hC.gens_fp hk
  obtain ⟨hC2, hrole, _⟩ := hC.addGen hk hp hc h4 (by omega) (by rw [hgh]; exact hg) ho ha2
  rw [hgh] at hfp
  have hE2 : Ev B k r w1 (roleG r k g2) (w2.setCell ⟨gb, k, none⟩ (.slice (some ⟨g2, 0, none⟩) n' cap')) := by
    refine ⟨(hg.below hC.hB fun b off s e => (hC.lo b (by rw [hfp b ⟨off, s, e⟩]; omega)).1).setCell (p := ⟨gb, k, none⟩) hgb.1 _, hrole, fun b hb hl => ?_⟩
    refine (heap_store w2 gb k b _ fun e => ?_).trans (hg.block b hl fun off s e => ?_)
    · subst e; exact hb.1 hC.rg
    · have := hfp b ⟨off, s, e⟩; have := hC.d2; unfold LowR at hb; omega
  exact ⟨_, _, fun i hi => by simp [show i ≠ k by omega], hC2, hE.trans hE2⟩

/-- How much there is to come. -/
def wt (d k : Nat) : Nat := (d - k) * (d + 2)
theorem wt_succ {d k : Nat} (hk : k < d) : wt d (k + 1) + (d + 2) = wt d k := by
  unfold wt
  rw [show d - k = (d - (k + 1)) + 1 by omega, Nat.succ_mul]

/-- The contracts of the two, as statements. -/
def GenC (d B cp gb tb gc tc : Nat) (rb : Nat → Nat) (k : Nat) : Prop := ∀ (K : Ending → World → Prop) (r : Role) (gh : Nat → Hdr) (R : Tr) (G : Nat → List (List Int)) (a : Option Addr) (n cap : Nat) (p : List Int) (w : World),
    Ch w r B d 2 1 cp gb tb gc tc rb gh R G → Hd (Okx d R G k) → IntsD (RZ r) w a n p → n ≤ cap → Hd (Pm d p ∧ Fx k p) →
    (∀ w' r' gh' R' G', Ev B k r w r' w' → Ch w' r' B d 2 1 cp gb tb gc tc rb gh' R' G' → Hd (∀ i, i < k → gh' i = gh i) → Hd (AddPost d k p R G R' G') → K (.returned (.tuple #[])) w') →
    Calls Try.prog 72 #[.pointer (some ⟨cp, 0, none⟩), .int .i64 k, .slice a n cap] w K
def ProdC (d B cp gb tb gc tc : Nat) (rb : Nat → Nat) (M : Nat) : Prop := ∀ k, k < d → ∀ (K : Ending → World → Prop) (r : Role) (gh : Nat → Hdr) (R : Tr) (G : Nat → List (List Int)) (a : Option Addr) (n cap : Nat) (p : List Int) (w : World), wt d k + (d - szR d R k) = M →
    Ch w r B d 2 1 cp gb tb gc tc rb gh R G → Hd (Hf d k R G) → IntsD (RZ r) w a n p → n ≤ cap → Hd ((Pm d p ∧ Fx k p) ∧ Grp d (G k) p) →
    (∀ w' r' gh' R' G', Ev B k r w r' w' → Ch w' r' B d 2 1 cp gb tb gc tc rb gh' R' G' → Hd (∀ i, i < k + 1 → gh' i = gh i) → Hd (ProdPost d k p R G R' G') → K (.returned (.tuple #[])) w') →
    Calls Try.prog 91 #[.pointer (some ⟨cp, 0, none⟩), .int .i64 k, .slice a n cap] w K

set_option maxRecDepth 100000 in
set_option maxHeartbeats 4000000 in
theorem specProd (d B cp gb tb gc tc : Nat) (rb : Nat → Nat) (M : Nat) (ihp : ∀ m, m < M → ProdC d B cp gb tb gc tc rb m) (ihg : ∀ k, k ≤ d ∧ wt d k + d + 1 < M → GenC d B cp gb tb gc tc rb k) : ProdC d B cp gb tb gc tc rb M := by
  intro k hkd K r gh R G a n cap p w hM hC hhf hp hcap hpm H
  have H' := Hd.i H; clear H
  have hd1 := hC.d1
  have hd20 := hC.d2
  have hwt := wt_succ hkd
  have hsz := szR_le d R k
  have hc2 := hC.c2
  have htt := (hC.tt k hkd).1
  have hnd : n = d := by rw [← hp.1.length]; exact hpm.o.1.1.2
  obtain ⟨bp, offp, y, rfl, hbp, hcy, hyy, hy1, hy2⟩ := hp.1.at (k := k) (by omega)
  have hye : at0 p k = y := at0_of (by simpa using hyy.o)
  have hyr := hpm.o.1.1.rng (x := (k : Int)) (by omega) (by omega)
  rw [hye] at hyr
  obtain ⟨hy0, hyd⟩ := hyr
  have hkn : k < n := by omega
  obtain ⟨ra, rn, rc, hcr, hfr, hrno, hrso⟩ := hC.rep hkd (y := y.toNat) (by omega)
  have hsum := IntWalk.i64_in ((k : Int) + 1) (by omega)
  replace hnd := Hd.i hnd
  replace hye := Hd.i hye
  replace hM := Hd.i hM
  replace hwt := Hd.i hwt
  cases hRy : R k y.toNat with
  | some t =>
    obtain ⟨_, htI, htc⟩ := hrso.o t hRy
    have htp := (hhf.o.lv.row _ t hRy).1
    have hrn : rn = d := by rw [← htI.1.length]; exact htp.2
    have hrn0 : ¬ ((rn : Int) == 0) = true := by simp; omega
    have hrn1 : 0 < rn := by omega
    have hrle := htI.1.le
    have ht' : R k (at0 p k).toNat = some t := by rw [hye.o]; exact hRy
    have hdiv := Hd.i (div_ok hkd hhf.o.lv hpm.o.1.1 hpm.o.1.2 ht')
    have hgrp := Hd.i (div_grp hd1 hd20 hhf.o hpm.o.2 ht')
    have hrng : Hd (∀ x ∈ p, 0 ≤ x ∧ x < rn) := by
      have h1 := hpm.o.1.1.1.range
      rw [hpm.o.1.1.2] at h1
      rw [hrn]; exact h1
    have hn6 : n ≤ 1000000 := by have := hnd.o; omega
    have ihg' := ihg (k + 1) ⟨hkd, by have := hM.o; have := hwt.o; omega⟩
    unfold GenC at ihg'
    rw [show ((k + 1 : Nat) : Int) = (k : Int) + 1 by omega] at ihg'
    replace ihg' := Hd.i ihg'
    replace htp := Hd.i htp
    replace hrn := Hd.i hrn
    replace ht' := Hd.i ht'
    replace hRy := Hd.i hRy
    clear hrno hrso
    go_enter Try.func91, Try.ntmps91
    go_wp2
    go_quiet (fail)
    have hdr := (Drew.refl w).step nq
    have hC1 := hC.drew hdr
    have hE1 : Ev B k r w r (w.drewN nq) := .of_drew hdr
    have hp1 := hp.ev hE1
    have ht1 := htI.ev hE1
    clear hdr hcr hfr hcy hbp hc2 htt htI hp hC
    generalize w.drewN nq = w1 at *
    go_wp2_with fail
    refine specInverse_c _ _ _ t _ ht1.1 htp.o.1 ?_
    intro aI nI cI wI hbI hoI
    have hrg : Hd (∀ x ∈ p, 0 ≤ x ∧ x < nI) := by
      have h2 := hoI.length
      rw [inv_length] at h2
      have h3 := hrng.o
      have h4 := htp.o.2
      have h5 := hrn.o
      rw [← h2, h4, ← h5]
      exact h3
    go_wp2_with fail
    refine specCompose_c _ _ _ p _ _ _ (inv t) _ (hp1.1.up hbI) hoI.ints hn6 hrg ?_
    intro aC nC cC wC hbC hoC
    have hbw := below_on hbI hbC
    have hCI : IntsD (RZ r) wC aC nC (comp p (inv t)) := .of_own hoC (fun b hb => hC1.new (Nat.le_trans hbI.size hb))
    go_wp2_with fail
    refine ihg'.o _ r gh R G _ _ _ (comp p (inv t)) _ (hC1.up hbw) hhf.o.ok hCI hoC.cap hdiv ?_
    intro w9 r9 gh9 R9 G9 hE9 hC9 hlow9 hpost9
    have hpp : Hd (ProdPost d k p R G R9 G9) := .old hd1 hd20 hkd hhf.o hpm.o.2 ht'.o hpost9.o
    go_wp2
    go_end0
    exact H'.o _ _ _ _ _ (hE1.trans ((Ev.of_below hbw hC1.hB).trans (hE9.mono (Nat.le_succ k)))) hC9 hlow9 hpp
  | none =>
    have e := hrno.o hRy
    simp only [Prod.mk.injEq] at e
    obtain ⟨rfl, rfl, rfl⟩ := e
    have hn' : R k (at0 p k).toNat = none := by rw [hye.o]; exact hRy
    have hfs := Hd.i (Fresh.start hkd hhf.o hpm.o.1.1 hpm.o.1.2 hpm.o.2 hn')
    rw [hye.o] at hfs
    replace hn' := Hd.i hn'
    replace hRy := Hd.i hRy
    have hn6 : n ≤ 1000000 := by have := hnd.o; omega
    have hrcp := Hd.i hC.rc
    have hrtb := Hd.i hC.rt
    have hrbp := Hd.i (hp.2 bp (by omega) ⟨offp, none, rfl⟩)
    have hrbk := Hd.i (hC.tt k hkd).2
    clear hrno hrso
    go_enter Try.func91, Try.ntmps91
    go_wp2
    go_quiet (fail)
    have hdr := (Drew.refl w).step nq
    have hC1 := hC.drew hdr
    have hE1 : Ev B k r w r (w.drewN nq) := .of_drew hdr
    have hp1 := hp.ev hE1
    replace hcr : (w.drewN nq).cell? ⟨rb k, y.toNat, none⟩ = some (.slice none 0 0) := hcr
    replace hfr : (w.drewN nq).frozen? ⟨rb k, y.toNat, none⟩ = false := hfr
    replace hcy : (w.drewN nq).cell? ⟨bp, offp + k, none⟩ = some (.int .i64 y) := hcy
    replace hc2 : (w.drewN nq).cell? ⟨cp, 1, none⟩ = some (.slice (some ⟨tb, 0, none⟩) d tc) := hc2
    replace htt : (w.drewN nq).cell? ⟨tb, k, none⟩ = some (.slice (some ⟨rb k, 0, none⟩) d d) := htt
    clear hdr hbp hp hC
    generalize w.drewN nq = w1 at *
    go_wp2
    go_region_held3 (fun w' => w'.cell? ⟨cp, 1, none⟩ = some (.slice (some ⟨tb, 0, none⟩) d tc) ∧ w'.cell? ⟨tb, k, none⟩ = some (.slice (some ⟨rb k, 0, none⟩) d d) ∧ w'.cell? ⟨bp, offp + k, none⟩ = some (.int .i64 y) ∧ Kept (RZ r) w1 w')
      (first | exact keepL hc2 htt hcy hrcp.o hrtb.o hrbp.o (.of_drew (Drew.refl _).one) | assumption | exact keepL hc2 htt hcy hrcp.o hrtb.o hrbp.o (Kept.of_store (fun b hb e => by have h1 := hrbk.o; rw [← e] at h1; have h2 : r b = 0 := hb; omega)))
      (fail)
    have hydn : y.toNat < d := by omega
    have hC2 := (hC1.setRep hkd hydn (by simp) hp1 hcap).drew ((Drew.refl _).one)
    have hE2 : Ev B k r w r (w1.setCell ⟨rb k, y.toNat, none⟩ (.slice (some ⟨bp, offp, none⟩) n cap)).drew := (hE1.trans (hC1.setRepEv hkd y.toNat _)).trans (.of_drew (Drew.refl _).one)
    have hp2 := hp1.ev ((hC1.setRepEv hkd y.toNat (.slice (some ⟨bp, offp, none⟩) n cap)).trans (.of_drew (Drew.refl _).one))
    obtain ⟨ga, gn, gcap, hgh⟩ : ∃ ga gn gcap, gh k = (ga, gn, gcap) := ⟨_, _, _, rfl⟩
    have hgn : (G k).length = gn := by have := (hC1.head hkd).2.2; rw [hgh] at this; exact this
    have hgnle : gn ≤ 281474976710656 := by
      obtain ⟨_, e, _⟩ := hC1.gens k hkd
      rw [hgh] at e
      exact e.le48
    replace hgh := Hd.i hgh
    replace hgn := Hd.i hgn
    generalize (w1.setCell ⟨rb k, y.toNat, none⟩ (.slice (some ⟨bp, offp, none⟩) n cap)).drew = w2 at *
    clear hcr hfr hcy hc2 htt hC1 hE1 hp1
    go_wp2
    go_loopw [7] (fun iv wr => ∃ (j : Nat) (r2 : Role) (gh2 : Nat → Hdr) (R2 : Tr) (G2 : Nat → List (List Int)), j ≤ gn ∧ iv = .int .i64 j ∧ Hd (∀ x, x < k + 1 → gh2 x = gh x) ∧ Ch wr r2 B d 2 1 cp gb tb gc tc rb gh2 R2 G2 ∧ Hd (Fresh d k p R G j R2 G2) ∧ IntsD (RZ r2) wr (some ⟨bp, offp, none⟩) n p ∧ Ev B k r w r2 wr) (fun iv _ => gn - (intOf iv).toNat)
    case atStart => exact ⟨0, r, gh, _, G, Nat.zero_le _, rfl, fun _ _ => rfl, hC2, by have := hfs.o; exact this, hp2, hE2⟩
    case round =>
      clear hC2 hE2 hp2 hfs
      obtain ⟨j, r2, gh2, R2, G2, hj, rfl, hgh2, hCr, hfs, hpr, hEr⟩ := hrel
      have hgk : gh2 k = (ga, gn, gcap) := (hgh2.o k (Nat.lt_succ_self k)).trans hgh.o
      have hcg := (hCr.head hkd).1
      rw [hgk] at hcg
      have hc2 := hCr.c1
      by_cases hlt : j < gn
      · obtain ⟨bg, a3, n3, c3, g, eb, hcgn, hgj, hgI, hgcap⟩ := hCr.gen hkd (j := j) (by rw [hgk]; exact hlt)
        rw [hgk] at eb
        have hgj0 : (G k)[j]? = some g := by rw [← hfs.o.run.gk]; exact hgj.o
        have hprod := hfs.o.prod hd1 hd20 hkd (List.mem_of_getElem? hgj0)
        have hgp := (hfs.o.run.hf0.lv.gen g (List.mem_of_getElem? hgj0)).1
        have hn3 : n3 = d := by rw [← hgI.1.length]; exact hgp.2
        have hrng : Hd (∀ x ∈ p, 0 ≤ x ∧ x < n3) := by
          have h1 := hpm.o.1.1.1.range
          rw [hpm.o.1.1.2] at h1
          rw [hn3]; exact h1
        have hszl := hfs.o.sz hkd hpm.o.1.1 hn'.o
        have hsz2 := szR_le d R2 k
        have ihp' := ihp (wt d k + (d - szR d R2 k)) (by have := hM.o; omega)
        have eb' : ga = some ⟨bg, 0, none⟩ := eb
        subst eb'
        replace hgk := Hd.i hgk
        replace hgj0 := Hd.i hgj0
        replace hprod := Hd.i hprod
        replace hgp := Hd.i hgp
        replace hn3 := Hd.i hn3
        replace ihp' := Hd.i ihp'
        clear hszl hsz2
        go_wp2_with fail
        refine specCompose_c _ _ _ p _ _ _ g _ hpr.1 hgI.1 hn6 hrng ?_
        intro aC nC cC wC hbC hoC
        have hCI : IntsD (RZ r2) wC aC nC (comp p g) := .of_own hoC (fun b hb => hCr.new hb)
        go_wp2_with fail
        refine ihp'.o k hkd _ r2 gh2 R2 G2 _ _ _ (comp p g) _ rfl (hCr.up hbC) hfs.o.run.hf hCI hoC.cap hprod.o ?_
        intro w9 r9 gh9 R9 G9 hE9 hC9 hlow9 hpost9
        have hEf : Ev B k r2 wr r9 w9 := (Ev.of_below hbC hCr.hB).trans hE9
        have hnx := Hd.i (hfs.o.step hd1 hd20 hkd hgj0.o hpost9.o)
        go_wp2
        exact ⟨⟨j + 1, r9, gh9, R9, G9, by omega, by go_num, fun x hx => (hlow9.o x hx).trans (hgh2.o x hx), hC9, hnx, hpr.ev hEf, hEr.trans hEf⟩, by simp [intOf]; omega⟩
      · obtain rfl : j = gn := by omega
        have hpp : Hd (ProdPost d k p R G R2 G2) := by
          have h := hfs.o
          rw [← hgn.o] at h
          exact h.full hd1 hd20 hkd hhf.o hn'.o
        replace hgk := Hd.i hgk
        go_wp2
        go_end0
        exact H'.o _ _ _ _ _ hEr hCr hgh2 hpp
end Go.Proofs.Ytpijnjhheikmcaa
