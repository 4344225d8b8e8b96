/- Sifting: the program's has, the reference's sift; the points of a level. -/
import Derived.Test.YtpijnjhheikmcaaChainMem
import Derived.Test.YtpijnjhheikmcaaPermFns
namespace Go.Proofs.Ytpijnjhheikmcaa
open Go.RowKit

theorem eqNil (w : World) (a : Option Addr) (n c : Nat) : (binOp .eql 23 (.slice a n c) (.slice none 0 0)).run Try.prog w = .ok (.bool a.isNone) w := Lib.run_eql_slice_nil w _ _ a n c 0 0 Try.underlying23
theorem neNil (w : World) (a : Option Addr) (n c : Nat) : (binOp .neq 23 (.slice a n c) (.slice none 0 0)).run Try.prog w = .ok (.bool (!a.isNone)) w := run_neq_slice_nil_any w _ _ a n c 0 0 Try.underlying23

/-- What has been sifted so far: p has become q. -/
def Sifted (d : Nat) (R : Tr) (k i : Nat) (p q : List Int) : Prop := Pm d q ∧ Fx i q ∧ (Sf d R k p ↔ Sf d R i q)
/-- The rows from level k on are in order. -/
def Rws (d : Nat) (R : Tr) (k : Nat) : Prop := ∀ i, k ≤ i → i < d → ∀ y t, R i y = some t → Pm d t ∧ Fx i t ∧ at0 t i = y ∧ y < d
theorem Okx.rws {d k : Nat} {R : Tr} {G : Nat → List (List Int)} (h : Okx d R G k) : Rws d R k := fun i h1 h2 y t e => by
  obtain ⟨a, b, c, e2, _⟩ := (h.okc i h1 h2).1.row y t e
  exact ⟨a, b, c, e2⟩
theorem Rws.up {d k j : Nat} {R : Tr} (h : Rws d R k) (hj : k ≤ j) : Rws d R j := fun i h1 h2 => h i (by omega) h2
theorem Hf.rws {d k : Nat} {R : Tr} {G : Nat → List (List Int)} (h : Hf d k R G) : Rws d R k := fun i h1 h2 y t e => by
  by_cases hi : i = k
  · subst hi
    obtain ⟨a, b, c, e2, _⟩ := h.lv.row y t e
    exact ⟨a, b, c, e2⟩
  · exact h.ok.rws i (by omega) h2 y t e
theorem Sifted.start {d k : Nat} {R : Tr} {p : List Int} (hp : Pm d p) (hf : Fx k p) : Sifted d R k k p p := ⟨hp, hf, Iff.rfl⟩
theorem Sifted.none {d k i : Nat} {R : Tr} {p q : List Int} (h : Sifted d R k i p q) (hi : i < d) (hn : R i (at0 q i).toNat = none) : ¬ Sf d R k p := fun hs => by
  obtain ⟨t, e, _⟩ := (sf_step hi R q).1 (h.2.2.1 hs)
  rw [hn] at e; cases e
theorem Sifted.some {d k i : Nat} {R : Tr} {p q t : List Int} (hR : Rws d R k) (h : Sifted d R k i p q) (hk : k ≤ i) (hi : i < d) (ht : R i (at0 q i).toNat = Option.some t) : Sifted d R k (i + 1) p (comp q (inv t)) := by
  obtain ⟨b1, b2, b3, b4⟩ := hR i hk hi _ t ht
  have hr := h.1.rng (x := (i : Int)) (by omega) (by omega)
  refine ⟨h.1.comp b1.inv, fun x hx => ?_, ?_⟩
  · by_cases hxk : x < i
    · exact h.2.1.comp (by omega) h.1 (b2.inv (by omega) b1) x hxk
    · obtain rfl : x = i := by omega
      rw [h.1.at_comp (by omega) (by omega), show at0 q x = at0 t x by rw [b3]; omega, b1.inv_at (by omega) (by omega)]
  · rw [h.2.2, sf_step hi]
    constructor
    · rintro ⟨u, e, hs⟩; rw [ht] at e; cases e; exact hs
    · intro hs; exact ⟨t, ht, hs⟩

set_option maxHeartbeats 1000000 in
theorem implHas_c {K : Ending → World → Prop} (d og B cp gb tb gc tc : Nat) (rb : Nat → Nat) (gh : Nat → Hdr) (r : Role) (R : Tr) (G : Nat → List (List Int)) (k : Nat) (a : Option Addr) (n cap : Nat) (p : List Int) (w : World) (hog : og = 1)
    (hC : Ch w r B d og 2 cp gb tb gc tc rb gh R G) (hR : Hd (Rws d R k)) (hk : k ≤ d) (hp : Ints w a n p) (hpm : Hd (Pm d p ∧ Fx k p)) (H : ∀ b : Bool, Hd (b = true ↔ Sf d R k p) → Gives K w (.bool b)) :
    Calls Try.prog 56 #[.pointer (some ⟨cp, 0, none⟩), .int .i64 k, .slice a n cap] w K := by
  have H' := Hd.i H; clear H
  have hd20 := hC.d2
  have hnil := eqNil
  subst hog
  go_enter Try.func56, Try.ntmps56
  go_wp2
  go_loopw [2, 7] (fun v iv wr => ∃ (i : Nat) (a : Option Addr) (n cap : Nat) (q : List Int), k ≤ i ∧ i ≤ d ∧ iv = .int .i64 i ∧ v = .slice a n cap ∧ Ints wr a n q ∧ Hd (Sifted d R k i p q) ∧ Below w.heap.size w wr) (fun _ iv _ => d - (intOf iv).toNat)
  case atStart => exact ⟨k, a, n, cap, p, Nat.le_refl _, hk, rfl, rfl, hp, Sifted.start hpm.o.1 hpm.o.2, Below.refl _ _⟩
  case round =>
    obtain ⟨i, a, n, cap, q, hki, hi, rfl, rfl, hq, hS, hb⟩ := hrel
    have hCr := hC.up hb
    have hc0 := hCr.c0
    by_cases hlt : i < d
    · have hc2 := hCr.c2
      have htt := (hCr.tt i hlt).1
      have hnd : n = d := by rw [← hq.length]; exact hS.o.1.2
      obtain ⟨bq, offq, y, rfl, hbq, hcq, hyq, hy1, hy2⟩ := hq.at (k := i) (by omega)
      have hyr : 0 ≤ y ∧ y < d := by have := hS.o.1.rng (x := (i : Int)) (by omega) (by omega); rw [show at0 q i = y from at0_of (by simpa using hyq.o)] at this; exact this
      obtain ⟨hy0, hyd⟩ := hyr
      have hye := Hd.i (show at0 q i = y from at0_of (by simpa using hyq.o))
      obtain ⟨ra, rn, rc, hcr, hfr, hrno, hrso⟩ := hCr.rep hlt (y := y.toNat) (by omega)
      have hin : i < n := by omega
      replace hnd := Hd.i hnd
      cases hRy : R i y.toNat with
      | none =>
        have e := hrno.o hRy
        simp only [Prod.mk.injEq] at e
        obtain ⟨rfl, rfl, rfl⟩ := e
        have hno : Hd (¬ Sf d R k p) := hS.o.none hlt (by rw [hye.o]; exact hRy)
        replace hRy := Hd.i hRy
        clear hrno hrso
        go_wp2
        go_quiet (fail)
        go_wp2
        exact H'.o false ⟨fun e => (by cases e), fun h => absurd h hno.o⟩ _ (((Drew.refl _).step nq).up hb)
      | some t =>
        obtain ⟨e1, e2, e3⟩ := hrso.o t hRy
        obtain ⟨ad, rfl⟩ : ∃ ad, ra = some ad := Option.ne_none_iff_exists'.1 e1
        have hS2 := Hd.i (hS.o.some hR.o hki hlt (by rw [hye.o]; exact hRy))
        have htp := Hd.i (hR.o i hki hlt _ t hRy).1
        replace hRy := Hd.i hRy
        have hdr := Drew.refl wr
        clear hrno hrso e1
        go_wp2
        go_quiet (fail)
        replace hdr := hdr.step nq
        have hq' := hdr.ints hq
        have ht' := hdr.ints e2.1
        have hb' := hdr.up hb
        clear hdr hcq hcr hfr hq hb e2 hCr hc0 hc2 htt
        generalize wr.drewN nq = wq at *
        go_wp2_with fail
        refine implInverse_c _ _ _ t _ ht' htp.o.1 ?_
        intro a2 n2 c2 w2 hb2 ho2
        have hrn : Hd (∀ x ∈ q, 0 ≤ x ∧ x < n2) := by
          have h1 := hS.o.1.1.range
          rw [hS.o.1.2] at h1
          have h2 := ho2.length
          rw [inv_length, htp.o.2] at h2
          rw [← h2]; exact h1
        have hn20 : n ≤ 1000000 := by have := hnd.o; omega
        go_wp2_with fail
        refine implCompose_c _ _ _ q _ _ _ (inv t) _ (hq'.up hb2) ho2.ints hn20 hrn ?_
        intro a3 n3 c3 w3 hb3 ho3
        go_wp2
        exact ⟨⟨i + 1, a3, n3, c3, comp q (inv t), by omega, by omega, by go_num, rfl, ho3.ints, hS2.o, below_ups hb' (below_ups hb2 hb3 hb2.size) hb'.size⟩, by simp [intOf]; omega⟩
    · obtain rfl : i = d := by omega
      have hyes : Hd (Sf i R k p) := hS.o.2.2.2 (sf_end i R q)
      go_wp2
      exact H'.o true ⟨fun _ => hyes.o, fun _ => rfl⟩ _ hb

/-- What the reference's sift hands back: that it went through, or not. -/
def SiftOut (d : Nat) (R : Tr) (k : Nat) (p : List Int) (l : Nat) : Prop := l = d ↔ Sf d R k p

set_option maxHeartbeats 1000000 in
theorem specSift_c {K : Ending → World → Prop} (d og B cp gb tb gc tc : Nat) (rb : Nat → Nat) (gh : Nat → Hdr) (r : Role) (R : Tr) (G : Nat → List (List Int)) (k : Nat) (a : Option Addr) (n cap : Nat) (p : List Int) (w : World) (hog : og = 2)
    (hC : Ch w r B d og 1 cp gb tb gc tc rb gh R G) (hR : Hd (Rws d R k)) (hk : k ≤ d) (hp : Ints w a n p) (hpm : Hd (Pm d p ∧ Fx k p))
    (H : ∀ a' n' c' (l : Nat) w', l ≤ d → Hd (SiftOut d R k p l) → Below w.heap.size w w' → K (.returned (.tuple #[.slice a' n' c', .int .i64 l])) w') :
    Calls Try.prog 83 #[.pointer (some ⟨cp, 0, none⟩), .int .i64 k, .slice a n cap] w K := by
  have H' := Hd.i H; clear H
  have hd20 := hC.d2
  have hd1 := hC.d1
  subst hog
  go_enter Try.func83, Try.ntmps83
  go_wp2
  go_loopw [2, 8] (fun v iv wr => ∃ (i : Nat) (a : Option Addr) (n cap : Nat) (q : List Int), k ≤ i ∧ i ≤ d ∧ iv = .int .i64 i ∧ v = .slice a n cap ∧ Ints wr a n q ∧ Hd (Sifted d R k i p q) ∧ Below w.heap.size w wr) (fun _ iv _ => d - (intOf iv).toNat)
  case atStart => exact ⟨k, a, n, cap, p, Nat.le_refl _, hk, rfl, rfl, hp, Sifted.start hpm.o.1 hpm.o.2, Below.refl _ _⟩
  case round =>
    obtain ⟨i, a, n, cap, q, hki, hi, rfl, rfl, hq, hS, hb⟩ := hrel
    have hCr := hC.up hb
    have hc0 := hCr.c0
    by_cases hlt : i < d
    · have hc2 := hCr.c2
      have htt := (hCr.tt i hlt).1
      have hnd : n = d := by rw [← hq.length]; exact hS.o.1.2
      obtain ⟨bq, offq, y, rfl, hbq, hcq, hyq, hy1, hy2⟩ := hq.at (k := i) (by omega)
      have hyr : 0 ≤ y ∧ y < d := by have := hS.o.1.rng (x := (i : Int)) (by omega) (by omega); rw [show at0 q i = y from at0_of (by simpa using hyq.o)] at this; exact this
      obtain ⟨hy0, hyd⟩ := hyr
      have hye := Hd.i (show at0 q i = y from at0_of (by simpa using hyq.o))
      obtain ⟨ra, rn, rc, hcr, hfr, hrno, hrso⟩ := hCr.rep hlt (y := y.toNat) (by omega)
      have hin : i < n := by omega
      replace hnd := Hd.i hnd
      cases hRy : R i y.toNat with
      | none =>
        have e := hrno.o hRy
        simp only [Prod.mk.injEq] at e
        obtain ⟨rfl, rfl, rfl⟩ := e
        have hno : Hd (SiftOut d R k p i) := ⟨fun e => by omega, fun h => absurd h (hS.o.none hlt (by rw [hye.o]; exact hRy))⟩
        replace hRy := Hd.i hRy
        clear hrno hrso
        go_wp2
        go_quiet (fail)
        go_wp2
        exact H'.o _ _ _ _ _ hi hno (((Drew.refl _).step nq).up hb)
      | some t =>
        obtain ⟨e1, e2, e3⟩ := hrso.o t hRy
        have hS2 := Hd.i (hS.o.some hR.o hki hlt (by rw [hye.o]; exact hRy))
        have htp := Hd.i (hR.o i hki hlt _ t hRy).1
        have hrn0 : rn = d := by rw [← e2.1.length]; exact htp.o.2
        have hrn1 : ((rn : Int) == 0) = false := by simp; omega
        have hrl := e2.1.le
        replace hrn0 := Hd.i hrn0
        replace hRy := Hd.i hRy
        have hdr := Drew.refl wr
        clear hrno hrso e1
        go_wp2
        go_quiet (fail)
        replace hdr := hdr.step nq
        have hq' := hdr.ints hq
        have ht' := hdr.ints e2.1
        have hb' := hdr.up hb
        clear hdr hcq hcr hfr hq hb e2 hCr hc0 hc2 htt
        generalize wr.drewN nq = wq at *
        go_wp2_with fail
        refine specInverse_c _ _ _ t _ ht' htp.o.1 ?_
        intro a2 n2 c2 w2 hb2 ho2
        have hrn : Hd (∀ x ∈ q, 0 ≤ x ∧ x < n2) := by
          have h1 := hS.o.1.1.range
          rw [hS.o.1.2] at h1
          have h2 := ho2.length
          rw [inv_length, htp.o.2] at h2
          rw [← h2]; exact h1
        have hn20 : n ≤ 1000000 := by have := hnd.o; omega
        go_wp2_with fail
        refine specCompose_c _ _ _ q _ _ _ (inv t) _ (hq'.up hb2) ho2.ints hn20 hrn ?_
        intro a3 n3 c3 w3 hb3 ho3
        go_wp2
        exact ⟨⟨i + 1, a3, n3, c3, comp q (inv t), by omega, by omega, by go_num, rfl, ho3.ints, hS2.o, below_ups hb' (below_ups hb2 hb3 hb2.size) hb'.size⟩, by simp [intOf]; omega⟩
    · obtain rfl : i = d := by omega
      have hyes : Hd (SiftOut i R k p i) := ⟨fun _ => hS.o.2.2.2 (sf_end i R q), fun _ => rfl⟩
      go_wp2
      go_quiet (fail)
      go_wp2
      exact H'.o _ _ _ _ _ hi hyes (((Drew.refl _).step nq).up hb)
end Go.Proofs.Ytpijnjhheikmcaa
