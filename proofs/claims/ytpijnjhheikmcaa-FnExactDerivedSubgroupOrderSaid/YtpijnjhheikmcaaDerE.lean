/- emptyChain of the reference beside a list whose outer row will turn. -/
import Derived.Test.YtpijnjhheikmcaaDerL
namespace Go.Proofs.Ytpijnjhheikmcaa
open Go.RowKit

open Classical in
/-- The roles of the blocks of old: those of the list, the others. -/
noncomputable def fr (F : Nat → Prop) : Role := fun b => if F b then 200 else 0
open Classical in
theorem pc_start2 {w1 : World} {B d og ot : Nat} (F : Nat → Prop) (cs : Array Value) (T : TypeId) (hB : B ≤ w1.heap.size) (hF : ∀ b, F b → B ≤ b ∧ b < w1.heap.size) (h0 : cs[0]? = some (.int .i64 d)) (hog : cs[og]? = some (.slice none 0 0)) (hot : cs[ot]? = some (.slice none 0 0)) :
    ∃ r, Pc (w1.alloc (.cells cs T)) r B d og ot w1.heap.size 0 0 none 0 none 0 (fun _ => 0) (fun _ => (none, 0, 0)) ∧ ∀ b, b < w1.heap.size → r b = fr F b := by
  have hcell : ∀ o v, cs[o]? = some v → (w1.alloc (.cells cs T)).cell? ⟨w1.heap.size, o, none⟩ = some v := fun o v h => by rw [World.cell?_alloc_at _ _ _ _ rfl]; exact h
  have hfr : ∀ o, (w1.alloc (.cells cs T)).frozen? ⟨w1.heap.size, o, none⟩ = false := fun o => by rw [World.frozen?_alloc_at _ _ _ _ rfl]
  refine ⟨fun b => if b = w1.heap.size then 101 else fr F b, ⟨hcell _ _ h0, hcell _ _ hog, hcell _ _ hot, hfr _, hfr _, by simp, fun b ⟨off, s, e⟩ => (by cases e), fun b ⟨off, s, e⟩ => (by cases e), by simpa using Own.nil _ _ _, Own.nil _ _ _, fun j hj => by omega, fun j hj => by omega, fun j hj => by omega, fun b hn => ?_⟩, fun b hb => ?_⟩
  · by_cases e : b = w1.heap.size
    · subst e; exact ⟨hB, by simp⟩
    · by_cases hf : F b
      · have := hF b hf; exact ⟨this.1, by simp; omega⟩
      · simp [e, fr, hf] at hn
  · show (if b = w1.heap.size then 101 else fr F b) = fr F b
    rw [if_neg (by omega)]
theorem fr_or (F : Nat → Prop) (b : Nat) : fr F b = 0 ∨ 200 ≤ fr F b := by
  unfold fr
  split
  · exact .inr (Nat.le_refl _)
  · exact .inl rfl
/-- Below C all stands, and the roles below C are those of F. -/
structure Ol (F : Nat → Prop) (C : Nat) (r : Role) (w w' : World) : Prop where
  below : Below C w w'
  role : ∀ b, b < C → r b = fr F b
theorem Ol.next {F : Nat → Prop} {C B : Nat} {r r' : Role} {w w1 w2 : World} (h : Ol F C r w w1) (hC : C ≤ w1.heap.size) (hb : Below B w1 w2) (hr : ∀ b, b < w1.heap.size → r' b = r b) (hs : Stand r w1 w2) : Ol F C r' w w2 :=
  ⟨⟨hb.os.trans h.below.os, hb.tape.trans h.below.tape, hb.output.trans h.below.output, Nat.le_trans h.below.size hb.size, fun b hl => (hs b (by omega) (by rw [h.role b hl]; exact fr_or F b)).trans (h.below.block b hl)⟩, fun b hl => (hr b (by omega)).trans (h.role b hl)⟩

set_option maxHeartbeats 4000000 in
theorem specEmpty2_c {K : Ending → World → Prop} (F : Nat → Prop) (B d : Nat) (w : World) (hd1 : 1 ≤ d) (hd20 : d ≤ 20) (hBw : B ≤ w.heap.size) (hF : ∀ b, F b → B ≤ b ∧ b < w.heap.size)
    (H : ∀ w' r cp gb tb gc tc rb gh, Below w.heap.size w w' → Ch w' r B d 2 1 cp gb tb gc tc rb gh (R0 d) (fun _ => []) → Hd (∀ b, b < w.heap.size → r b = fr F b) → K (.returned (.pointer (some ⟨cp, 0, none⟩))) w') :
    Calls Try.prog 71 #[.int .i64 d] w K := by
  have H' := Hd.i H; clear H
  go_enter Try.func71, Try.ntmps71
  obtain ⟨r0, hP0, hr0⟩ := pc_start2 (w1 := w) (B := B) (d := d) (og := 2) (ot := 1) F #[.int .i64 d, .slice none 0 0, .slice none 0 0] 70 hBw hF rfl rfl rfl
  have hbA : Ol F w.heap.size r0 w (w.alloc (.cells #[.int .i64 d, .slice none 0 0, .slice none 0 0] 70)) := ⟨(Below.refl w.heap.size w).alloc (Nat.le_refl _) _, hr0⟩
  obtain ⟨C, hC⟩ : ∃ C, w.heap.size = C := ⟨_, rfl⟩
  go_wp2
  rw [hC] at hP0 hbA H' hBw
  clear hr0 hF
  replace hC := Hd.i hC
  go_loopw [4] (fun iv wr => ∃ (i : Nat) (r : Role) (ga ta : Option Addr) (gcap tcap : Nat) (rb : Nat → Nat) (gh : Nat → Hdr), i ≤ d ∧ iv = .int .i64 i ∧ Pc wr r B d 2 1 C i i ga gcap ta tcap rb gh ∧ Ol F C r w wr) (fun iv _ => d - (intOf iv).toNat)
  case atStart => exact ⟨0, r0, none, none, 0, 0, _, _, Nat.zero_le _, rfl, hP0, hbA⟩
  case round =>
    clear hP0 hbA
    obtain ⟨i, r, ga, ta, gcap, tcap, rb, gh, hi, rfl, hP, hb⟩ := hrel
    by_cases hlt : i < d
    · obtain ⟨w2, hmk2, hs2, hb2, ho2⟩ := make_own wr 22 23 (.slice none 0 0) 24 Try.underlying22 infoSl rfl d (by omega) (by omega)
      obtain ⟨wo, rfl⟩ : ∃ wo, wo = wr := ⟨wr, rfl⟩
      have hlt2 : wo.heap.size < w2.heap.size := by have := hs2.o; omega
      have hCw : C ≤ wo.heap.size := by have := hb.below.size; rw [hC.o] at this; exact this
      go_wp2_with fail
      refine specIdentity_c d _ (by omega) ?_
      intro a4 n4 c4 w4 hb4 ho4
      obtain ⟨v4, hc4, hf4, _⟩ := (ho2.up hb4).at' hlt
      have hP4 := hP.up ((below_on hb2 hb4).setCell (p := ⟨wo.heap.size, i, none⟩) (Nat.le_refl _) (.slice a4 n4 c4))
      have hc1 := hP4.c1
      have hf1 := hP4.f1
      have hc2 := hP4.c2
      have hf2 := hP4.f2
      have hown := hP4.tt
      have hcpl := Hd.i (hP4.lo C (by rw [hP4.rc]; omega))
      have hrcp := Hd.i hP4.rc
      have hrt := Hd.i hP4.rt
      have hil : i ≤ 20 := by omega
      have k1 : (i + 1) * 24 ≤ 140737488355328 := by omega
      have k2 : i + 1 ≤ 281474976710656 := by omega
      have hB4 := hP4.hB
      have hsz4 := Hd.i (size_store w4 ⟨wo.heap.size, i, none⟩ (.slice a4 n4 c4))
      clear hs2 hmk2
      go_wp2_with first
        | (at_builtin; refine appendG_c rfl _ _ _ rfl B 22 (.slice none 0 0) 24 Try.underlying52 infoSS rfl _ _ _ _ rfl hown [.slice (some ⟨wo.heap.size, 0, none⟩) d d] 1 _ rfl hsz4.o.symm rfl oneSlice k1 k2 hB4 ?_; intro a5 n5 c5 w5 hn5 ho5 hg5 ha5; have hq1 := hg5.cell_far hc1 (fun e => (by have := hrt.o C e; have := hrcp.o; omega)); have hqf1 := (hg5.frozen_far (p := ⟨C, 2, none⟩) hcpl.o.2 (fun e => (by have := hrt.o C e; have := hrcp.o; omega))).trans hf1; have hq2 := hg5.cell_far hc2 (fun e => (by have := hrt.o C e; have := hrcp.o; omega)); have hqf2 := (hg5.frozen_far (p := ⟨C, 1, none⟩) hcpl.o.2 (fun e => (by have := hrt.o C e; have := hrcp.o; omega))).trans hf2; obtain ⟨r5, rb5, hP5, hb5, hr5, hs5⟩ := hP.row (by omega) (by omega) (by omega) (by omega) (by omega) hb2 (Nat.le_refl _) ho2 hb4 ho4 hg5 (j := 1) ho5 (by rw [hsz4.o]; exact ha5.o); have hbE := (Below.refl _ (w5.setCell ⟨C, 1, none⟩ (.slice a5 n5 c5))).alloc (Nat.le_refl _) (.cells #[] 23); have hG5 := Hd.i (show w5.heap.size + 1 = ((w5.setCell ⟨C, 1, none⟩ (.slice a5 n5 c5)).alloc (.cells #[] 23)).heap.size by simp); have hown5 := hP5.gg.up hbE; have hcE := (hbE.cell (p := ⟨C, 2, none⟩) (hP5.lo C (by rw [hP5.rc]; omega)).2).trans hP5.c1; have hfE := (hbE.frozen (p := ⟨C, 2, none⟩) (hP5.lo C (by rw [hP5.rc]; omega)).2).trans hP5.f1; have hcplE := Hd.i (Nat.lt_of_lt_of_le (hP5.lo C (by rw [hP5.rc]; omega)).2 hbE.size); have hrcp5 := Hd.i hP5.rc; have hrg5 := Hd.i hP5.rg; have hB5 := Nat.le_trans hP5.hB hbE.size)
        | (at_builtin; refine appendG_c rfl _ _ _ rfl B 22 (.slice none 0 0) 24 Try.underlying52 infoSS rfl _ _ _ _ rfl hown5 [.slice (some ⟨w5.heap.size, 0, none⟩) 0 0] 1 _ rfl hG5.o rfl oneSlice k1 k2 hB5 ?_; intro a6 n6 c6 w6 hn6 ho6 hg6 ha6; have hr1 := hg6.cell_far hcE (fun e => (by have := hrg5.o C e; have := hrcp5.o; omega)); have hrf1 := (hg6.frozen_far (p := ⟨C, 2, none⟩) hcplE.o (fun e => (by have := hrg5.o C e; have := hrcp5.o; omega))).trans hfE)
      obtain ⟨r6, gh6, hP6, hb6, hr6, hs6⟩ := hP5.gen (by omega) (by omega) (by omega) (by omega) hg6 (j := 1) (by rw [size_store]; exact ho6) (by rw [← hG5.o]; exact ha6.o)
      exact ⟨⟨i + 1, r6, a6, a5, c6, c5, rb5, gh6, by omega, by go_num, hP6, (hb.next hCw hb5 hr5 hs5).next (Nat.le_trans hCw hb5.size) hb6 hr6 hs6⟩, by simp [intOf]; omega⟩
    · obtain rfl : i = d := by omega
      obtain ⟨gb, tb, hCh, hrr⟩ := hP.finish hd1 hd20
      go_wp2
      exact H'.o _ _ _ _ _ _ _ _ _ hb.below hCh (fun b hl => by have := fr_or F b; rw [hrr b (by rw [hb.role b hl]; omega), hb.role b hl])

end Go.Proofs.Ytpijnjhheikmcaa
