/- emptyChain, buildChain; what a chain that stands is good for. -/
import Derived.Test.YtpijnjhheikmcaaChainMake
namespace Go.Proofs.Ytpijnjhheikmcaa
open Go.RowKit

/-- An empty row of generators joins the chain that is being made: what one round has laid. -/
theorem Pc.gen {w w5 : World} {r : Role} {B d og ot cp i gn gcap tcap : Nat} {ga ta : Option Addr} {rb : Nat → Nat} {gh : Nat → Hdr} (h : Pc w r B d og ot cp i gn ga gcap ta tcap rb gh) (hot : og ≠ ot) (h0 : og ≠ 0 ∧ ot ≠ 0) (hi : i ≤ 20) (hgn : gn < 20)
    (hg : Grew ga (w.alloc (.cells #[] 23)) w5) {a2 : Option Addr} {n2 c2 j : Nat} (ho : Own w5 B 22 a2 n2 c2 (((List.range gn).map fun j => hvv (gh j)) ++ [.slice (some ⟨w.heap.size, 0, none⟩) 0 0])) (ha : a2 = ga ∨ a2 = some ⟨(w.alloc (.cells #[] 23)).heap.size + j, 0, none⟩) :
    ∃ r' gh', Pc (w5.setCell ⟨cp, og, none⟩ (.slice a2 n2 c2)) r' B d og ot cp i (gn + 1) a2 c2 ta tcap rb gh' ∧ Below B w (w5.setCell ⟨cp, og, none⟩ (.slice a2 n2 c2)) ∧ (∀ b, b < w.heap.size → r' b = r b) ∧ Stand r w (w5.setCell ⟨cp, og, none⟩ (.slice a2 n2 c2)) := by
  have hbs : Below w.heap.size w (w.alloc (.cells #[] 23)) := (Below.refl _ w).alloc (Nat.le_refl _) _
  have hl1 : w.heap.size < (w.alloc (.cells #[] 23)).heap.size := by simp
  have hP := h.side (r' := roleS r w.heap.size (3 + 2 * gn)) hbs (fun b hb => by unfold roleS; rw [if_neg (by omega)]) (fun b hn => by
    by_cases e : b = w.heap.size
    · subst e; exact ⟨h.hB, hl1⟩
    · unfold roleS at hn
      rw [if_neg e] at hn
      exact ⟨(h.lo b hn).1, Nat.lt_of_lt_of_le (h.lo b hn).2 hbs.size⟩)
  have hrb : ∀ b, b < w.heap.size → roleS r w.heap.size (3 + 2 * gn) b = r b := fun b hb => by unfold roleS; rw [if_neg (by omega)]
  obtain ⟨g2, hP2, hb6, hr6, hs6⟩ := hP.addGen hot h0 (b1 := w.heap.size) ((Own.lit w [] _ (by simp) h.hB)) (by simp [roleS]) hi hgn hg ho ha
  exact ⟨_, _, hP2, (hbs.mono h.hB).trans hb6, fun b hb => (hr6 b (Nat.lt_of_lt_of_le hb hbs.size)).trans (hrb b hb), fun b hb h2 => (hs6 b (Nat.lt_of_lt_of_le hb hbs.size) (by rw [hrb b hb]; exact h2)).trans (hbs.block b hb)⟩

set_option maxHeartbeats 4000000 in
theorem specEmpty_c {K : Ending → World → Prop} (d : Nat) (w : World) (hd1 : 1 ≤ d) (hd20 : d ≤ 20)
    (H : ∀ w' r cp gb tb gc tc rb gh, Below w.heap.size w w' → Ch w' r w.heap.size d 2 1 cp gb tb gc tc rb gh (R0 d) (fun _ => []) → K (.returned (.pointer (some ⟨cp, 0, none⟩))) w') :
    Calls Try.prog 71 #[.int .i64 d] w K := by
  have H' := Hd.i H; clear H
  go_enter Try.func71, Try.ntmps71
  obtain ⟨r0, hP0⟩ := pc_start (w1 := w) (B := w.heap.size) (d := d) (og := 2) (ot := 1) (ga := none) (gn := 0) (gcap := 0) #[.int .i64 d, .slice none 0 0, .slice none 0 0] 70 (Nat.le_refl _) rfl rfl rfl (Own.nil _ _ _)
  have hbA := (Below.refl w.heap.size w).alloc (Nat.le_refl _) (.cells #[.int .i64 d, .slice none 0 0, .slice none 0 0] 70)
  obtain ⟨B, hB⟩ : ∃ B, w.heap.size = B := ⟨_, rfl⟩
  go_wp2
  rw [hB] at hP0 hbA H'
  replace hB := Hd.i hB
  go_loopw [4] (fun iv wr => ∃ (i : Nat) (r : Role) (ga ta : Option Addr) (gcap tcap : Nat) (rb : Nat → Nat) (gh : Nat → Hdr), i ≤ d ∧ iv = .int .i64 i ∧ Pc wr r B d 2 1 B i i ga gcap ta tcap rb gh ∧ Below B w wr) (fun iv _ => d - (intOf iv).toNat)
  case atStart => exact ⟨0, r0, none, none, 0, 0, _, _, Nat.zero_le _, rfl, hP0, hbA⟩
  case round =>
    clear hP0 hbA
    obtain ⟨i, r, ga, ta, gcap, tcap, rb, gh, hi, rfl, hP, hb⟩ := hrel
    by_cases hlt : i < d
    · obtain ⟨w2, hmk2, hs2, hb2, ho2⟩ := make_own wr 22 23 (.slice none 0 0) 24 Try.underlying22 infoSl rfl d (by omega) (by omega)
      obtain ⟨wo, rfl⟩ : ∃ wo, wo = wr := ⟨wr, rfl⟩
      have hlt2 : wo.heap.size < w2.heap.size := by have := hs2.o; omega
      go_wp2_with fail
      refine specIdentity_c d _ (by omega) ?_
      intro a4 n4 c4 w4 hb4 ho4
      obtain ⟨v4, hc4, hf4, _⟩ := (ho2.up hb4).at' hlt
      have hP4 := hP.up ((below_on hb2 hb4).setCell (p := ⟨wo.heap.size, i, none⟩) (Nat.le_refl _) (.slice a4 n4 c4))
      have hc1 := hP4.c1
      have hf1 := hP4.f1
      have hc2 := hP4.c2
      have hf2 := hP4.f2
      have hown := hP4.tt
      have hcpl := Hd.i (hP4.lo B (by rw [hP4.rc]; omega))
      have hrcp := Hd.i hP4.rc
      have hrt := Hd.i hP4.rt
      have hil : i ≤ 20 := by omega
      have k1 : (i + 1) * 24 ≤ 140737488355328 := by omega
      have k2 : i + 1 ≤ 281474976710656 := by omega
      have hB4 := hP4.hB
      have hsz4 := Hd.i (size_store w4 ⟨wo.heap.size, i, none⟩ (.slice a4 n4 c4))
      clear hs2 hmk2
      go_wp2_with first
        | (at_builtin; refine appendG_c rfl _ _ _ rfl B 22 (.slice none 0 0) 24 Try.underlying52 infoSS rfl _ _ _ _ rfl hown [.slice (some ⟨wo.heap.size, 0, none⟩) d d] 1 _ rfl hsz4.o.symm rfl oneSlice k1 k2 hB4 ?_; intro a5 n5 c5 w5 hn5 ho5 hg5 ha5; have hq1 := hg5.cell_far hc1 (fun e => (by have := hrt.o B e; have := hrcp.o; omega)); have hqf1 := (hg5.frozen_far (p := ⟨B, 2, none⟩) hcpl.o.2 (fun e => (by have := hrt.o B e; have := hrcp.o; omega))).trans hf1; have hq2 := hg5.cell_far hc2 (fun e => (by have := hrt.o B e; have := hrcp.o; omega)); have hqf2 := (hg5.frozen_far (p := ⟨B, 1, none⟩) hcpl.o.2 (fun e => (by have := hrt.o B e; have := hrcp.o; omega))).trans hf2; obtain ⟨r5, rb5, hP5, hb5, _, _⟩ := hP.row (by omega) (by omega) (by omega) (by omega) (by omega) hb2 (Nat.le_refl _) ho2 hb4 ho4 hg5 (j := 1) ho5 (by rw [hsz4.o]; exact ha5.o); have hbE := (Below.refl _ (w5.setCell ⟨B, 1, none⟩ (.slice a5 n5 c5))).alloc (Nat.le_refl _) (.cells #[] 23); have hG5 := Hd.i (show w5.heap.size + 1 = ((w5.setCell ⟨B, 1, none⟩ (.slice a5 n5 c5)).alloc (.cells #[] 23)).heap.size by simp); have hown5 := hP5.gg.up hbE; have hcE := (hbE.cell (p := ⟨B, 2, none⟩) (hP5.lo B (by rw [hP5.rc]; omega)).2).trans hP5.c1; have hfE := (hbE.frozen (p := ⟨B, 2, none⟩) (hP5.lo B (by rw [hP5.rc]; omega)).2).trans hP5.f1; have hcplE := Hd.i (Nat.lt_of_lt_of_le (hP5.lo B (by rw [hP5.rc]; omega)).2 hbE.size); have hrcp5 := Hd.i hP5.rc; have hrg5 := Hd.i hP5.rg; have hB5 := Nat.le_trans hP5.hB hbE.size)
        | (at_builtin; refine appendG_c rfl _ _ _ rfl B 22 (.slice none 0 0) 24 Try.underlying52 infoSS rfl _ _ _ _ rfl hown5 [.slice (some ⟨w5.heap.size, 0, none⟩) 0 0] 1 _ rfl hG5.o rfl oneSlice k1 k2 hB5 ?_; intro a6 n6 c6 w6 hn6 ho6 hg6 ha6; have hr1 := hg6.cell_far hcE (fun e => (by have := hrg5.o B e; have := hrcp5.o; omega)); have hrf1 := (hg6.frozen_far (p := ⟨B, 2, none⟩) hcplE.o (fun e => (by have := hrg5.o B e; have := hrcp5.o; omega))).trans hfE)
      obtain ⟨r6, gh6, hP6, hb6, _, _⟩ := hP5.gen (by omega) (by omega) (by omega) (by omega) hg6 (j := 1) (by rw [size_store]; exact ho6) (by rw [← hG5.o]; exact ha6.o)
      exact ⟨⟨i + 1, r6, a6, a5, c6, c5, rb5, gh6, by omega, by go_num, hP6, (hb.trans hb5).trans hb6⟩, by simp [intOf]; omega⟩
    · obtain rfl : i = d := by omega
      obtain ⟨gb, tb, hC, _⟩ := hP.finish hd1 hd20
      go_wp2
      exact H'.o _ _ _ _ _ _ _ _ _ hb hC

/-- A chain that stands: the program's, the reference's. -/
def CI (w : World) (cp d : Nat) (xss : List (List Int)) : Prop := ∃ r B gb tb gc tc rb gh R G, Ch w r B d 1 2 cp gb tb gc tc rb gh R G ∧ Hd (Built d xss R G)
def CS (w : World) (cp d : Nat) (xss : List (List Int)) : Prop := ∃ r B gb tb gc tc rb gh R G, Ch w r B d 2 1 cp gb tb gc tc rb gh R G ∧ Hd (Built d xss R G)
theorem CI.up {w w' : World} {cp d : Nat} {xss : List (List Int)} (h : CI w cp d xss) (hb : Below w.heap.size w w') : CI w' cp d xss := by
  obtain ⟨r, B, gb, tb, gc, tc, rb, gh, R, G, h1, h2⟩ := h
  exact ⟨r, B, gb, tb, gc, tc, rb, gh, R, G, h1.up hb, h2⟩
theorem CS.up {w w' : World} {cp d : Nat} {xss : List (List Int)} (h : CS w cp d xss) (hb : Below w.heap.size w w') : CS w' cp d xss := by
  obtain ⟨r, B, gb, tb, gc, tc, rb, gh, R, G, h1, h2⟩ := h
  exact ⟨r, B, gb, tb, gc, tc, rb, gh, R, G, h1.up hb, h2⟩

theorem implChain_c {K : Ending → World → Prop} (d : Nat) (a : Option Addr) (n cap : Nat) (xss : List (List Int)) (w : World) (hm : Mat w a n xss) (hg : Hd (GenSet (d : Int) xss))
    (H : ∀ w' cp, Below w.heap.size w w' → CI w' cp d xss → K (.returned (.pointer (some ⟨cp, 0, none⟩))) w') :
    Calls Try.prog 55 #[.int .i64 d, .slice a n cap] w K :=
  implNew_c d a n cap xss w hm hg fun w' r cp gb tb gc tc rb gh R G hb hC hB => H w' cp hb ⟨r, w.heap.size, gb, tb, gc, tc, rb, gh, R, G, hC, hB⟩

set_option maxHeartbeats 4000000 in
theorem specBuild_c {K : Ending → World → Prop} (d : Nat) (a : Option Addr) (n cap : Nat) (xss : List (List Int)) (w : World) (hm : Mat w a n xss) (hg : Hd (GenSet (d : Int) xss))
    (H : ∀ w' cp, Below w.heap.size w w' → CS w' cp d xss → K (.returned (.pointer (some ⟨cp, 0, none⟩))) w') :
    Calls Try.prog 51 #[.int .i64 d, .slice a n cap] w K := by
  have H' := Hd.i H; clear H
  have hd1 : 1 ≤ d := by have := hg.o.1; omega
  have hd20 : d ≤ 20 := by have := hg.o.2.1; omega
  have hln := Hd.i hm.length
  have hn8 : n ≤ 8 := by have := hg.o.2.2.1; have := hln.o; omega
  have hle := hm.le
  go_enter Try.func51, Try.ntmps51
  go_wp2_with fail
  refine specEmpty_c d w hd1 hd20 ?_
  intro w1 r1 cp gb tb gc tc rb gh1 hb1 hC1
  have hBu := Hd.i (show Built d (xss.take 0) (R0 d) (fun _ => []) from built_zero hd1 hd20)
  go_wp2
  go_loopw [6] (fun iv wr => ∃ (j : Nat) (r : Role) (gh : Nat → Hdr) (R : Tr) (G : Nat → List (List Int)), j ≤ n ∧ iv = .int .i64 j ∧ Ch wr r w.heap.size d 2 1 cp gb tb gc tc rb gh R G ∧ Hd (Built d (xss.take j) R G) ∧ Below w.heap.size w wr) (fun iv _ => n - (intOf iv).toNat)
  case atStart => exact ⟨0, _, _, _, _, Nat.zero_le _, rfl, hC1, hBu, hb1⟩
  case round =>
    clear hC1 hBu hb1
    obtain ⟨j, r, gh, R, G, hj, rfl, hC, hBu, hb⟩ := hrel
    by_cases hlt : j < n
    · obtain ⟨b, off, a3, n3, c3, p, rfl, hbb, hcell, hp, hpI, hpc⟩ := (hm.up hb).at hlt
      have hpg := gs_of hg.o p (List.mem_of_getElem? hp.o)
      have hgs := Hd.i ((gs_of hg.o).take j)
      have hn3 : n3 ≤ 1000000 := by have := hpI.length; have := hpg.2; omega
      replace hpg := Hd.i hpg
      go_wp2_with (go_at_call 84; refine copyInts_c _ _ _ p _ hpI hn3 ?_; intro g m c w5 hb5 ho5; have hC5 := hC.up hb5; have hI5 : IntsD (RZ r) w5 (some ⟨g, 0, none⟩) m p := .of_own ho5 fun b hb => hC.new hb)
      refine specGen_c d w.heap.size cp gb tb gc tc rb 0 (Nat.zero_le _) _ r gh R G _ m c p _ hC5 hBu.o.1 hI5 ho5.cap ⟨hpg.o, fx_zero p⟩ ?_
      intro w9 r9 gh9 R9 G9 hE9 hC9 _ hpost9
      have hBu9 : Hd (Built d (xss.take (j + 1)) R9 G9) := by
        have := hBu.o.step hd1 hd20 hgs.o hpg.o hpost9.o
        rw [take_succ_some hp.o]
        exact this
      go_wp2
      exact ⟨⟨j + 1, r9, gh9, R9, G9, by omega, by go_num, hC9, hBu9, (hb.trans (hb5.mono hC.hB)).trans hE9.below⟩, by simp [intOf]; omega⟩
    · obtain rfl : j = n := by omega
      rw [List.take_of_length_le (by have := hln.o; omega)] at hBu
      go_wp2
      exact H'.o _ _ hb ⟨_, _, _, _, _, _, _, _, _, _, hC, hBu⟩
end Go.Proofs.Ytpijnjhheikmcaa
