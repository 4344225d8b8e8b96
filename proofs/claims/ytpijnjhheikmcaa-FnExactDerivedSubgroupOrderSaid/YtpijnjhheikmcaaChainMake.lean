/- newChain, buildChain. -/
import Derived.Test.YtpijnjhheikmcaaChainNew
import Derived.Test.YtpijnjhheikmcaaChainAdd
import Derived.Test.YtpijnjhheikmcaaChainGen
import Derived.Test.YtpijnjhheikmcaaGen
import Derived.Test.YtpijnjhheikmcaaOrbitS
namespace Go.Proofs.Ytpijnjhheikmcaa
open Go.RowKit

theorem gs_of {d : Nat} {xss : List (List Int)} (h : GenSet (d : Int) xss) : Gs d xss := fun p hp => by
  have := h.perm hp
  exact ⟨this.1, by omega⟩
theorem Gs.take {d : Nat} {xss : List (List Int)} (h : Gs d xss) (k : Nat) : Gs d (xss.take k) := fun g hg => h g (List.mem_of_mem_take hg)
theorem rowAt_new {w : World} {r : Role} {B d b i : Nat} {a : Option Addr} {n c : Nat} (ho : Own w B 23 (some ⟨b, 0, none⟩) d d ((List.replicate d (.slice none 0 0)).set i (.slice a n c))) (ha : a ≠ none) (hI : IntsD (RZ r) w a n (idl d)) (hc : n ≤ c) : RowAt w r B d b (R0 d i) := by
  refine ⟨fun y => if y = i then (a, n, c) else (none, 0, 0), ?_, fun y hy => ?_⟩
  · have e : (List.replicate d (Value.slice none 0 0)).set i (.slice a n c) = (List.range d).map fun y => hvv (if y = i then (a, n, c) else (none, 0, 0)) := by
      apply List.ext_getElem?
      intro j
      rw [List.getElem?_set]
      by_cases hj : j < d
      · by_cases e : i = j
        · subst e; simp [hj, hvv]
        · have e' : ¬ j = i := fun h => e h.symm
          simp [hj, e, e', hvv]
      · rw [List.getElem?_eq_none (by simp; omega), List.getElem?_eq_none (by simp; omega)]
        split
        · rw [if_neg (by simp; omega)]
        · rfl
    rw [e] at ho
    exact ho
  · unfold R0
    by_cases e : y = i
    · simp only [if_pos e]
      exact ⟨fun h => (by cases h), fun t h => (by cases h; exact ⟨ha, hI, hc⟩)⟩
    · simp only [if_neg e]
      exact ⟨fun _ => trivial, fun t h => (by cases h)⟩

open Classical in
theorem pc_start {w1 : World} {B d og ot gn gcap : Nat} {ga : Option Addr} (cs : Array Value) (T : TypeId) (hB : B ≤ w1.heap.size) (h0 : cs[0]? = some (.int .i64 d)) (hog : cs[og]? = some (.slice ga gn gcap)) (hot : cs[ot]? = some (.slice none 0 0))
    (hgg : Own w1 B 22 ga gn gcap (List.replicate gn (.slice none 0 0))) : ∃ r, Pc (w1.alloc (.cells cs T)) r B d og ot w1.heap.size 0 gn ga gcap none 0 (fun _ => 0) (fun _ => (none, 0, 0)) := by
  have hga : ∀ b, fpI ga b → B ≤ b ∧ b < w1.heap.size := fun b ⟨off, s, e⟩ => hgg.lt e
  have hr : ∀ b, fpI ga b → b ≠ w1.heap.size := fun b e => by have := (hga b e).2; omega
  have hcell : ∀ o v, cs[o]? = some v → (w1.alloc (.cells cs T)).cell? ⟨w1.heap.size, o, none⟩ = some v := fun o v h => by rw [World.cell?_alloc_at _ _ _ _ rfl]; exact h
  have hfr : ∀ o, (w1.alloc (.cells cs T)).frozen? ⟨w1.heap.size, o, none⟩ = false := fun o => by rw [World.frozen?_alloc_at _ _ _ _ rfl]
  refine ⟨fun b => if b = w1.heap.size then 101 else if fpI ga b then 102 else 0, hcell _ _ h0, hcell _ _ hog, hcell _ _ hot, hfr _, hfr _, by simp, fun b e => by simp [hr b e, e], fun b ⟨off, s, e⟩ => (by cases e), ?_, Own.nil _ _ _, fun j hj => by omega, fun j hj => by omega, fun j _ => ⟨[], Own.nil _ _ _, rfl, fun b ⟨off, s, e⟩ => (by cases e), by simp⟩, fun b hn => ?_⟩
  · have e : (List.range gn).map (fun _ => hvv (none, 0, 0)) = List.replicate gn (.slice none 0 0) := by
      apply List.ext_getElem
      · simp
      · intro k h1 h2; simp [hvv]
    rw [e]
    exact hgg.up ((Below.refl _ _).alloc (Nat.le_refl _) _)
  · by_cases e : b = w1.heap.size
    · subst e; exact ⟨hB, by simp⟩
    · by_cases e2 : fpI ga b
      · have := hga b e2; exact ⟨this.1, by simp; omega⟩
      · simp [e, e2] at hn

/-- A new row joins the chain that is being made: what one round has laid. -/
theorem Pc.row {w w2 w4 w5 : World} {r : Role} {B d og ot cp i gn gcap tcap : Nat} {ga ta : Option Addr} {rb : Nat → Nat} {gh : Nat → Hdr} (h : Pc w r B d og ot cp i gn ga gcap ta tcap rb gh) (hot : og ≠ ot) (h0 : og ≠ 0 ∧ ot ≠ 0) (hi : i < 20) (hgn : gn ≤ 20) (hd : 1 ≤ d)
    (hb2 : Below w.heap.size w w2) {b1 : Nat} (hb1 : w.heap.size ≤ b1) (ho1 : Own w2 w.heap.size 23 (some ⟨b1, 0, none⟩) d d (List.replicate d (.slice none 0 0))) (hb4 : Below w2.heap.size w2 w4) {a : Option Addr} {n c : Nat} (hI : OwnI w4 w2.heap.size a n c (idl d))
    (hg : Grew ta (w4.setCell ⟨b1, i, none⟩ (.slice a n c)) w5) {a2 : Option Addr} {n2 c2 j : Nat} (ho : Own w5 B 22 a2 n2 c2 (((List.range i).map fun j => .slice (some ⟨rb j, 0, none⟩) d d) ++ [.slice (some ⟨b1, 0, none⟩) d d])) (ha : a2 = ta ∨ a2 = some ⟨(w4.setCell ⟨b1, i, none⟩ (.slice a n c)).heap.size + j, 0, none⟩) :
    ∃ r' rb', Pc (w5.setCell ⟨cp, ot, none⟩ (.slice a2 n2 c2)) r' B d og ot cp (i + 1) gn ga gcap a2 c2 rb' gh ∧ Below B w (w5.setCell ⟨cp, ot, none⟩ (.slice a2 n2 c2)) ∧ (∀ b, b < w.heap.size → r' b = r b) ∧ Stand r w (w5.setCell ⟨cp, ot, none⟩ (.slice a2 n2 c2)) := by
  have hb24 := below_on hb2 hb4
  have hb1l := (ho1.lt rfl).2
  have hbs : Below w.heap.size w (w4.setCell ⟨b1, i, none⟩ (.slice a n c)) := hb24.setCell (p := ⟨b1, i, none⟩) hb1 _
  have hb1l4 : b1 < (w4.setCell ⟨b1, i, none⟩ (.slice a n c)).heap.size := by rw [size_store]; exact Nat.lt_of_lt_of_le hb1l hb4.size
  have hP := h.side (r' := roleS r b1 (2 + 2 * i)) hbs (fun b hb => by unfold roleS; rw [if_neg (by omega)]) (fun b hn => by
    by_cases e : b = b1
    · subst e; exact ⟨Nat.le_trans h.hB hb1, hb1l4⟩
    · unfold roleS at hn
      rw [if_neg e] at hn
      exact ⟨(h.lo b hn).1, Nat.lt_of_lt_of_le (h.lo b hn).2 hbs.size⟩)
  have hne : a ≠ none := by
    intro e
    have hl := hI.length
    rw [idl_length] at hl
    obtain ⟨b', o', v', e', _⟩ := hI.ints.at (k := 0) (by omega)
    rw [e] at e'; cases e'
  have hI2 : IntsD (RZ (roleS r b1 (2 + 2 * i))) (w4.setCell ⟨b1, i, none⟩ (.slice a n c)) a n (idl d) := by
    have h1 : IntsD (fun b => RZ (roleS r b1 (2 + 2 * i)) b ∧ b ≠ b1) w4 a n (idl d) := .of_own hI fun b hb => by
      have hne : b ≠ b1 := by omega
      refine ⟨?_, hne⟩
      show roleS r b1 (2 + 2 * i) b = 0
      unfold roleS
      rw [if_neg hne]
      exact h.new (Nat.le_trans hb2.size hb)
    exact (h1.kept (.of_store fun b hb => hb.2)).mono fun _ _ hd => hd.1
  have hrow := rowAt_new (r := roleS r b1 (2 + 2 * i)) (((ho1.up hb4).mono h.hB).store (k := i) (.slice a n c)) hne hI2 hI.cap
  have hrb : ∀ b, b < w.heap.size → roleS r b1 (2 + 2 * i) b = r b := fun b hb => by unfold roleS; rw [if_neg (by omega)]
  obtain ⟨g2, hP2, hb6, hr6, hs6⟩ := hP.addRow hot h0 hrow (by simp [roleS]) hi hgn hg ho ha
  exact ⟨_, _, hP2, (hbs.mono h.hB).trans hb6, fun b hb => (hr6 b (Nat.lt_of_lt_of_le hb hbs.size)).trans (hrb b hb), fun b hb h2 => (hs6 b (Nat.lt_of_lt_of_le hb hbs.size) (by rw [hrb b hb]; exact h2)).trans (hbs.block b hb)⟩

set_option maxHeartbeats 4000000 in
theorem implNew_c {K : Ending → World → Prop} (d : Nat) (a : Option Addr) (n cap : Nat) (xss : List (List Int)) (w : World) (hm : Mat w a n xss) (hg : Hd (GenSet (d : Int) xss))
    (H : ∀ w' r cp gb tb gc tc rb gh R G, Below w.heap.size w w' → Ch w' r w.heap.size d 1 2 cp gb tb gc tc rb gh R G → Hd (Built d xss R G) → K (.returned (.pointer (some ⟨cp, 0, none⟩))) w') :
    Calls Try.prog 55 #[.int .i64 d, .slice a n cap] w K := by
  have H' := Hd.i H; clear H
  have hd1 : 1 ≤ d := by have := hg.o.1; omega
  have hd20 : d ≤ 20 := by have := hg.o.2.1; omega
  have hln := Hd.i hm.length
  have hn8 : n ≤ 8 := by have := hg.o.2.2.1; have := hln.o; omega
  obtain ⟨w1, hmk, hs1, hb1, how1⟩ := make_own w 52 22 (.slice none 0 0) 24 Try.underlying52 infoSS rfl d (by omega) (by omega)
  go_enter Try.func55, Try.ntmps55
  obtain ⟨r0, hP0⟩ := pc_start (w1 := w1) (B := w.heap.size) (d := d) (og := 1) (ot := 2) #[.int .i64 d, .slice (some ⟨w.heap.size, 0, none⟩) d d, .slice none 0 0] 54 hb1.size rfl rfl rfl how1
  have hbA := hb1.alloc hb1.size (.cells #[.int .i64 d, .slice (some ⟨w.heap.size, 0, none⟩) d d, .slice none 0 0] 54)
  obtain ⟨cp, hcp⟩ : ∃ cp, w1.heap.size = cp := ⟨_, rfl⟩
  go_wp2
  rw [hcp] at hP0
  replace hcp := Hd.i hcp
  go_loopw [16] (fun iv wr => ∃ (i : Nat) (r : Role) (ta : Option Addr) (tcap : Nat) (rb : Nat → Nat), i ≤ d ∧ iv = .int .i64 i ∧ Pc wr r w.heap.size d 1 2 cp i d (some ⟨w.heap.size, 0, none⟩) d ta tcap rb (fun _ => (none, 0, 0)) ∧ Below w.heap.size w wr) (fun iv _ => d - (intOf iv).toNat)
  case atStart => exact ⟨0, r0, none, 0, _, Nat.zero_le _, rfl, hP0, hbA⟩
  case round =>
    clear hP0 hbA hmk hb1 how1 hs1
    obtain ⟨i, r, ta, tcap, rb, hi, rfl, hP, hb⟩ := hrel
    by_cases hlt : i < d
    · obtain ⟨w2, hmk2, hs2, hb2, ho2⟩ := make_own wr 22 23 (.slice none 0 0) 24 Try.underlying22 infoSl rfl d (by omega) (by omega)
      obtain ⟨wo, rfl⟩ : ∃ wo, wo = wr := ⟨wr, rfl⟩
      have hlt2 : wo.heap.size < w2.heap.size := by have := hs2.o; omega
      go_wp2_with fail
      refine implIdentity_c d _ (by omega) ?_
      intro a4 n4 c4 w4 hb4 ho4
      obtain ⟨v4, hc4, hf4, _⟩ := (ho2.up hb4).at' hlt
      have hP4 := hP.up ((below_on hb2 hb4).setCell (p := ⟨wo.heap.size, i, none⟩) (Nat.le_refl _) (.slice a4 n4 c4))
      have hc2 := hP4.c2
      have hf2 := hP4.f2
      have hown := hP4.tt
      have hcpl := Hd.i (hP4.lo cp (by rw [hP4.rc]; omega))
      have hrcp := Hd.i hP4.rc
      have hrt := Hd.i hP4.rt
      have hil : i ≤ 20 := by omega
      have c1 : (i + 1) * 24 ≤ 140737488355328 := by omega
      have c2 : i + 1 ≤ 281474976710656 := by omega
      have hB4 := hP4.hB
      have hsz4 := Hd.i (size_store w4 ⟨wo.heap.size, i, none⟩ (.slice a4 n4 c4))
      clear hs2 hmk2
      go_wp2_with (at_builtin; refine appendG_c rfl _ _ _ rfl w.heap.size 22 (.slice none 0 0) 24 Try.underlying52 infoSS rfl _ _ _ _ rfl hown [.slice (some ⟨wo.heap.size, 0, none⟩) d d] 1 _ rfl hsz4.o.symm rfl oneSlice c1 c2 hB4 ?_; intro a5 n5 c5 w5 hn5 ho5 hg5 ha5; have hc5 := hg5.cell_far hc2 (fun e => (by have := hrt.o cp e; have := hrcp.o; omega)); have hf5 := (hg5.frozen_far (p := ⟨cp, 2, none⟩) hcpl.o.2 (fun e => (by have := hrt.o cp e; have := hrcp.o; omega))).trans hf2)
      obtain ⟨r', rb', hP5, hb5, _, _⟩ := hP.row (by omega) (by omega) (by omega) (by omega) (by omega) hb2 (Nat.le_refl _) ho2 hb4 ho4 hg5 (j := 1) ho5 (by rw [hsz4.o]; exact ha5.o)
      exact ⟨⟨i + 1, r', a5, c5, rb', by omega, by go_num, hP5, hb.trans hb5⟩, by simp [intOf]; omega⟩
    · obtain rfl : i = d := by omega
      obtain ⟨gb, tb, hC, _⟩ := hP.finish hd1 hd20
      have hBu := Hd.i (show Built i (xss.take 0) (R0 i) (fun _ => []) from built_zero hd1 hd20)
      have hms := MatD.of_mat hm
      have hle := hm.le
      clear hP
      go_wp2
      go_loopw [39] (fun iv wr => ∃ (j : Nat) (r : Role) (gh : Nat → Hdr) (R : Tr) (G : Nat → List (List Int)), j ≤ n ∧ iv = .int .i64 j ∧ Ch wr r w.heap.size i 1 2 cp gb tb i tcap rb gh R G ∧ Hd (Built i (xss.take j) R G) ∧ Below w.heap.size w wr) (fun iv _ => n - (intOf iv).toNat)
      case atStart => exact ⟨0, _, _, _, _, Nat.zero_le _, rfl, hC, hBu, hb⟩
      case round =>
        clear hC hBu hb
        obtain ⟨j, r, gh, R, G, hj, rfl, hC, hBu, hb⟩ := hrel
        by_cases hlt : j < n
        · have hmr : MatD (RZ r) wr a n xss := (hms.kept (.of_below hb)).mono fun b _ hd => by
            apply Classical.byContradiction
            intro hne
            have := (hC.lo b hne).1
            omega
          obtain ⟨b, off, a3, n3, c3, p, rfl, hbb, hcell, hp, hpI, hpc⟩ := hmr.at hlt
          have hpg := gs_of hg.o p (List.mem_of_getElem? hp.o)
          have hgs := Hd.i ((gs_of hg.o).take j)
          replace hpg := Hd.i hpg
          go_wp2_with fail
          refine implAdd_c i w.heap.size cp gb tb i tcap rb i 0 rfl (Nat.zero_le _) _ r gh R G a3 n3 c3 p _ hC hBu.o.1 hpI hpc ⟨hpg.o, fx_zero p⟩ ?_
          intro w9 r9 gh9 R9 G9 hE9 hC9 _ hpost9
          have hBu9 : Hd (Built i (xss.take (j + 1)) R9 G9) := by
            have := hBu.o.step hd1 hd20 hgs.o hpg.o hpost9.o
            rw [take_succ_some hp.o]
            exact this
          go_wp2
          exact ⟨⟨j + 1, r9, gh9, R9, G9, by omega, by go_num, hC9, hBu9, hb.trans hE9.below⟩, by simp [intOf]; omega⟩
        · obtain rfl : j = n := by omega
          rw [List.take_of_length_le (by have := hln.o; omega)] at hBu
          go_wp2
          exact H'.o _ _ _ _ _ _ _ _ _ _ _ hb hC hBu
end Go.Proofs.Ytpijnjhheikmcaa
