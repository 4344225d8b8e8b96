/- orbitSizes, chainOrder; GroupOrder, OrbitSizes. -/
import Derived.Test.YtpijnjhheikmcaaChainVal
namespace Go.Proofs.Ytpijnjhheikmcaa
open Go.RowKit

def cntR (R : Tr) (i m : Nat) : Nat := ((List.range m).filter fun y => (R i y).isSome).length
theorem cntR_le (R : Tr) (i m : Nat) : cntR R i m ≤ m := by
  unfold cntR
  refine Nat.le_trans (List.length_filter_le _ _) ?_
  rw [List.length_range]; exact Nat.le_refl _
theorem cntR_some {R : Tr} {i m : Nat} (h : (R i m).isSome = true) : cntR R i (m + 1) = cntR R i m + 1 := by
  unfold cntR
  rw [List.range_succ, List.filter_append, List.length_append]
  simp [h]
theorem cntR_none {R : Tr} {i m : Nat} (h : R i m = none) : cntR R i (m + 1) = cntR R i m := by
  unfold cntR
  rw [List.range_succ, List.filter_append, List.length_append]
  simp [h]
theorem oszs_succ (d : Nat) (xss : List (List Int)) (k : Nat) : oszs d xss (k + 1) = oszs d xss k ++ [(osz d xss k : Int)] := by simp [oszs, List.range_succ]
theorem oszs_length (d : Nat) (xss : List (List Int)) (k : Nat) : (oszs d xss k).length = k := by simp [oszs]

theorem specBoolInt_c {K : Ending → World → Prop} (b : Bool) (w : World) (H : K (.returned (.int .i64 (if b then 1 else 0))) w) : Calls Try.prog 89 #[.bool b] w K := by
  have H' := Hd.i H; clear H
  cases b with
  | true => go_enter Try.func89, Try.ntmps89; go_wp2; exact H'.o
  | false => go_enter Try.func89, Try.ntmps89; go_wp2; exact H'.o

set_option maxHeartbeats 4000000 in
theorem specSizes_c {K : Ending → World → Prop} (d cp : Nat) (xss : List (List Int)) (w : World) (hC : CS w cp d xss) (hg : Hd (Gs d xss)) (H : MakesI K w (oszs d xss d)) :
    Calls Try.prog 68 #[.pointer (some ⟨cp, 0, none⟩)] w K := by
  have H' := Hd.i H; clear H
  obtain ⟨r, B, gb, tb, gc, tc, rb, gh, R, G, h1, h2⟩ := hC
  have hd1 := h1.d1
  have hd20 := h1.d2
  have hb0 := (Below.refl w.heap.size w).alloc (Nat.le_refl _) (.cells #[] 2)
  have ho0 := OwnI.emptyLit w (B := w.heap.size) (Nat.le_refl _)
  go_enter Try.func68, Try.ntmps68
  go_wp2
  go_loopw [3, 4] (fun v iv wr => ∃ (i : Nat) (c : Option Addr) (m capc : Nat), i ≤ d ∧ iv = .int .i64 i ∧ v = .slice c m capc ∧ OwnI wr w.heap.size c m capc (oszs d xss i) ∧ Below w.heap.size w wr) (fun _ iv _ => d - (intOf iv).toNat)
  case atStart => exact ⟨0, _, 0, 0, Nat.zero_le _, rfl, rfl, ho0, hb0⟩
  case round =>
    clear hb0 ho0
    obtain ⟨i, c, m, capc, hi, rfl, rfl, ho, hb⟩ := hrel
    have hC := h1.up hb
    have hc0 := hC.c0
    by_cases hlt : i < d
    · have hc1 := hC.c2
      have htt := (hC.tt i hlt).1
      have hmi : m = i := by rw [← ho.length, oszs_length]
      replace hmi := Hd.i hmi
      go_wp2
      go_loop [5, 6] (fun sv yv => ∃ y : Nat, y ≤ d ∧ yv = .int .i64 y ∧ sv = .int .i64 (cntR R i y : Nat)) (fun _ yv => d - (intOf yv).toNat)
      case atStart => exact ⟨0, Nat.zero_le _, rfl, rfl⟩
      case round =>
        obtain ⟨y, hy, rfl, rfl⟩ := hrel
        have hle := cntR_le R i y
        by_cases hly : y < d
        · obtain ⟨ra, rn, rc, hcr, hfr, hrno, hrso⟩ := hC.rep hlt hly
          cases hRy : R i y with
          | none =>
            have e := hrno.o hRy
            simp only [Prod.mk.injEq] at e
            obtain ⟨rfl, rfl, rfl⟩ := e
            have el := Hd.i (cntR_none hRy)
            go_wp2_with (go_at_call 89; refine specBoolInt_c _ _ ?_)
            exact ⟨⟨y + 1, by omega, by go_num, by rw [el.o]⟩, by simp [intOf]; omega⟩
          | some t =>
            obtain ⟨a1, a2, a3⟩ := hrso.o t hRy
            have hrn : 0 < rn := by
              have := (h2.o.1.rws i (Nat.zero_le _) hlt y t hRy).1.2
              rw [← a2.1.length]; omega
            have hrn2 : rn ≤ 1000000 := by
              have := (h2.o.1.rws i (Nat.zero_le _) hlt y t hRy).1.2
              rw [← a2.1.length]; omega
            have el := Hd.i (cntR_some (R := R) (i := i) (m := y) (by rw [hRy]; rfl))
            have ht := Hd.i (show decide ((rn : Int) > 0) = true by simp; omega)
            clear hrso hrno a2
            go_wp2_with (go_at_call 89; refine specBoolInt_c _ _ ?_)
            exact ⟨⟨y + 1, by omega, by go_num, by rw [el.o]; go_num⟩, by simp [intOf]; omega⟩
        · obtain rfl : y = d := by omega
          have hsz := Hd.i (show cntR R i y = osz y xss i from h2.o.osz hd1 hd20 hlt)
          have hs := hb.size
          have c1 : (m + 1) * 8 ≤ 140737488355328 := by have := hmi.o; omega
          have c2 : m + 1 ≤ 281474976710656 := by have := hmi.o; omega
          go_wp2_with (at_builtin; refine appendL_c rfl _ _ _ rfl w.heap.size 2 (.int .i64 0) 8 Try.underlying23 infoInt rfl _ _ _ _ rfl ho.1 [.int .i64 (cntR R i y : Nat)] 1 rfl rfl oneInt c1 c2 hs ?_; intro a2 n2 cap2 w2 hn2 ho2 hg2 ha2)
          exact ⟨⟨i + 1, a2, n2, cap2, by omega, by go_num, rfl, by rw [oszs_succ, ← hsz.o]; exact OwnI.snoc ho2 ho.2 (by omega) (by omega), ho.grewBelow hg2 hb hs⟩, by simp [intOf]; omega⟩
    · obtain rfl : i = d := by omega
      go_wp2
      exact H'.o _ _ _ _ hb ho

/-- The product of a list of sizes from the k-th on. -/
theorem oszs_get {d : Nat} {xss : List (List Int)} {i : Nat} (hi : i < d) : (oszs d xss d)[i]? = some ((osz d xss i : Nat) : Int) := by
  simp [oszs, hi]

set_option maxHeartbeats 4000000 in
theorem specOrder_c {K : Ending → World → Prop} (d cp : Nat) (xss : List (List Int)) (w : World) (hC : CS w cp d xss) (hg : Hd (Gs d xss)) (H : Gives K w (.int .i64 (ordF (osz d xss) 0 d : Nat))) :
    Calls Try.prog 67 #[.pointer (some ⟨cp, 0, none⟩)] w K := by
  have H' := Hd.i H; clear H
  have hd : 1 ≤ d ∧ d ≤ 20 := by
    obtain ⟨r, B, gb, tb, gc, tc, rb, gh, R, G, h1, h2⟩ := hC
    exact ⟨h1.d1, h1.d2⟩
  obtain ⟨hd1, hd20⟩ := hd
  go_enter Try.func67, Try.ntmps67
  go_wp2_with fail
  refine specSizes_c d cp xss w hC hg ?_
  intro a5 n5 c5 w5 hb5 ho5
  obtain rfl : n5 = d := by rw [← ho5.length, oszs_length]
  have hx := ho5.ints
  go_wp2
  go_loop [3, 5] (fun ov iv => ∃ (i o : Nat), i ≤ n5 ∧ iv = .int .i64 i ∧ ov = .int .i64 o ∧ Hd (o = ordF (osz n5 xss) 0 i)) (fun _ iv => n5 - (intOf iv).toNat)
  case atStart => exact ⟨0, 1, Nat.zero_le _, rfl, rfl, rfl⟩
  case round =>
    obtain ⟨i, o, hi, rfl, rfl, ho⟩ := hrel
    by_cases hlt : i < n5
    · obtain ⟨bq, offq, y, rfl, hbq, hcq, hyq, hy1, hy2⟩ := hx.at hlt
      obtain rfl : y = ((osz n5 xss i : Nat) : Int) := by have := hyq.o; rw [oszs_get hlt] at this; cases this; rfl
      obtain ⟨s, hs⟩ : ∃ s, osz n5 xss i = s := ⟨_, rfl⟩
      rw [hs] at hcq hy1 hy2 hyq
      have hmul := Hd.i (show o * s = ordF (osz n5 xss) 0 (i + 1) by rw [ordF_succ _ (Nat.zero_le _), ← ho.o, ← hs])
      have hle := Hd.i (ordF_le hd20 (osz_le hd1 hd20 hg.o) 0 (i + 1) (by omega))
      have hwr := Hd.i (show wrap64 ((o : Int) * (s : Int)) = ((o * s : Nat) : Int) by rw [IntWalk.wrap64_in ((o : Int) * (s : Int)) (by rw [← Int.natCast_mul, hmul.o]; have := hle.o; omega), Int.natCast_mul])
      replace hs := Hd.i hs
      go_wp2
      exact ⟨⟨i + 1, o * s, by omega, by go_num, by first | rw [hwr.o] | rfl, hmul⟩, by simp [intOf]; omega⟩
    · obtain rfl : i = n5 := by omega
      go_wp2
      rw [ho.o]
      exact H'.o _ hb5
end Go.Proofs.Ytpijnjhheikmcaa
