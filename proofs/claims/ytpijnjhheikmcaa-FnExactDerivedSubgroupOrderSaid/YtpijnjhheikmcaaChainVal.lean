/- has, hasAll, order of chains that stand. -/
import Derived.Test.YtpijnjhheikmcaaChainEmp
import Derived.Test.YtpijnjhheikmcaaPureVal
namespace Go.Proofs.Ytpijnjhheikmcaa
open Go.RowKit

theorem implHas0_c {K : Ending → World → Prop} (d cp : Nat) (xss : List (List Int)) (a : Option Addr) (n cap : Nat) (p : List Int) (w : World) (hC : CI w cp d xss) (hp : Ints w a n p) (hpm : Hd (Pm d p)) (H : Gives K w (.bool (memB d xss p))) :
    Calls Try.prog 56 #[.pointer (some ⟨cp, 0, none⟩), .int .i64 0, .slice a n cap] w K := by
  obtain ⟨r, B, gb, tb, gc, tc, rb, gh, R, G, h1, h2⟩ := hC
  refine implHas_c d 1 B cp gb tb gc tc rb gh r R G 0 a n cap p w rfl h1 (Hd.i h2.o.1.rws) (Nat.zero_le _) hp ⟨hpm.o, fx_zero p⟩ ?_
  intro b hb
  rw [h2.o.memB h1.d1 h1.d2 hpm.o hb.o]
  exact H
theorem specHas0_c {K : Ending → World → Prop} (d cp : Nat) (xss : List (List Int)) (a : Option Addr) (n cap : Nat) (p : List Int) (w : World) (hC : CS w cp d xss) (hp : Ints w a n p) (hpm : Hd (Pm d p)) (H : Gives K w (.bool (memB d xss p))) :
    Calls Try.prog 50 #[.pointer (some ⟨cp, 0, none⟩), .slice a n cap] w K := by
  have H' := Hd.i H; clear H
  obtain ⟨r, B, gb, tb, gc, tc, rb, gh, R, G, h1, h2⟩ := hC
  have hd1 := h1.d1
  have hd20 := h1.d2
  go_enter Try.func50, Try.ntmps50
  go_wp2_with fail
  refine specSift_c d 2 B cp gb tb gc tc rb gh r R G 0 a n cap p w rfl h1 (Hd.i h2.o.1.rws) (Nat.zero_le _) hp ⟨hpm.o, fx_zero p⟩ ?_
  intro a' n' c' l w' hl hout hb
  have hc0 := (h1.up hb).c0
  have he : ((l : Int) == (d : Int)) = memB d xss p := h2.o.memB hd1 hd20 hpm.o (by rw [beq_iff_eq]; exact ⟨fun h => hout.o.1 (by omega), fun h => by have := hout.o.2 h; omega⟩)
  go_wp2
  exact H'.o _ hb

/-- All of ps are members. -/
noncomputable def memAll (d : Nat) (xss ps : List (List Int)) : Bool := ps.all fun p => memB d xss p
theorem memAll_false {d : Nat} {xss ps : List (List Int)} {i : Nat} {p : List Int} (h : ps[i]? = some p) (hn : memB d xss p = false) : memAll d xss ps = false := by
  unfold memAll
  rw [List.all_eq_false]
  exact ⟨p, List.mem_of_getElem? h, by simp [hn]⟩
theorem memAll_true {d : Nat} {xss ps : List (List Int)} (h : ∀ (i : Nat) (p : List Int), i < ps.length → ps[i]? = some p → memB d xss p = true) : memAll d xss ps = true := by
  unfold memAll
  rw [List.all_eq_true]
  intro p hp
  obtain ⟨i, hi, e⟩ := List.mem_iff_getElem.1 hp
  exact h i p hi (by rw [List.getElem?_eq_getElem hi, e])

set_option maxHeartbeats 4000000 in
theorem implHasAll_c {K : Ending → World → Prop} (d cp : Nat) (xss : List (List Int)) (a : Option Addr) (n cap : Nat) (ps : List (List Int)) (w : World) (hC : CI w cp d xss) (hm : Mat w a n ps) (hg : Hd (Gs d ps)) (hn : n ≤ 1000000) (H : Gives K w (.bool (memAll d xss ps))) :
    Calls Try.prog 65 #[.pointer (some ⟨cp, 0, none⟩), .slice a n cap] w K := by
  have H' := Hd.i H; clear H
  have hln := Hd.i hm.length
  go_enter Try.func65, Try.ntmps65
  go_wp2
  go_loopw [9] (fun iv wr => ∃ i : Nat, i ≤ n ∧ iv = .int .i64 i ∧ Hd (∀ (j : Nat) (p : List Int), j < i → ps[j]? = some p → memB d xss p = true) ∧ Below w.heap.size w wr) (fun iv _ => n - (intOf iv).toNat)
  case atStart => exact ⟨0, Nat.zero_le _, rfl, fun j p hj => by omega, Below.refl _ _⟩
  case round =>
    obtain ⟨i, hi, rfl, hall, hb⟩ := hrel
    by_cases hlt : i < n
    · obtain ⟨b, off, a3, n3, c3, p, rfl, hbb, hcell, hp, hpI, hpc⟩ := (hm.up hb).at hlt
      have hpg := Hd.i (hg.o p (List.mem_of_getElem? hp.o))
      have hCr := hC.up hb
      cases hmem : memB d xss p with
      | true =>
        go_wp2_with (go_at_call 56; refine implHas0_c d cp xss _ _ _ p _ hCr hpI hpg ?_; rw [hmem]; intro w5 hb5)
        refine ⟨⟨i + 1, by omega, by go_num, fun j q hj e => ?_, hb.trans (hb5.mono hb.size)⟩, by simp [intOf]; omega⟩
        by_cases h : j = i
        · subst h; rw [hp.o] at e; cases e; exact hmem
        · exact hall.o j q (by omega) e
      | false =>
        go_wp2_with (go_at_call 56; refine implHas0_c d cp xss _ _ _ p _ hCr hpI hpg ?_; rw [hmem]; intro w5 hb5)
        have := H'.o _ (hb.trans (hb5.mono hb.size))
        rw [memAll_false hp.o hmem] at this
        exact this
    · obtain rfl : i = n := by omega
      go_wp2
      have := H'.o _ hb
      rw [memAll_true (fun j p hj e => hall.o j p (by have := hln.o; omega) e)] at this
      exact this
set_option maxHeartbeats 4000000 in
theorem specHasAll_c {K : Ending → World → Prop} (d cp : Nat) (xss : List (List Int)) (a : Option Addr) (n cap : Nat) (ps : List (List Int)) (w : World) (hC : CS w cp d xss) (hm : Mat w a n ps) (hg : Hd (Gs d ps)) (hn : n ≤ 1000000) (H : Gives K w (.bool (memAll d xss ps))) :
    Calls Try.prog 63 #[.pointer (some ⟨cp, 0, none⟩), .slice a n cap] w K := by
  have H' := Hd.i H; clear H
  have hln := Hd.i hm.length
  go_enter Try.func63, Try.ntmps63
  go_wp2
  go_loopw [5] (fun iv wr => ∃ i : Nat, i ≤ n ∧ iv = .int .i64 i ∧ Hd (∀ (j : Nat) (p : List Int), j < i → ps[j]? = some p → memB d xss p = true) ∧ Below w.heap.size w wr) (fun iv _ => n - (intOf iv).toNat)
  case atStart => exact ⟨0, Nat.zero_le _, rfl, fun j p hj => by omega, Below.refl _ _⟩
  case round =>
    obtain ⟨i, hi, rfl, hall, hb⟩ := hrel
    by_cases hlt : i < n
    · obtain ⟨b, off, a3, n3, c3, p, rfl, hbb, hcell, hp, hpI, hpc⟩ := (hm.up hb).at hlt
      have hpg := Hd.i (hg.o p (List.mem_of_getElem? hp.o))
      have hCr := hC.up hb
      cases hmem : memB d xss p with
      | true =>
        go_wp2_with (go_at_call 50; refine specHas0_c d cp xss _ _ _ p _ hCr hpI hpg ?_; rw [hmem]; intro w5 hb5)
        refine ⟨⟨i + 1, by omega, by go_num, fun j q hj e => ?_, hb.trans (hb5.mono hb.size)⟩, by simp [intOf]; omega⟩
        by_cases h : j = i
        · subst h; rw [hp.o] at e; cases e; exact hmem
        · exact hall.o j q (by omega) e
      | false =>
        go_wp2_with (go_at_call 50; refine specHas0_c d cp xss _ _ _ p _ hCr hpI hpg ?_; rw [hmem]; intro w5 hb5)
        have := H'.o _ (hb.trans (hb5.mono hb.size))
        rw [memAll_false hp.o hmem] at this
        exact this
    · obtain rfl : i = n := by omega
      go_wp2
      have := H'.o _ hb
      rw [memAll_true (fun j p hj e => hall.o j p (by have := hln.o; omega) e)] at this
      exact this

set_option maxHeartbeats 4000000 in
theorem implOrderC_c {K : Ending → World → Prop} (d cp : Nat) (xss : List (List Int)) (k : Nat) (w : World) (hk : k ≤ d) (hC : CI w cp d xss) (hg : Hd (Gs d xss)) (H : Gives K w (.int .i64 (ordF (osz d xss) k d : Nat))) :
    Calls Try.prog 66 #[.pointer (some ⟨cp, 0, none⟩), .int .i64 k] w K := by
  have H' := Hd.i H; clear H
  obtain ⟨r, B, gb, tb, gc, tc, rb, gh, R, G, h1, h2⟩ := hC
  have hd1 := h1.d1
  have hd20 := h1.d2
  go_enter Try.func66, Try.ntmps66
  go_wp2
  go_loopw [5, 6] (fun ov iv wr => ∃ (i o : Nat), k ≤ i ∧ i ≤ d ∧ iv = .int .i64 i ∧ ov = .int .i64 o ∧ Hd (o = ordF (osz d xss) k i) ∧ Below w.heap.size w wr) (fun _ iv _ => d - (intOf iv).toNat)
  case atStart => exact ⟨k, 1, Nat.le_refl _, hk, rfl, rfl, (ordF_self _ _).symm, Below.refl _ _⟩
  case round =>
    obtain ⟨i, o, hki, hi, rfl, rfl, ho, hb⟩ := hrel
    have hC := h1.up hb
    have hc0 := hC.c0
    by_cases hlt : i < d
    · have hc2 := hC.c2
      have htt := (hC.tt i hlt).1
      have hrow := hC.rows i hlt
      go_wp2_with (first
        | (go_at_call 69; refine implPts_c r B d (rb i) d (R i) _ hd20 hrow ?_; intro a5 n5 c5 w5 hb5 ho5; have hn5 := Hd.i (show n5 = osz d xss i by rw [← h2.o.osz hd1 hd20 hlt, ← ptsTo_len]; exact ho5.length.symm); have hn20 : n5 ≤ 20 := (by have := hn5.o; have := osz_le hd1 hd20 hg.o i hlt; omega); have hmul := Hd.i (show o * n5 = ordF (osz d xss) k (i + 1) by rw [ordF_succ _ hki, ← ho.o, ← hn5.o]); have hle := Hd.i (ordF_le hd20 (osz_le hd1 hd20 hg.o) k (i + 1) (by omega)); have hwr := Hd.i (show wrap64 ((o : Int) * (n5 : Int)) = ((o * n5 : Nat) : Int) by rw [IntWalk.wrap64_in ((o : Int) * (n5 : Int)) (by rw [← Int.natCast_mul, hmul.o]; have := hle.o; omega), Int.natCast_mul]))
        | (go_at_call 53; refine length_c _ _ _ _ ?_))
      exact ⟨⟨i + 1, o * n5, by omega, by omega, by go_num, by first | rw [hwr.o] | rfl, hmul, hb.trans (hb5.mono hb.size)⟩, by simp [intOf]; omega⟩
    · obtain rfl : i = d := by omega
      go_wp2
      rw [ho.o]
      exact H'.o _ hb
end Go.Proofs.Ytpijnjhheikmcaa
