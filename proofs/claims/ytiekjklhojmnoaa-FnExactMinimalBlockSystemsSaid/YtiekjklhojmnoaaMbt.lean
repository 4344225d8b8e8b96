/- MinimalBlockSystems: the tops. -/
import Derived.Test.YtiekjklhojmnoaaMbs
namespace Go.Proofs.Ytiekjklhojmnoaa
open Go.RowKit

/-- The block systems found with the points 1 .. k. -/
noncomputable def minTo (d : Nat) (xss : List (List Int)) : Nat → List (List (List Int))
  | 0 => []
  | k + 1 => if 1 < (pMin d xss 0 ((k + 1 : Nat) : Int)).length ∧ pMin d xss 0 ((k + 1 : Nat) : Int) ∉ minTo d xss k then minTo d xss k ++ [pMin d xss 0 ((k + 1 : Nat) : Int)] else minTo d xss k
noncomputable def pMinAll (z : Int) (xss : List (List Int)) : List (List (List Int)) := if GenSet z xss then minTo z.toNat xss (z.toNat - 1) else []
theorem minTo_yes {d : Nat} {xss : List (List Int)} {y : Nat} (hy : 1 ≤ y) (h1 : 1 < (pMin d xss 0 (y : Int)).length) (h2 : pMin d xss 0 (y : Int) ∉ minTo d xss (y - 1)) : minTo d xss (y + 1 - 1) = minTo d xss (y - 1) ++ [pMin d xss 0 (y : Int)] := by
  obtain ⟨k, rfl⟩ : ∃ k, y = k + 1 := ⟨y - 1, by omega⟩
  rw [Nat.add_sub_cancel, Nat.add_sub_cancel] at *
  rw [minTo, if_pos ⟨h1, h2⟩]
theorem minTo_no {d : Nat} {xss : List (List Int)} {y : Nat} (hy : 1 ≤ y) (h : ¬ (1 < (pMin d xss 0 (y : Int)).length ∧ pMin d xss 0 (y : Int) ∉ minTo d xss (y - 1))) : minTo d xss (y + 1 - 1) = minTo d xss (y - 1) := by
  obtain ⟨k, rfl⟩ : ∃ k, y = k + 1 := ⟨y - 1, by omega⟩
  rw [Nat.add_sub_cancel, Nat.add_sub_cancel] at *
  rw [minTo, if_neg h]
theorem minTo_len (d : Nat) (xss : List (List Int)) : ∀ k, (minTo d xss k).length ≤ k ∧ cells3 (minTo d xss k) ≤ k * (d * d)
  | 0 => by simp [minTo, cells3]
  | k + 1 => by
    obtain ⟨h1, h2⟩ := minTo_len d xss k
    rw [minTo]
    split
    · refine ⟨by rw [List.length_append, List.length_singleton]; omega, ?_⟩
      have h3 := blks_cells (Cg d xss fun i j => i = 0 ∧ j = ((k + 1 : Nat) : Int)) d
      unfold cells3 at h2 ⊢
      rw [List.map_append, List.sum_append, Nat.add_mul, Nat.one_mul]
      have e : ([pMin d xss 0 ((k + 1 : Nat) : Int)].map cells).sum = cells (pMin d xss 0 ((k + 1 : Nat) : Int)) := by simp
      rw [e]
      have h4 : cells (pMin d xss 0 ((k + 1 : Nat) : Int)) ≤ d * d := h3
      omega
    · refine ⟨by omega, ?_⟩
      rw [Nat.add_mul]
      omega
theorem pMinAll_cells (z : Int) (xss : List (List Int)) : cells3 (pMinAll z xss) ≤ 8000 := by
  unfold pMinAll
  split
  · rename_i h
    have hz : z.toNat ≤ 20 := by have := h.2.1; omega
    refine Nat.le_trans (minTo_len _ _ _).2 ?_
    have h1 : z.toNat * z.toNat ≤ 20 * 20 := Nat.mul_le_mul hz hz
    exact Nat.mul_le_mul (by omega : z.toNat - 1 ≤ 20) h1
  · simp [cells3]
theorem pMin_pos {d : Nat} (h : 1 ≤ d) (xss : List (List Int)) (x y : Int) : 1 ≤ (pMin d xss x y).length := by
  unfold pMin blks
  rw [List.length_map]
  have h0 : (0 : Int) ∈ fstP (Cg d xss fun i j => i = x ∧ j = y) d := mem_fstP.2 ⟨by omega, fun y h1 h2 => by omega⟩
  exact List.length_pos_of_mem h0

set_option maxHeartbeats 2000000 in
set_option maxRecDepth 100000 in
theorem implMinAll_c {R : Ending → World → Prop} (z : Int) (a : Option Addr) (n cap : Nat) (xss : List (List Int)) (w : World) (hm : Mat w a n xss) (H : MakesRR R w (pMinAll z xss)) :
    Calls Try.prog 47 #[.int .i64 z, .slice a n cap] w R := by
  have H' := Hd.i H; clear H
  by_cases hg : GenSet z xss
  · have hdec := Hd.i (decide_eq_true hg)
    obtain ⟨d, rfl⟩ := genD hg
    have h1 : 1 ≤ d := by have := hg.1; omega
    have h2 : d ≤ 20 := by have := hg.2.1; omega
    have hH : Hd (MakesRR R w (minTo d xss (d - 1))) := by
      have e : pMinAll (d : Int) xss = minTo d xss (d - 1) := by unfold pMinAll; rw [if_pos hg, Int.toNat_natCast]
      show MakesRR R w (minTo d xss (d - 1))
      rw [← e]; exact H'.o
    have hgs := Hd.i (show Gs d xss from gsB hg)
    replace hg := Hd.i hg
    go_enter Try.func47, Try.ntmps47
    go_wp2_with (first | (go_at_call 55; refine implGenSet_c (d : Int) _ _ _ xss _ hm ?_; intro w1 hb1; rw [hdec.o]; have hm1 := hm.up hb1))
    have hs1 := hb1.size
    go_loopw [5, 6] (fun v yv wr => ∃ (y : Nat) (c : Option Addr) (m capc : Nat) (E : List Elt), 1 ≤ y ∧ y ≤ d ∧ yv = .int .i64 y ∧ v = .slice c m capc ∧ OwnRR wr w1.heap.size c m capc E (minTo d xss (y - 1)) ∧ Below w1.heap.size w1 wr) (fun _ yv _ => d - (intOf yv).toNat)
    case atStart => exact ⟨1, none, 0, 0, [], Nat.le_refl _, h1, rfl, rfl, OwnRR.nil _ _, Below.refl _ _⟩
    case round =>
      obtain ⟨y, c, m, capc, E, hy1, hyd, rfl, rfl, ho, hb⟩ := hrel
      have hsz := hb.size
      have hm2 := hm1.up hb
      by_cases hlt : y < d
      · have hml : m ≤ y := by have := ho.length; have := (minTo_len d xss (y - 1)).1; omega
        obtain ⟨B, hB⟩ : ∃ B, B = pMin d xss 0 (y : Int) := ⟨_, rfl⟩
        have hBl := pMin_pos h1 xss 0 (y : Int)
        rw [← hB] at hBl
        go_wp2_with fail
        refine implMin_c d _ _ _ xss 0 (y : Int) _ h1 h2 hm2 hgs (by omega) (by omega) ?_
        intro a3 n3 c3 hs3 w3 hb3 ho3
        rw [← hB] at ho3
        have hn3 := Hd.i ho3.length
        have hbx := below_ups hb hb3 hsz
        obtain ⟨ob, hob⟩ : ∃ o, o = Obj.cells #[.slice a3 n3 c3] 22 := ⟨_, rfl⟩
        have hcb : (w3.alloc ob).cell? ⟨w3.heap.size, 0, none⟩ = some (.slice a3 n3 c3) := by rw [hob, World.cell?_alloc_at _ _ _ _ rfl]; rfl
        have hb34 : Below w3.heap.size w3 (w3.alloc ob) := (Below.refl _ _).alloc (Nat.le_refl _) _
        have hba := below_ups hbx hb34 hbx.size
        have ho34 := ho3.up hb34
        have hl34 := (ho.up hb3).up hb34
        have hb4 := below_ups hb3 hb34 hb3.size
        rw [hob] at hcb hba ho34 hl34 hb4
        clear ho3 hbx hb34 hb3
        replace hob := Hd.i hob
        by_cases hlen : 1 < n3
        · by_cases hin : B ∈ minTo d xss (y - 1)
          · have hdc := Hd.i (decide_eq_true hin)
            have hst := Hd.i (minTo_no (d := d) (xss := xss) hy1 (fun h => h.2 (by rw [← hB]; exact hin)))
            replace hin := Hd.i hin
            replace hB := Hd.i hB
            go_wp2_with (first | (go_at_call 90; refine sysContains_c _ _ _ _ _ _ _ B _ _ hl34.rrows ho34.rows hcb ?_; intro w5 hd5; rw [hdc.o]))
            refine ⟨⟨y + 1, c, m, capc, E, by omega, by omega, by go_num, rfl, ?_, hd5.up hba⟩, by simp [intOf]; omega⟩
            rw [hst.o]
            exact hd5.ownRR hl34
          · have hdc := Hd.i (decide_eq_false hin)
            have hst := Hd.i (minTo_yes (d := d) (xss := xss) hy1 (by rw [← hB]; have := hn3.o; omega) (by rw [← hB]; exact hin))
            have c1' : (m + 1) * 24 ≤ 140737488355328 := by omega
            have c2' : m + 1 ≤ 281474976710656 := by omega
            replace hin := Hd.i hin
            replace hB := Hd.i hB
            have hsa := hba.size
            go_wp2_with fail
            refine sysContains_c _ _ _ _ _ _ _ B _ _ hl34.rrows ho34.rows hcb ?_
            intro w5 hd5
            rw [hdc.o]
            have hcb5 := hd5.cell hcb
            have hl5 := hd5.ownRR hl34
            have ho5 := hd5.ownR ho34
            have hb5 := hd5.up hb4
            have hba5 := hd5.up hba
            have hs5 := hba5.size
            clear hl34 ho34 hcb hba hb4 hsa
            go_wp2_with (first | (at_builtin; refine appendL_c rfl _ _ _ rfl w1.heap.size 22 (.slice none 0 0) 24 Try.underlying46 infoSl2 rfl _ _ _ _ rfl hl5.1 [.slice a3 n3 c3] 1 rfl rfl oneSlice c1' c2' hs5 ?_; intro a2 n2 cap2 w6 hn6 ho6 hg6 ha6))
            refine ⟨⟨y + 1, a2, n2, cap2, E ++ [((a3, n3, c3), hs3)], by omega, by omega, by go_num, rfl, ?_, hl5.grewBelow hg6 hba5 hs5⟩, by simp [intOf]; omega⟩
            rw [hst.o, ← hB.o]
            exact ho.snoc hb5 (e := ((a3, n3, c3), hs3)) ho5 hsz hg6 ho6 ha6.o
        · have hst := Hd.i (minTo_no (d := d) (xss := xss) hy1 (fun h => hlen (by have := h.1; rw [← hB] at this; have := hn3.o; omega)))
          replace hB := Hd.i hB
          go_wp2
          refine ⟨⟨y + 1, c, m, capc, E, by omega, by omega, by go_num, rfl, ?_, hba⟩, by simp [intOf]; omega⟩
          rw [hst.o]
          exact hl34
      · obtain rfl : y = d := by omega
        go_wp2
        exact hH.o _ _ _ E _ (below_ups hb1 hb hs1) (ho.mono hs1)
  · have hdec := Hd.i (decide_eq_false hg)
    have hf : Hd (MakesRR R w []) := by
      have e : pMinAll z xss = [] := by unfold pMinAll; rw [if_neg hg]
      show MakesRR R w []
      rw [← e]; exact H'.o
    replace hg := Hd.i hg
    go_enter Try.func47, Try.ntmps47
    go_wp2_with (go_at_call 55; refine implGenSet_c z _ _ _ xss _ hm ?_; intro w1 hb1; rw [hdec.o])
    exact hf.o _ _ _ [] _ hb1 (OwnRR.nil _ _)
theorem topImplMinimalBlockSystems {R : Ending → World → Prop} {B : Nat} (z : Int) (a : Option Addr) (n cap : Nat) (hs : List Hdr) (xss : List (List Int)) (w : World) (_ : -9223372036854775808 ≤ z ∧ z ≤ 9223372036854775807) (hm0 : OwnH w B a n cap hs xss)
    (H : MakesRR R w (pMinAll z xss)) : Calls Try.prog 47 #[.int .i64 z, .slice a n cap] w R := implMinAll_c z a n cap xss w hm0.rows H

set_option maxHeartbeats 2000000 in
set_option maxRecDepth 100000 in
theorem topSpecMinimalBlockSystems {R : Ending → World → Prop} {B : Nat} (z : Int) (a : Option Addr) (n cap : Nat) (hs : List Hdr) (xss : List (List Int)) (w : World) (_ : -9223372036854775808 ≤ z ∧ z ≤ 9223372036854775807) (hm0 : OwnH w B a n cap hs xss)
    (H : MakesRR R w (pMinAll z xss)) : Calls Try.prog 46 #[.int .i64 z, .slice a n cap] w R := by
  have H' := Hd.i H; clear H
  have hm := hm0.rows
  clear hm0
  by_cases hg : GenSet z xss
  · have hdec := Hd.i (decide_eq_true hg)
    obtain ⟨d, rfl⟩ := genD hg
    have h1 : 1 ≤ d := by have := hg.1; omega
    have h2 : d ≤ 20 := by have := hg.2.1; omega
    have hH : Hd (MakesRR R w (minTo d xss (d - 1))) := by
      have e : pMinAll (d : Int) xss = minTo d xss (d - 1) := by unfold pMinAll; rw [if_pos hg, Int.toNat_natCast]
      show MakesRR R w (minTo d xss (d - 1))
      rw [← e]; exact H'.o
    have hgs := Hd.i (show Gs d xss from gsB hg)
    replace hg := Hd.i hg
    go_enter Try.func46, Try.ntmps46
    go_wp2
    go_loopw [5, 6] (fun v yv wr => ∃ (y : Nat) (c : Option Addr) (m capc : Nat) (E : List Elt), 1 ≤ y ∧ y ≤ d ∧ yv = .int .i64 y ∧ v = .slice c m capc ∧ OwnRR wr w.heap.size c m capc E (minTo d xss (y - 1)) ∧ Below w.heap.size w wr) (fun _ yv _ => d - (intOf yv).toNat)
    case atStart => exact ⟨1, _, 0, 0, [], Nat.le_refl _, h1, rfl, rfl, OwnRR.emptyLit _ (Nat.le_refl _), (Below.refl _ _).alloc (Nat.le_refl _) _⟩
    case round =>
      obtain ⟨y, c, m, capc, E, hy1, hyd, rfl, rfl, ho, hb⟩ := hrel
      have hsz := hb.size
      have hm2 := hm.up hb
      by_cases hlt : y < d
      · have hml : m ≤ y := by have := ho.length; have := (minTo_len d xss (y - 1)).1; omega
        obtain ⟨X, hX⟩ : ∃ X, X = minTo d xss (y - 1) := ⟨_, rfl⟩
        obtain ⟨B, hB⟩ : ∃ B, B = pMin d xss 0 (y : Int) := ⟨_, rfl⟩
        have hBl := pMin_pos h1 xss 0 (y : Int)
        rw [← hB] at hBl
        rw [← hX] at ho
        go_wp2_with (first
          | (go_at_call 52; refine specGenSet_c (d : Int) _ _ _ xss _ hm2 ?_; intro w2 hd2; rw [hdec.o]))
        have hm3 := hd2.rows hm2
        refine specMin_c d _ _ _ xss 0 (y : Int) _ h2 hm3 hgs (by omega) (by omega) ?_
        intro a3 n3 c3 hs3 w3 hb3 ho3
        rw [← hB] at ho3
        have hn3 := Hd.i ho3.length
        have hl2 := hd2.ownRR ho
        have hl3 := hl2.up hb3
        have hbx := below_ups (hd2.up hb) hb3 (by rw [hd2.size]; exact hsz)
        have hxl := Hd.i ho.length
        clear ho
        go_wp2
        go_loopw [8, 9] (fun kv iv wr' => ∃ (i : Nat) (kn : Bool), i ≤ m ∧ iv = .int .i64 i ∧ kv = .bool kn ∧ Hd (kn = (decide (n3 = 1) || decide (B ∈ X.take i))) ∧ Drew w3 wr') (fun _ iv _ => m - (intOf iv).toNat)
        case atStart => exact ⟨0, ((n3 : Int) == 1), Nat.zero_le _, rfl, rfl, by show _ = _; rw [Bool.eq_iff_iff]; simp; omega, Drew.refl _⟩
        case round =>
          obtain ⟨i, kn, hi, rfl, rfl, hkn, hd4⟩ := hrel
          by_cases hlt2 : i < m
          · obtain ⟨b, off, p1, m1, c1, xs, rfl, hbl, hcell, hxk, hix⟩ := (hd4.ownRR hl3).rrows.at hlt2
            have hB4 := (hd4.ownR ho3).rows
            have etk := Hd.i (take_succ_some hxk.o)
            cases kn with
            | true =>
              go_wp2
              refine ⟨⟨i + 1, true, by omega, by go_num, rfl, ?_, hd4⟩, by simp [intOf]; omega⟩
              show _ = _
              rw [etk.o]
              have h := hkn.o
              symm at h ⊢
              rw [Bool.or_eq_true, decide_eq_true_iff, decide_eq_true_iff] at h ⊢
              rcases h with h | h
              · exact .inl h
              · exact .inr (List.mem_append_left _ h)
            | false =>
              obtain ⟨eqv, heqv⟩ : ∃ t, t = decide (xs = B) := ⟨_, rfl⟩
              replace heqv := Hd.i heqv
              go_wp2_with (first | (go_at_call 89; refine equalParts_c _ _ _ xs _ _ _ B _ hix hB4 ?_; rw [← heqv.o]; intro w5 hd5))
              refine ⟨⟨i + 1, eqv, by omega, by go_num, rfl, ?_, hd4.trans hd5⟩, by simp [intOf]; omega⟩
              show _ = _
              have h := hkn.o
              symm at h
              rw [Bool.or_eq_false_iff] at h
              rw [etk.o, h.1, Bool.false_or, heqv.o]
              have h2 := of_decide_eq_false h.2
              by_cases hxB : xs = B
              · rw [decide_eq_true hxB, decide_eq_true]; rw [hxB]; simp
              · rw [decide_eq_false hxB, decide_eq_false]; rw [List.mem_append, List.mem_singleton]; rintro (h3 | h3); exact h2 h3; exact hxB h3.symm
          · obtain rfl : i = m := by omega
            rw [List.take_of_length_le (by have := hxl.o; omega)] at hkn
            have hl4 := hd4.ownRR hl3
            have hb4 := hd4.up hbx
            have hs4 := hb4.size
            cases kn with
            | true =>
              have hst := Hd.i (minTo_no (d := d) (xss := xss) hy1 (fun h => by
                have h3 := hkn.o
                symm at h3
                rw [Bool.or_eq_true, decide_eq_true_iff, decide_eq_true_iff] at h3
                rw [← hB, ← hX] at h
                rcases h3 with h3 | h3
                · have := h.1; have := hn3.o; omega
                · exact h.2 h3))
              replace hB := Hd.i hB
              replace hX := Hd.i hX
              go_wp2
              refine ⟨⟨y + 1, c, i, capc, E, by omega, by omega, by go_num, rfl, ?_, hb4⟩, by simp [intOf]; omega⟩
              rw [hst.o, ← hX.o]
              exact hl4
            | false =>
              have h3 := hkn.o
              symm at h3
              rw [Bool.or_eq_false_iff] at h3
              have hn31 := of_decide_eq_false h3.1
              have hst := Hd.i (minTo_yes (d := d) (xss := xss) hy1 (by rw [← hB]; have := hn3.o; omega) (by rw [← hB, ← hX]; exact of_decide_eq_false h3.2))
              have c1' : (i + 1) * 24 ≤ 140737488355328 := by omega
              have c2' : i + 1 ≤ 281474976710656 := by omega
              have hb34 : Below w2.heap.size w2 wr := hd4.up hb3
              have ho4 := hd4.ownR ho3
              have hs2 : w.heap.size ≤ w2.heap.size := by rw [hd2.size]; exact hsz
              clear h3 hn31
              replace hB := Hd.i hB
              replace hX := Hd.i hX
              go_wp2_with (first | (at_builtin; refine appendL_c rfl _ _ _ rfl w.heap.size 22 (.slice none 0 0) 24 Try.underlying46 infoSl2 rfl _ _ _ _ rfl hl4.1 [.slice a3 n3 c3] 1 rfl rfl oneSlice c1' c2' hs4 ?_; intro a2 n2 cap2 w6 hn6 ho6 hg6 ha6))
              refine ⟨⟨y + 1, a2, n2, cap2, E ++ [((a3, n3, c3), hs3)], by omega, by omega, by go_num, rfl, ?_, hl4.grewBelow hg6 hb4 hs4⟩, by simp [intOf]; omega⟩
              rw [hst.o, ← hB.o, ← hX.o]
              exact hl2.snoc hb34 (e := ((a3, n3, c3), hs3)) ho4 hs2 hg6 ho6 ha6.o
      · obtain rfl : y = d := by omega
        go_wp2
        exact hH.o _ _ _ E _ hb ho
  · have hdec := Hd.i (decide_eq_false hg)
    have hf : Hd (MakesRR R w []) := by
      have e : pMinAll z xss = [] := by unfold pMinAll; rw [if_neg hg]
      show MakesRR R w []
      rw [← e]; exact H'.o
    replace hg := Hd.i hg
    by_cases hz1 : 1 < z
    · go_enter Try.func46, Try.ntmps46
      go_wp2
      go_loopw [5, 6] (fun v yv wr => v = .slice (some ⟨w.heap.size, 0, none⟩) 0 0 ∧ yv = .int .i64 1 ∧ wr = w.alloc (.cells #[] 22)) (fun _ _ _ => 0)
      case atStart => exact ⟨rfl, rfl, rfl⟩
      case round =>
        obtain ⟨rfl, rfl, rfl⟩ := hrel
        go_wp2_with (first | (go_at_call 52; refine specGenSet_c z _ _ _ xss _ (hm.up ((Below.refl _ _).alloc (Nat.le_refl _) _)) ?_; intro w2 hd2; rw [hdec.o]))
        exact hf.o _ _ _ [] _ (hd2.up ((Below.refl _ _).alloc (Nat.le_refl _) _)) (hd2.ownRR (OwnRR.emptyLit _ (Nat.le_refl _)))
    · go_enter Try.func46, Try.ntmps46
      go_wp2
      go_loopw [5, 6] (fun v yv wr => v = .slice (some ⟨w.heap.size, 0, none⟩) 0 0 ∧ yv = .int .i64 1 ∧ wr = w.alloc (.cells #[] 22)) (fun _ _ _ => 0)
      case atStart => exact ⟨rfl, rfl, rfl⟩
      case round =>
        obtain ⟨rfl, rfl, rfl⟩ := hrel
        go_wp2
        exact hf.o _ _ _ [] _ ((Below.refl _ _).alloc (Nat.le_refl _) _) (OwnRR.emptyLit _ (Nat.le_refl _))
end Go.Proofs.Ytiekjklhojmnoaa
