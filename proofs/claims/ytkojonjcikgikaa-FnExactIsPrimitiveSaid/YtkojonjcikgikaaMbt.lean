/- MinimalBlockSystems: the tops. -/
import Derived.Test.YtkojonjcikgikaaMbs
namespace Go.Proofs.Ytkojonjcikgikaa
open Go.RowKit

/-- The block systems found with the points 1 .. k. -/
noncomputable def minTo (d : Nat) (xss : List (List Int)) : Nat → List (List (List Int))
  | 0 => []
  | k + 1 => if 1 < (pMin d xss 0 ((k + 1 : Nat) : Int)).length ∧ pMin d xss 0 ((k + 1 : Nat) : Int) ∉ minTo d xss k then minTo d xss k ++ [pMin d xss 0 ((k + 1 : Nat) : Int)] else minTo d xss k
noncomputable def pMinAll (z : Int) (xss : List (List Int)) : List (List (List Int)) := if GenSet z xss then minTo z.toNat xss (z.toNat - 1) else []
theorem minTo_yes {d : Nat} {xss : List (List Int)} {y : Nat} (hy : 1 ≤ y) (h1 : 1 < (pMin d xss 0 (y : Int)).length) (h2 : pMin d xss 0 (y : Int) ∉ minTo d xss (y - 1)) : minTo d xss (y + 1 - 1) = minTo d xss (y - 1) ++ [pMin d xss 0 (y : Int)] := by
  obtain ⟨k, rfl⟩ : ∃ k, y = k + 1 := ⟨y - 1, by omega⟩
  rw [Nat.add_sub_cancel, Nat.add_sub_cancel] at *
  rw [minTo, if_pos ⟨h1, h2⟩]
theorem minTo_no {d : Nat} {xss : List (List Int)} {y : Nat} (hy : 1 ≤ y) (h : ¬ (1 < (pMin d xss 0 (y : Int)).length ∧ pMin d xss 0 (y : Int) ∉ minTo d xss (y - 1))) : minTo d xss (y + 1 - 1) = minTo d xss (y - 1) := by
  obtain ⟨k, rfl⟩ : ∃ k, y = k + 1 := ⟨y - 1, by omega⟩
  rw [Nat.add_sub_cancel, Nat.add_sub_cancel] at *
  rw [minTo, if_neg h]
theorem minTo_len (d : Nat) (xss : List (List Int)) : ∀ k, (minTo d xss k).length ≤ k ∧ cells3 (minTo d xss k) ≤ k * (d * d)
  | 0 => by simp [minTo, cells3]
  | k + 1 => by
    obtain ⟨h1, h2⟩ := minTo_len d xss k
    rw [minTo]
    split
    · refine ⟨by rw [List.length_append, List.length_singleton]; omega, ?_⟩
      have h3 := blks_cells (Cg d xss fun i j => i = 0 ∧ j = ((k + 1 : Nat) : Int)) d
      unfold cells3 at h2 ⊢
      rw [List.map_append, List.sum_append, Nat.add_mul, Nat.one_mul]
      have e : ([pMin d xss 0 ((k + 1 : Nat) : Int)].map cells).sum = cells (pMin d xss 0 ((k + 1 : Nat) : Int)) := by simp
      rw [e]
      have h4 : cells (pMin d xss 0 ((k + 1 : Nat) : Int)) ≤ d * d := h3
      omega
    · refine ⟨by omega, ?_⟩
      rw [Nat.add_mul]
      omega
theorem pMinAll_cells (z : Int) (xss : List (List Int)) : cells3 (pMinAll z xss) ≤ 8000 := by
  unfold pMinAll
  split
  · rename_i h
    have hz : z.toNat ≤ 20 := by have := h.2.1; omega
    refine Nat.le_trans (minTo_len _ _ _).2 ?_
    have h1 : z.toNat * z.toNat ≤ 20 * 20 := Nat.mul_le_mul hz hz
    exact Nat.mul_le_mul (by omega : z.toNat - 1 ≤ 20) h1
  · simp [cells3]
theorem pMin_pos {d : Nat} (h : 1 ≤ d) (xss : List (List Int)) (x y : Int) : 1 ≤ (pMin d xss x y).length := by
  unfold pMin blks
  rw [List.length_map]
  have h0 : (0 : Int) ∈ fstP (Cg d xss fun i j => i = x ∧ j = y) d := mem_fstP.2 ⟨by omega, fun y h1 h2 => by omega⟩
  exact List.length_pos_of_mem h0

set_option maxHeartbeats 2000000 in
set_option maxRecDepth 100000 in
theorem implMinAll_c {R : Ending → World → Prop} (z : Int) (a : Option Addr) (n cap : Nat) (xss : List (List Int)) (w : World) (hm : Mat w a n xss) (H : MakesRR R w (pMinAll z xss)) :
    Calls Try.prog 60 #[.int .i64 z, .slice a n cap] w R := by
  have H' := Hd.i H; clear H
  by_cases hg : GenSet z xss
  · have hdec := Hd.i (decide_eq_true hg)
    obtain ⟨d, rfl⟩ := genD hg
    have h1 : 1 ≤ d := by have := hg.1; omega
    have h2 : d ≤ 20 := by have := hg.2.1; omega
    have hH : Hd (MakesRR R w (minTo d xss (d - 1))) := by
      have e : pMinAll (d : Int) xss = minTo d xss (d - 1) := by unfold pMinAll; rw [if_pos hg, Int.toNat_natCast]
      show MakesRR R w (minTo d xss (d - 1))
      rw [← e]; exact H'.o
    have hgs := Hd.i (show Gs d xss from gsB hg)
    replace hg := Hd.i hg
    go_enter Try.func60, Try.ntmps60
    go_wp2_with (first | (go_at_call 78; refine implGenSet_c (d : Int) _ _ _ xss _ hm ?_; intro w1 hb1; rw [hdec.o]; have hm1 := hm.up hb1))
    have hs1 := hb1.size
    go_loopw [5, 6] (fun v yv wr => ∃ (y : Nat) (c : Option Addr) (m capc : Nat) (E : List Elt), 1 ≤ y ∧ y ≤ d ∧ yv = .int .i64 y ∧ v = .slice c m capc ∧ OwnRR wr w1.heap.size c m capc E (minTo d xss (y - 1)) ∧ Below w1.heap.size w1 wr) (fun _ yv _ => d - (intOf yv).toNat)
    case atStart => exact ⟨1, none, 0, 0, [], Nat.le_refl _, h1, rfl, rfl, OwnRR.nil _ _, Below.refl _ _⟩
    case round =>
      obtain ⟨y, c, m, capc, E, hy1, hyd, rfl, rfl, ho, hb⟩ := hrel
      have hsz := hb.size
      have hm2 := hm1.up hb
      by_cases hlt : y < d
      · have hml : m ≤ y := by have := ho.length; have := (minTo_len d xss (y - 1)).1; omega
        obtain ⟨B, hB⟩ : ∃ B, B = pMin d xss 0 (y : Int) := ⟨_, rfl⟩
        have hBl := pMin_pos h1 xss 0 (y : Int)
        rw [← hB] at hBl
        go_wp2_with fail
        refine implMin_c d _ _ _ xss 0 (y : Int) _ h1 h2 hm2 hgs (by omega) (by omega) ?_
        intro a3 n3 c3 hs3 w3 hb3 ho3
        rw [← hB] at ho3
        have hn3 := Hd.i ho3.length
        have hbx := below_ups hb hb3 hsz
        obtain ⟨ob, hob⟩ : ∃ o, o = Obj.cells #[.slice a3 n3 c3] 36 := ⟨_, rfl⟩
        have hcb : (w3.alloc ob).cell? ⟨w3.heap.size, 0, none⟩ = some (.slice a3 n3 c3) := by rw [hob, World.cell?_alloc_at _ _ _ _ rfl]; rfl
        have hb34 : Below w3.heap.size w3 (w3.alloc ob) := (Below.refl _ _).alloc (Nat.le_refl _) _
        have hba := below_ups hbx hb34 hbx.size
        have ho34 := ho3.up hb34
        have hl34 := (ho.up hb3).up hb34
        have hb4 := below_ups hb3 hb34 hb3.size
        rw [hob] at hcb hba ho34 hl34 hb4
        clear ho3 hbx hb34 hb3
        replace hob := Hd.i hob
        by_cases hlen : 1 < n3
        · by_cases hin : B ∈ minTo d xss (y - 1)
          · have hdc := Hd.i (decide_eq_true hin)
            have hst := Hd.i (minTo_no (d := d) (xss := xss) hy1 (fun h => h.2 (by rw [← hB]; exact hin)))
            replace hin := Hd.i hin
            replace hB := Hd.i hB
            go_wp2_with (first | (go_at_call 81; refine sysContains_c _ _ _ _ _ _ _ B _ _ hl34.rrows ho34.rows hcb ?_; intro w5 hd5; rw [hdc.o]))
            refine ⟨⟨y + 1, c, m, capc, E, by omega, by omega, by go_num, rfl, ?_, hd5.up hba⟩, by simp [intOf]; omega⟩
            rw [hst.o]
            exact hd5.ownRR hl34
          · have hdc := Hd.i (decide_eq_false hin)
            have hst := Hd.i (minTo_yes (d := d) (xss := xss) hy1 (by rw [← hB]; have := hn3.o; omega) (by rw [← hB]; exact hin))
            have c1' : (m + 1) * 24 ≤ 140737488355328 := by omega
            have c2' : m + 1 ≤ 281474976710656 := by omega
            replace hin := Hd.i hin
            replace hB := Hd.i hB
            have hsa := hba.size
            go_wp2_with fail
            refine sysContains_c _ _ _ _ _ _ _ B _ _ hl34.rrows ho34.rows hcb ?_
            intro w5 hd5
            rw [hdc.o]
            have hcb5 := hd5.cell hcb
            have hl5 := hd5.ownRR hl34
            have ho5 := hd5.ownR ho34
            have hb5 := hd5.up hb4
            have hba5 := hd5.up hba
            have hs5 := hba5.size
            clear hl34 ho34 hcb hba hb4 hsa
            go_wp2_with (first | (at_builtin; refine appendL_c rfl _ _ _ rfl w1.heap.size 36 (.slice none 0 0) 24 Try.underlying52 infoSl2 rfl _ _ _ _ rfl hl5.1 [.slice a3 n3 c3] 1 rfl rfl oneSlice c1' c2' hs5 ?_; intro a2 n2 cap2 w6 hn6 ho6 hg6 ha6))
            refine ⟨⟨y + 1, a2, n2, cap2, E ++ [((a3, n3, c3), hs3)], by omega, by omega, by go_num, rfl, ?_, hl5.grewBelow hg6 hba5 hs5⟩, by simp [intOf]; omega⟩
            rw [hst.o, ← hB.o]
            exact ho.snoc hb5 (e := ((a3, n3, c3), hs3)) ho5 hsz hg6 ho6 ha6.o
        · have hst := Hd.i (minTo_no (d := d) (xss := xss) hy1 (fun h => hlen (by have := h.1; rw [← hB] at this; have := hn3.o; omega)))
          replace hB := Hd.i hB
          go_wp2
          refine ⟨⟨y + 1, c, m, capc, E, by omega, by omega, by go_num, rfl, ?_, hba⟩, by simp [intOf]; omega⟩
          rw [hst.o]
          exact hl34
      · obtain rfl : y = d := by omega
        go_wp2
        exact hH.o _ _ _ E _ (below_ups hb1 hb hs1) (ho.mono hs1)
  · have hdec := Hd.i (decide_eq_false hg)
    have hf : Hd (MakesRR R w []) := by
      have e : pMinAll z xss = [] := by unfold pMinAll; rw [if_neg hg]
      show MakesRR R w []
      rw [← e]; exact H'.o
    replace hg := Hd.i hg
    go_enter Try.func60, Try.ntmps60
    go_wp2_with (go_at_call 78; refine implGenSet_c z _ _ _ xss _ hm ?_; intro w1 hb1; rw [hdec.o])
    exact hf.o _ _ _ [] _ hb1 (OwnRR.nil _ _)
theorem topImplMinimalBlockSystems {R : Ending → World → Prop} {B : Nat} (z : Int) (a : Option Addr) (n cap : Nat) (hs : List Hdr) (xss : List (List Int)) (w : World) (_ : -9223372036854775808 ≤ z ∧ z ≤ 9223372036854775807) (hm0 : OwnH w B a n cap hs xss)
    (H : MakesRR R w (pMinAll z xss)) : Calls Try.prog 60 #[.int .i64 z, .slice a n cap] w R := implMinAll_c z a n cap xss w hm0.rows H

end Go.Proofs.Ytkojonjcikgikaa
