/- Block systems: the program's classOf. -/
import Derived.Test.YtiekjklhojmnoaaBlkS
import Derived.Test.YtiekjklhojmnoaaLibS
namespace Go.Proofs.Ytiekjklhojmnoaa
open Go.RowKit

theorem implPointD_c {R : Ending → World → Prop} (d : Nat) (x : Int) (w : World) (h1 : 1 ≤ d) (h2 : d ≤ 20) (H : R (.returned (.bool (decide (0 ≤ x ∧ x < d)))) w) : Calls Try.prog 64 #[.int .i64 d, .int .i64 x] w R := by
  have H' := Hd.i H; clear H
  go_enter Try.func64, Try.ntmps64
  go_wp2_with (go_at_call 82; refine within_c _ _ _ _ (fun h => ?_) (fun h => ?_) <;> replace h := Hd.i h)
  · exact retB H' (decide_eq_true (by have := h.o; omega))
  · exact retB H' (decide_eq_false (by have := h.o; omega))

theorem part_contains {d : Nat} {bs : List (List Int)} (h : PartTo d bs bs.length) : (clM d bs bs.flatten (-1)).contains (-1) = !(partB d bs) := by
  have hnd := h.nd
  have hset := h.set
  rw [List.take_length] at hnd hset
  have hr : ∀ x ∈ bs.flatten, 0 ≤ x ∧ x < (d : Int) := fun x hx => by
    obtain ⟨b, hb, hxb⟩ := List.mem_flatten.1 hx
    exact (hset b hb).2 x hxb
  by_cases hP : Part d bs
  · rw [partB_true hP, clM_full hP]
    have : (-1 : Int) ∉ cls d bs := by
      intro hm
      unfold cls at hm
      obtain ⟨x, _, e⟩ := List.mem_map.1 hm
      omega
    simpa using this
  · rw [partB_false hP]
    have hex : ∃ x : Int, (0 ≤ x ∧ x < (d : Int)) ∧ x ∉ bs.flatten := by
      apply Classical.byContradiction
      intro hno
      refine hP (h.full (Nat.le_antisymm (seenB_len hnd hr) ?_))
      have hsub := (idl_nodup d).length_le_of_subset (l₂ := bs.flatten) fun x hx => by
        apply Classical.byContradiction
        intro hn
        exact hno ⟨x, mem_idl.1 hx, hn⟩
      rwa [idl_length] at hsub
    obtain ⟨x, hx, hn⟩ := hex
    have : (-1 : Int) ∈ clM d bs bs.flatten (-1) := by
      unfold clM
      exact List.mem_map.2 ⟨x, mem_idl.2 hx, by rw [if_neg hn]⟩
    simpa using this
theorem PtSet.take {d : Nat} {ps : List Int} (h : PtSet d ps) (k : Nat) : PtSet d (ps.take k) := ⟨h.1.sublist (List.take_sublist _ _), fun x hx => h.2 x (List.mem_of_mem_take hx)⟩

set_option maxRecDepth 100000 in
set_option maxHeartbeats 8000000 in
theorem implClass_c {K : Ending → World → Prop} (d : Nat) (a : Option Addr) (n cap : Nat) (bs : List (List Int)) (w : World) (h1 : 1 ≤ d) (h2 : d ≤ 20) (hm : Mat w a n bs)
    (H : Part d bs → MakesIB K w (cls d bs) true) (H0 : ¬ Part d bs → ∀ a n c w', Below w.heap.size w w' → K (.returned (.tuple #[.slice a n c, .bool false])) w') :
    Calls Try.prog 83 #[.int .i64 d, .slice a n cap] w K := by
  have H' := Hd.i H; clear H
  have H0' := Hd.i H0; clear H0
  have hln := Hd.i hm.length
  have hle := hm.le
  have hbl := (Below.refl w.heap.size w).alloc (Nat.le_refl _) (.cells #[.int .i64 (-1)] 2)
  have hil : Ints (w.alloc (.cells #[.int .i64 (-1)] 2)) (some ⟨w.heap.size, 0, none⟩) 1 [-1] := ⟨Vals.lit w [.int .i64 (-1)] _ (by simp), by simp⟩
  go_enter Try.func83, Try.ntmps83
  go_wp2_with fail
  refine repeat_c d _ _ _ _ h1 h2 hil ?_
  intro a2 n2 c2 w2 hb2 ho2
  obtain rfl : n2 = d := by rw [← ho2.length]; simp
  have hb02 := below_ups hbl hb2 hbl.size
  have hoA : OwnI w2 (w.heap.size + 1) a2 n2 c2 (clM n2 bs (seenB bs 0 0) (-1)) := by rw [seenB_zero, List.take_zero, List.flatten_nil, clM_nil]; simpa using ho2
  obtain ⟨g, _, rfl, hgB, hgl, _, _, _⟩ := hoA.look (k := 0) (by omega)
  have hgw : w.heap.size ≤ g := by omega
  clear ho2 hil hbl hb2
  go_wp2
  go_loopw [16] (fun iv wr => ∃ i : Nat, i ≤ n ∧ iv = .int .i64 i ∧ OwnI wr w.heap.size (some ⟨g, 0, none⟩) n2 c2 (clM n2 bs (seenB bs i 0) (-1)) ∧ Below w.heap.size w wr ∧ Hd (PartTo n2 bs i)) (fun iv _ => n - (intOf iv).toNat)
  case atStart => exact ⟨0, Nat.zero_le _, rfl, hoA.mono (by omega), hb02, .zero n2 bs⟩
  case round =>
    clear hoA hb02 hgB hgl
    obtain ⟨i, hi, rfl, ho, hb, hto⟩ := hrel
    by_cases hlt : i < n
    · obtain ⟨b, off, a5, n5, c5, blk, rfl, hbb, hcell0, hy, hI0, hc5⟩ := hm.at hlt
      have hcell := keep1 hcell0 hb
      have hI := hI0.up hb
      have hl5 := Hd.i hI0.length
      have hle5 := hI0.le
      by_cases hn0 : n5 = 0
      · subst hn0
        have hf := Hd.i (show ¬ Part n2 bs from fun hP => hP.ne blk (List.mem_of_getElem? hy.o) (List.eq_nil_of_length_eq_zero hl5.o))
        go_wp2
        go_quiet (fail)
        go_wp2
        exact H0'.o hf.o _ _ _ _ (hb.trans (((Drew.refl wr).step nq).below _))
      · have hz5 : ((n5 : Int) == 0) = false := by simp; omega
        have hne := Hd.i (show blk ≠ [] from fun e => hn0 (by rw [← hl5.o, e]; rfl))
        replace hn0 := Hd.i hn0
        by_cases hi0 : i = 0
        · have q1 : decide (0 < i) = false := decide_eq_false (by omega)
          have hord := Hd.i (show ∀ c, 0 < i → bs[i - 1]? = some c → at0 c 0 < at0 blk 0 from fun c h => by omega)
          replace hi0 := Hd.i hi0
          go_wp2
          go_quiet (fail)
          have hoS : OwnI (wr.drewN nq) w.heap.size (some ⟨g, 0, none⟩) n2 c2 (clM n2 bs (seenB bs i 0) (-1)) := ho.drewN nq
          have hbS := hb.trans (((Drew.refl wr).step nq).below _)
          clear q1
          go_wp2
          go_loopw [43] (fun kv wk => ∃ k : Nat, k ≤ n5 ∧ kv = .int .i64 k ∧ OwnI wk w.heap.size (some ⟨g, 0, none⟩) n2 c2 (clM n2 bs (seenB bs i k) (-1)) ∧ Below w.heap.size w wk ∧ Hd ((seenB bs i k).Nodup) ∧ Hd (PtSet n2 (blk.take k))) (fun kv _ => n5 - (intOf kv).toNat)
          case atStart => exact ⟨0, Nat.zero_le _, rfl, hoS, hbS, by rw [seenB_zero]; exact hto.o.nd, .nil _⟩
          case round =>
            clear hoS hbS ho hb hcell hI
            obtain ⟨k, hk, rfl, ho, hb, hnd, hpk⟩ := hrel
            have hI := hI0.up hb
            by_cases hltk : k < n5
            · obtain ⟨b5, off5, x, e5', hb5, hcx, hx, hx1, hx2⟩ := hI.at hltk
              cases e5'
              have hsx := Hd.i (seenB_succ hy.o hx.o)
              by_cases hpt : 0 ≤ x ∧ x < (n2 : Int)
              · have hdecp := Hd.i (decide_eq_true hpt)
                have hxn : x.toNat < n2 := by omega
                obtain ⟨v, hcv, hfv, hv, _, _⟩ := ho.at' hxn
                have hv' : v = if x ∈ seenB bs i k then (ixB bs x : Int) else -1 := by
                  have := hv.o
                  rw [clM_get hpt.1 hpt.2] at this
                  exact (Option.some.inj this).symm
                by_cases hmem : x ∈ seenB bs i k
                · rw [if_pos hmem] at hv'
                  have hf := Hd.i (show ¬ Part n2 bs from fun hP => by
                    have h1 := hP.seen_nd hy.o (k + 1)
                    rw [hsx.o, List.nodup_append] at h1
                    exact h1.2.2 x hmem x (by simp) rfl)
                  have hvn : decide (0 ≤ v) = true := decide_eq_true (by omega)
                  replace hmem := Hd.i hmem
                  replace hv' := Hd.i hv'
                  replace hpt := Hd.i hpt
                  have p1 : 0 ≤ x := hpt.o.1
                  have p2 : x < (n2 : Int) := hpt.o.2
                  by_cases hk0 : k = 0
                  · have q1 : decide (0 < k) = false := decide_eq_false (by omega)
                    replace hk0 := Hd.i hk0
                    go_wp2_with (go_at_call 64; refine implPointD_c n2 x _ h1 h2 ?_; rw [hdecp.o])
                    exact H0'.o hf.o _ _ _ _ hb
                  · obtain ⟨b', off', y, e', _, hcy, hy', hy1, hy2⟩ := hI.at (k := k - 1) (by omega)
                    cases e'
                    have q1 : decide (0 < k) = true := decide_eq_true (by omega)
                    have q2 : IntKind.i64.wrap ((k : Int) - 1) = (k : Int) - 1 := IntWalk.i64_in _ (by omega)
                    have q3 : 0 ≤ (k : Int) - 1 := by omega
                    have q4 : ((k : Int) - 1).toNat = k - 1 := by omega
                    have q5 : (k : Int) - 1 < n5 := by omega
                    replace hk0 := Hd.i hk0
                    by_cases hyx : x ≤ y
                    · have hlq : decide (x ≤ y) = true := decide_eq_true hyx
                      go_wp2_with (go_at_call 64; refine implPointD_c n2 x _ h1 h2 ?_; rw [hdecp.o])
                      exact H0'.o hf.o _ _ _ _ hb
                    · have hlq : decide (x ≤ y) = false := decide_eq_false hyx
                      go_wp2_with (go_at_call 64; refine implPointD_c n2 x _ h1 h2 ?_; rw [hdecp.o])
                      exact H0'.o hf.o _ _ _ _ hb
                · rw [if_neg hmem] at hv'
                  subst hv'
                  have hnd2 : Hd ((seenB bs i (k + 1)).Nodup) := by
                    show ((seenB bs i (k + 1)).Nodup)
                    rw [hsx.o, List.nodup_append]
                    exact ⟨hnd.o, by simp, fun y hy z hz e => hmem (e.trans (List.mem_singleton.1 hz) ▸ hy)⟩
                  have hix : ixB bs x = i := ix_first hy.o (List.mem_of_getElem? hx.o) fun hm' => hmem (List.mem_append_left _ hm')
                  have ho2 : OwnI (wr.setCell ⟨g, x.toNat, none⟩ (.int .i64 i)) w.heap.size (some ⟨g, 0, none⟩) n2 c2 (clM n2 bs (seenB bs i (k + 1)) (-1)) := by
                    rw [hsx.o, ← clM_set hpt.1 hpt.2 hix]
                    exact ho.put (by omega) (by omega)
                  have hb2 := hb.setCell (p := ⟨g, x.toNat, none⟩) hgw (.int .i64 i)
                  replace hix := Hd.i hix
                  replace hmem := Hd.i hmem
                  have p1 : 0 ≤ x := hpt.1
                  have p2 : x < (n2 : Int) := hpt.2
                  by_cases hk0 : k = 0
                  · have q1 : decide (0 < k) = false := decide_eq_false (by omega)
                    have hpk2 := Hd.i (hpk.o.snoc hx.o hpt (fun y h => by omega))
                    replace hpt := Hd.i hpt
                    replace hk0 := Hd.i hk0
                    go_wp2_with (go_at_call 64; refine implPointD_c n2 x _ h1 h2 ?_; rw [hdecp.o])
                    exact ⟨⟨k + 1, by omega, by go_num, ho2, hb2, hnd2, hpk2⟩, by simp [intOf]; omega⟩
                  · obtain ⟨b', off', y, e', _, hcy, hy', hy1, hy2⟩ := hI.at (k := k - 1) (by omega)
                    cases e'
                    have hkp := Hd.i (show 0 < k by omega)
                    have q1 : decide (0 < k) = true := decide_eq_true (by omega)
                    have q2 : IntKind.i64.wrap ((k : Int) - 1) = (k : Int) - 1 := IntWalk.i64_in _ (by omega)
                    have q3 : 0 ≤ (k : Int) - 1 := by omega
                    have q4 : ((k : Int) - 1).toNat = k - 1 := by omega
                    have q5 : (k : Int) - 1 < n5 := by omega
                    replace hk0 := Hd.i hk0
                    by_cases hyx : x ≤ y
                    · have hf := Hd.i (show ¬ Part n2 bs from fun hP => by have := (hP.set blk (List.mem_of_getElem? hy.o)).lt hkp.o hy'.o hx.o; omega)
                      have hlq : decide (x ≤ y) = true := decide_eq_true hyx
                      replace hpt := Hd.i hpt
                      go_wp2_with (go_at_call 64; refine implPointD_c n2 x _ h1 h2 ?_; rw [hdecp.o])
                      exact H0'.o hf.o _ _ _ _ hb
                    · have hpk2 := Hd.i (hpk.o.snoc hx.o hpt (fun z h e => by have h2 := hy'.o; rw [e] at h2; cases h2; omega))
                      have hlq : decide (x ≤ y) = false := decide_eq_false hyx
                      replace hpt := Hd.i hpt
                      go_wp2_with (go_at_call 64; refine implPointD_c n2 x _ h1 h2 ?_; rw [hdecp.o])
                      exact ⟨⟨k + 1, by omega, by go_num, ho2, hb2, hnd2, hpk2⟩, by simp [intOf]; omega⟩
              · have hdecp := Hd.i (decide_eq_false hpt)
                have hf := Hd.i (show ¬ Part n2 bs from fun hP => hpt ((hP.set blk (List.mem_of_getElem? hy.o)).2 x (List.mem_of_getElem? hx.o)))
                replace hpt := Hd.i hpt
                go_wp2_with (go_at_call 64; refine implPointD_c n2 x _ h1 h2 ?_; rw [hdecp.o])
                exact H0'.o hf.o _ _ _ _ hb
            · obtain rfl : k = n5 := by omega
              have hps : PtSet n2 blk := by have := hpk.o; rwa [List.take_of_length_le (by rw [hl5.o]; exact Nat.le_refl _)] at this
              have hto2 := Hd.i (hto.o.succ hy.o hne.o hps hord.o (by have h := hnd.o; rw [← hl5.o, seenB_row hy.o] at h; exact h))
              have enx := seenB_next hy.o
              rw [hl5.o] at enx
              rw [enx] at ho
              replace enx := Hd.i enx
              replace hps := Hd.i hps
              clear hI
              go_wp2
              exact ⟨⟨i + 1, by omega, by go_num, ho, hb, hto2⟩, by simp [intOf]; omega⟩
        · obtain ⟨b', off', a6, n6, c6, prv, e', hbb', hcell6, hy6, hI6, hc6⟩ := hm.at (k := i - 1) (by omega)
          cases e'
          have hprm : prv ∈ bs.take i := by
            rw [List.mem_take_iff_getElem]
            obtain ⟨h3, h4⟩ := List.getElem?_eq_some_iff.1 hy6.o
            exact ⟨i - 1, by omega, h4⟩
          have hpne := hto.o.ne prv hprm
          have hl6 := hI6.length
          have hn6 : 0 < n6 := by have := List.length_pos_iff.2 hpne; omega
          obtain ⟨b6, off6, y, rfl, _, hcy0, hyy, hy1, hy2⟩ := hI6.at hn6
          obtain ⟨b5, off5, x, rfl, _, hcx0, hxx, hx1, hx2⟩ := hI0.at (k := 0) (by have := hn0.o; omega)
          have hcy : wr.cell? ⟨b6, off6, none⟩ = some (.int .i64 y) := by simpa using keep1 hcy0 hb
          have hcx : wr.cell? ⟨b5, off5, none⟩ = some (.int .i64 x) := by simpa using keep1 hcx0 hb
          have hcell6' := keep1 hcell6 hb
          have e5 : at0 blk 0 = x := at0_of (by simpa using hxx.o)
          have e6 : at0 prv 0 = y := at0_of (by simpa using hyy.o)
          have hn5p : 0 < n5 := by have := hn0.o; omega
          have q1 : decide (0 < i) = true := decide_eq_true (by omega)
          have q2 : IntKind.i64.wrap ((i : Int) - 1) = (i : Int) - 1 := IntWalk.i64_in _ (by omega)
          have q3 : 0 ≤ (i : Int) - 1 := by omega
          have q4 : ((i : Int) - 1).toNat = i - 1 := by omega
          have q5 : (i : Int) - 1 < n := by omega
          replace hi0 := Hd.i hi0
          replace hprm := Hd.i hprm
          replace hpne := Hd.i hpne
          replace hl6 := Hd.i hl6
          replace e5 := Hd.i e5
          replace e6 := Hd.i e6
          clear hcy0 hcx0 hcell6
          by_cases hxy : x ≤ y
          · have hf := Hd.i (show ¬ Part n2 bs from fun hP => by
              have := hP.ord (i - 1) prv blk hy6.o (by have := hi0.o; rw [show i - 1 + 1 = i by omega]; exact hy.o)
              rw [e5.o, e6.o] at this; omega)
            have hlq : decide (x ≤ y) = true := decide_eq_true hxy
            go_wp2
            go_quiet (fail)
            clear q2 q3 q4 q5
            go_wp2
            exact H0'.o hf.o _ _ _ _ (hb.trans (((Drew.refl wr).step nq).below _))
          · have hlq : decide (x ≤ y) = false := decide_eq_false hxy
            have hord := Hd.i (show ∀ c, 0 < i → bs[i - 1]? = some c → at0 c 0 < at0 blk 0 from fun c _ e => by
              rw [hy6.o] at e; cases e
              rw [e5.o, e6.o]; omega)
            go_wp2
            go_quiet (fail)
            have hoS : OwnI (wr.drewN nq) w.heap.size (some ⟨g, 0, none⟩) n2 c2 (clM n2 bs (seenB bs i 0) (-1)) := ho.drewN nq
            have hbS := hb.trans (((Drew.refl wr).step nq).below _)
            clear q1 q2 q3 q4 q5 hlq hcy hcx hcell6' hxy hy1 hy2 hx1 hx2
            go_wp2
            go_loopw [43] (fun kv wk => ∃ k : Nat, k ≤ n5 ∧ kv = .int .i64 k ∧ OwnI wk w.heap.size (some ⟨g, 0, none⟩) n2 c2 (clM n2 bs (seenB bs i k) (-1)) ∧ Below w.heap.size w wk ∧ Hd ((seenB bs i k).Nodup) ∧ Hd (PtSet n2 (blk.take k))) (fun kv _ => n5 - (intOf kv).toNat)
            case atStart => exact ⟨0, Nat.zero_le _, rfl, hoS, hbS, by rw [seenB_zero]; exact hto.o.nd, .nil _⟩
            case round =>
              clear hoS hbS ho hb hcell hI
              obtain ⟨k, hk, rfl, ho, hb, hnd, hpk⟩ := hrel
              have hI := hI0.up hb
              by_cases hltk : k < n5
              · obtain ⟨b5, off5, x, e5', hb5, hcx, hx, hx1, hx2⟩ := hI.at hltk
                cases e5'
                have hsx := Hd.i (seenB_succ hy.o hx.o)
                by_cases hpt : 0 ≤ x ∧ x < (n2 : Int)
                · have hdecp := Hd.i (decide_eq_true hpt)
                  have hxn : x.toNat < n2 := by omega
                  obtain ⟨v, hcv, hfv, hv, _, _⟩ := ho.at' hxn
                  have hv' : v = if x ∈ seenB bs i k then (ixB bs x : Int) else -1 := by
                    have := hv.o
                    rw [clM_get hpt.1 hpt.2] at this
                    exact (Option.some.inj this).symm
                  by_cases hmem : x ∈ seenB bs i k
                  · rw [if_pos hmem] at hv'
                    have hf := Hd.i (show ¬ Part n2 bs from fun hP => by
                      have h1 := hP.seen_nd hy.o (k + 1)
                      rw [hsx.o, List.nodup_append] at h1
                      exact h1.2.2 x hmem x (by simp) rfl)
                    have hvn : decide (0 ≤ v) = true := decide_eq_true (by omega)
                    replace hmem := Hd.i hmem
                    replace hv' := Hd.i hv'
                    replace hpt := Hd.i hpt
                    have p1 : 0 ≤ x := hpt.o.1
                    have p2 : x < (n2 : Int) := hpt.o.2
                    by_cases hk0 : k = 0
                    · have q1 : decide (0 < k) = false := decide_eq_false (by omega)
                      replace hk0 := Hd.i hk0
                      go_wp2_with (go_at_call 64; refine implPointD_c n2 x _ h1 h2 ?_; rw [hdecp.o])
                      exact H0'.o hf.o _ _ _ _ hb
                    · obtain ⟨b', off', y, e', _, hcy, hy', hy1, hy2⟩ := hI.at (k := k - 1) (by omega)
                      cases e'
                      have q1 : decide (0 < k) = true := decide_eq_true (by omega)
                      have q2 : IntKind.i64.wrap ((k : Int) - 1) = (k : Int) - 1 := IntWalk.i64_in _ (by omega)
                      have q3 : 0 ≤ (k : Int) - 1 := by omega
                      have q4 : ((k : Int) - 1).toNat = k - 1 := by omega
                      have q5 : (k : Int) - 1 < n5 := by omega
                      replace hk0 := Hd.i hk0
                      by_cases hyx : x ≤ y
                      · have hlq : decide (x ≤ y) = true := decide_eq_true hyx
                        go_wp2_with (go_at_call 64; refine implPointD_c n2 x _ h1 h2 ?_; rw [hdecp.o])
                        exact H0'.o hf.o _ _ _ _ hb
                      · have hlq : decide (x ≤ y) = false := decide_eq_false hyx
                        go_wp2_with (go_at_call 64; refine implPointD_c n2 x _ h1 h2 ?_; rw [hdecp.o])
                        exact H0'.o hf.o _ _ _ _ hb
                  · rw [if_neg hmem] at hv'
                    subst hv'
                    have hnd2 : Hd ((seenB bs i (k + 1)).Nodup) := by
                      show ((seenB bs i (k + 1)).Nodup)
                      rw [hsx.o, List.nodup_append]
                      exact ⟨hnd.o, by simp, fun y hy z hz e => hmem (e.trans (List.mem_singleton.1 hz) ▸ hy)⟩
                    have hix : ixB bs x = i := ix_first hy.o (List.mem_of_getElem? hx.o) fun hm' => hmem (List.mem_append_left _ hm')
                    have ho2 : OwnI (wr.setCell ⟨g, x.toNat, none⟩ (.int .i64 i)) w.heap.size (some ⟨g, 0, none⟩) n2 c2 (clM n2 bs (seenB bs i (k + 1)) (-1)) := by
                      rw [hsx.o, ← clM_set hpt.1 hpt.2 hix]
                      exact ho.put (by omega) (by omega)
                    have hb2 := hb.setCell (p := ⟨g, x.toNat, none⟩) hgw (.int .i64 i)
                    replace hix := Hd.i hix
                    replace hmem := Hd.i hmem
                    have p1 : 0 ≤ x := hpt.1
                    have p2 : x < (n2 : Int) := hpt.2
                    by_cases hk0 : k = 0
                    · have q1 : decide (0 < k) = false := decide_eq_false (by omega)
                      have hpk2 := Hd.i (hpk.o.snoc hx.o hpt (fun y h => by omega))
                      replace hpt := Hd.i hpt
                      replace hk0 := Hd.i hk0
                      go_wp2_with (go_at_call 64; refine implPointD_c n2 x _ h1 h2 ?_; rw [hdecp.o])
                      exact ⟨⟨k + 1, by omega, by go_num, ho2, hb2, hnd2, hpk2⟩, by simp [intOf]; omega⟩
                    · obtain ⟨b', off', y, e', _, hcy, hy', hy1, hy2⟩ := hI.at (k := k - 1) (by omega)
                      cases e'
                      have hkp := Hd.i (show 0 < k by omega)
                      have q1 : decide (0 < k) = true := decide_eq_true (by omega)
                      have q2 : IntKind.i64.wrap ((k : Int) - 1) = (k : Int) - 1 := IntWalk.i64_in _ (by omega)
                      have q3 : 0 ≤ (k : Int) - 1 := by omega
                      have q4 : ((k : Int) - 1).toNat = k - 1 := by omega
                      have q5 : (k : Int) - 1 < n5 := by omega
                      replace hk0 := Hd.i hk0
                      by_cases hyx : x ≤ y
                      · have hf := Hd.i (show ¬ Part n2 bs from fun hP => by have := (hP.set blk (List.mem_of_getElem? hy.o)).lt hkp.o hy'.o hx.o; omega)
                        have hlq : decide (x ≤ y) = true := decide_eq_true hyx
                        replace hpt := Hd.i hpt
                        go_wp2_with (go_at_call 64; refine implPointD_c n2 x _ h1 h2 ?_; rw [hdecp.o])
                        exact H0'.o hf.o _ _ _ _ hb
                      · have hpk2 := Hd.i (hpk.o.snoc hx.o hpt (fun z h e => by have h2 := hy'.o; rw [e] at h2; cases h2; omega))
                        have hlq : decide (x ≤ y) = false := decide_eq_false hyx
                        replace hpt := Hd.i hpt
                        go_wp2_with (go_at_call 64; refine implPointD_c n2 x _ h1 h2 ?_; rw [hdecp.o])
                        exact ⟨⟨k + 1, by omega, by go_num, ho2, hb2, hnd2, hpk2⟩, by simp [intOf]; omega⟩
                · have hdecp := Hd.i (decide_eq_false hpt)
                  have hf := Hd.i (show ¬ Part n2 bs from fun hP => hpt ((hP.set blk (List.mem_of_getElem? hy.o)).2 x (List.mem_of_getElem? hx.o)))
                  replace hpt := Hd.i hpt
                  go_wp2_with (go_at_call 64; refine implPointD_c n2 x _ h1 h2 ?_; rw [hdecp.o])
                  exact H0'.o hf.o _ _ _ _ hb
              · obtain rfl : k = n5 := by omega
                have hps : PtSet n2 blk := by have := hpk.o; rwa [List.take_of_length_le (by rw [hl5.o]; exact Nat.le_refl _)] at this
                have hto2 := Hd.i (hto.o.succ hy.o hne.o hps hord.o (by have h := hnd.o; rw [← hl5.o, seenB_row hy.o] at h; exact h))
                have enx := seenB_next hy.o
                rw [hl5.o] at enx
                rw [enx] at ho
                replace enx := Hd.i enx
                replace hps := Hd.i hps
                clear hI
                go_wp2
                exact ⟨⟨i + 1, by omega, by go_num, ho, hb, hto2⟩, by simp [intOf]; omega⟩
    · obtain rfl : i = n := by omega
      have hto2 : PartTo n2 bs bs.length := by rw [hln.o]; exact hto.o
      have e : clM n2 bs (seenB bs i 0) (-1) = clM n2 bs bs.flatten (-1) := by
        rw [seenB_zero, List.take_of_length_le (by have := hln.o; omega)]
      rw [e] at ho
      have hpc := part_contains hto2
      replace e := Hd.i e
      replace hto2 := Hd.i hto2
      by_cases hP : Part n2 bs
      · rw [partB_true hP] at hpc
        replace hpc := Hd.i hpc
        replace hP := Hd.i hP
        go_wp2_with fail
        refine contains_c _ _ _ _ _ _ ho.ints ?_
        rw [hpc.o]
        go_wp2
        exact H'.o hP.o _ _ _ _ hb (by have := ho; rwa [clM_full hP.o] at this)
      · rw [partB_false hP] at hpc
        replace hpc := Hd.i hpc
        replace hP := Hd.i hP
        go_wp2_with fail
        refine contains_c _ _ _ _ _ _ ho.ints ?_
        rw [hpc.o]
        go_wp2
        exact H0'.o hP.o _ _ _ _ hb
end Go.Proofs.Ytiekjklhojmnoaa
