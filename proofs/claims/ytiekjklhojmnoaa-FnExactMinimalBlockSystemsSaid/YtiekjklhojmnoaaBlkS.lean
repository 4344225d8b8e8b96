/- Block systems: the reference's tests. -/
import Derived.Test.YtiekjklhojmnoaaPureBlk
import Derived.Test.YtiekjklhojmnoaaPtSet
import Derived.Test.YtiekjklhojmnoaaPut
namespace Go.Proofs.Ytiekjklhojmnoaa
open Go.RowKit

open Classical in
noncomputable def partB (d : Nat) (bs : List (List Int)) : Bool := decide (Part d bs)
open Classical in
theorem partB_true {d : Nat} {bs : List (List Int)} (h : Part d bs) : partB d bs = true := by unfold partB; exact decide_eq_true h
open Classical in
theorem partB_false {d : Nat} {bs : List (List Int)} (h : ¬ Part d bs) : partB d bs = false := by unfold partB; exact decide_eq_false h
theorem seenB_len {d : Nat} {l : List Int} (hn : l.Nodup) (hr : ∀ y ∈ l, 0 ≤ y ∧ y < (d : Int)) : l.length ≤ d := by
  have := hn.length_le_of_subset (l₂ := idl d) fun y hy => mem_idl.2 (hr y hy)
  rwa [idl_length] at this
theorem seenB_rng {d : Nat} {bs : List (List Int)} {i k : Nat} {b : List Int} (h : PartTo d bs i) (hb : bs[i]? = some b) (hs : PtSet d b) : ∀ y ∈ seenB bs i k, 0 ≤ y ∧ y < (d : Int) := by
  intro y hy
  unfold seenB at hy
  rcases List.mem_append.1 hy with hy | hy
  · obtain ⟨c, hc, hyc⟩ := List.mem_flatten.1 hy
    exact (h.set c hc).2 y hyc
  · rw [List.getD_eq_getElem?_getD, hb, Option.getD_some] at hy
    exact hs.2 y (List.mem_of_mem_take hy)

set_option maxRecDepth 100000 in
set_option maxHeartbeats 4000000 in
theorem specPart_c {K : Ending → World → Prop} (d : Nat) (a : Option Addr) (n cap : Nat) (bs : List (List Int)) (w : World) (h1 : 1 ≤ d) (h2 : d ≤ 20) (hm : Mat w a n bs) (H : Gives K w (.bool (partB d bs))) :
    Calls Try.prog 73 #[.int .i64 d, .slice a n cap] w K := by
  have H' := Hd.i H; clear H
  have hln := Hd.i hm.length
  have hle := hm.le
  by_cases hnd : n ≤ d
  · have hdn : decide (d < n) = false := decide_eq_false (by omega)
    have hb0 := (Below.refl w.heap.size w).alloc (Nat.le_refl _) (.cells #[] 2)
    have ho0 := OwnI.emptyLit w (B := w.heap.size) (Nat.le_refl _)
    go_enter Try.func73, Try.ntmps73
    go_wp2
    go_loopw [5, 6] (fun v iv wr => ∃ (i : Nat) (c : Option Addr) (m capc : Nat), i ≤ n ∧ iv = .int .i64 i ∧ v = .slice c m capc ∧ OwnI wr w.heap.size c m capc ((bs.take i).flatten) ∧ Below w.heap.size w wr ∧ Hd (PartTo d bs i)) (fun _ iv _ => n - (intOf iv).toNat)
    case atStart => exact ⟨0, _, 0, 0, Nat.zero_le _, rfl, rfl, by simpa using ho0, hb0, .zero d bs⟩
    case round =>
      clear ho0 hb0
      obtain ⟨i, c, m, capc, hi, rfl, rfl, ho, hb, hto⟩ := hrel
      by_cases hlt : i < n
      · obtain ⟨b, off, a5, n5, c5, blk, rfl, hbb, hcell0, hy, hI0, hc5⟩ := hm.at hlt
        have hcell := keep1 hcell0 hb
        have hI := hI0.up hb
        have hl5 := Hd.i hI0.length
        have hle5 := hI0.le
        by_cases hn0 : n5 = 0
        · subst hn0
          have hf := Hd.i (partB_false (d := d) (bs := bs) fun hP => hP.ne blk (List.mem_of_getElem? hy.o) (List.eq_nil_of_length_eq_zero hl5.o))
          go_wp2
          go_quiet (fail)
          go_wp2
          exact retB (H'.o _ (hb.trans (((Drew.refl wr).step nq).below _))) hf.o
        · have hz5 : ((n5 : Int) == 0) = false := by simp; omega
          have hne := Hd.i (show blk ≠ [] from fun e => hn0 (by rw [← hl5.o, e]; rfl))
          replace hn0 := Hd.i hn0
          by_cases hpset : PtSet d blk
          · have hpt := Hd.i (ptB_true hpset)
            have hps := Hd.i hpset
            clear hpset
            by_cases hi0 : i = 0
            · have q1 : decide (0 < i) = false := decide_eq_false (by omega)
              have hord := Hd.i (show ∀ c, 0 < i → bs[i - 1]? = some c → at0 c 0 < at0 blk 0 from fun c h => by omega)
              replace hi0 := Hd.i hi0
              go_wp2
              go_quiet ((go_at_call 106; exact Calls.quiet_of (specPtSet_c d _ _ _ blk _ h1 h2 (hI.drewN _) (by intro w' hd'; exact ⟨by rw [hpt.o], hd'⟩))))
              have hoS : OwnI (wr.drewN nq) w.heap.size c m capc (seenB bs i 0) := by rw [seenB_zero]; exact ho.drewN nq
              have hbS := hb.trans (((Drew.refl wr).step nq).below _)
              go_wp2
              obtain ⟨wo, hwo⟩ : ∃ wo, wo = wr := ⟨wr, rfl⟩
              go_loopw [5, 7] (fun v kv wk => ∃ (k : Nat) (c : Option Addr) (m capc : Nat), k ≤ n5 ∧ kv = .int .i64 k ∧ v = .slice c m capc ∧ OwnI wk w.heap.size c m capc (seenB bs i k) ∧ Below w.heap.size w wk ∧ Hd ((seenB bs i k).Nodup)) (fun _ kv _ => n5 - (intOf kv).toNat)
              case atStart => exact ⟨0, _, _, _, Nat.zero_le _, rfl, rfl, hoS, hbS, by rw [seenB_zero]; exact hto.o.nd⟩
              case round =>
                clear hoS hbS ho hb hcell hI
                obtain ⟨k, c, m, capc, hk, rfl, rfl, ho, hb, hnd⟩ := hrel
                have hcell := keep1 hcell0 hb
                have hI := hI0.up hb
                have hs := hb.size
                by_cases hltk : k < n5
                · obtain ⟨b5, off5, x, e5', hb5, hcx, hx, hx1, hx2⟩ := hI.at hltk
                  cases e5'
                  have hsx := Hd.i (seenB_succ hy.o hx.o)
                  have hml := Hd.i ho.length
                  have hm800 : m ≤ 800 := by
                    have h1 := seenB_len (d := d) hnd.o fun y hy' => seenB_rng hto.o hy.o hps.o y hy'
                    have := hml.o; omega
                  cases hmem : (seenB bs i k).contains x with
                  | true =>
                    have hf := Hd.i (partB_false (d := d) (bs := bs) fun hP => by
                      have h1 := hP.seen_nd hy.o (k + 1)
                      rw [hsx.o, List.nodup_append] at h1
                      exact h1.2.2 x (by simpa using hmem) x (by simp) rfl)
                    go_wp2_with fail
                    refine containsInt_c _ _ _ (seenB bs i k) x _ ho.ints ?_
                    rw [hmem]
                    go_wp2
                    exact retB (H'.o _ hb) hf.o
                  | false =>
                    have hnd2 : Hd ((seenB bs i (k + 1)).Nodup) := by
                      show ((seenB bs i (k + 1)).Nodup)
                      rw [hsx.o, List.nodup_append]
                      refine ⟨hnd.o, by simp, fun y hy z hz e => ?_⟩
                      have hyx : y = x := e.trans (List.mem_singleton.1 hz)
                      have hcx' : (seenB bs i k).contains x = true := by rw [← hyx]; simpa using hy
                      rw [hmem] at hcx'; cases hcx'
                    have k1 : (m + 1) * 8 ≤ 140737488355328 := by omega
                    have k2 : m + 1 ≤ 281474976710656 := by omega
                    go_wp2_with fail
                    refine containsInt_c _ _ _ (seenB bs i k) x _ ho.ints ?_
                    rw [hmem]
                    go_wp2_with (at_builtin; refine appendL_c rfl _ _ _ rfl w.heap.size 2 (.int .i64 0) 8 Try.underlying23 infoInt rfl _ _ _ _ rfl ho.1 [.int .i64 x] 1 rfl rfl oneInt k1 k2 hs ?_; intro a2 n2 cap2 w2 hn2 ho2 hg2 ha2)
                    exact ⟨⟨k + 1, a2, n2, cap2, by omega, by go_num, rfl, by rw [hsx.o]; exact OwnI.snoc ho2 ho.2 hx1 hx2, ho.grewBelow hg2 hb hs, hnd2⟩, by simp [intOf]; omega⟩
                · obtain rfl : k = n5 := by omega
                  have hto2 := Hd.i (hto.o.succ hy.o hne.o hps.o hord.o (by have h := hnd.o; rw [← hl5.o, seenB_row hy.o] at h; exact h))
                  have enx := seenB_next hy.o
                  rw [hl5.o, seenB_zero] at enx
                  rw [enx] at ho
                  replace enx := Hd.i enx
                  clear hI
                  go_wp2
                  exact ⟨⟨i + 1, c, m, capc, by omega, by go_num, rfl, ho, hb, hto2⟩, by simp [intOf]; omega⟩
            · obtain ⟨b', off', a6, n6, c6, prv, e', hbb', hcell6, hy6, hI6, hc6⟩ := hm.at (k := i - 1) (by omega)
              cases e'
              have hprm : prv ∈ bs.take i := by
                rw [List.mem_take_iff_getElem]
                obtain ⟨h3, h4⟩ := List.getElem?_eq_some_iff.1 hy6.o
                exact ⟨i - 1, by omega, h4⟩
              have hpne := hto.o.ne prv hprm
              have hl6 := hI6.length
              have hn6 : 0 < n6 := by have := List.length_pos_iff.2 hpne; omega
              obtain ⟨b6, off6, y, rfl, _, hcy0, hyy, hy1, hy2⟩ := hI6.at hn6
              obtain ⟨b5, off5, x, rfl, _, hcx0, hxx, hx1, hx2⟩ := hI0.at (k := 0) (by have := hn0.o; omega)
              have hcy : wr.cell? ⟨b6, off6, none⟩ = some (.int .i64 y) := by simpa using keep1 hcy0 hb
              have hcx : wr.cell? ⟨b5, off5, none⟩ = some (.int .i64 x) := by simpa using keep1 hcx0 hb
              have hcell6' := keep1 hcell6 hb
              have e5 : at0 blk 0 = x := at0_of (by simpa using hxx.o)
              have e6 : at0 prv 0 = y := at0_of (by simpa using hyy.o)
              have hn5p : 0 < n5 := by have := hn0.o; omega
              have q1 : decide (0 < i) = true := decide_eq_true (by omega)
              have q2 : IntKind.i64.wrap ((i : Int) - 1) = (i : Int) - 1 := IntWalk.i64_in _ (by omega)
              have q3 : 0 ≤ (i : Int) - 1 := by omega
              have q4 : ((i : Int) - 1).toNat = i - 1 := by omega
              have q5 : (i : Int) - 1 < n := by omega
              replace hi0 := Hd.i hi0
              replace hprm := Hd.i hprm
              replace hpne := Hd.i hpne
              replace hl6 := Hd.i hl6
              replace e5 := Hd.i e5
              replace e6 := Hd.i e6
              clear hcy0 hcx0 hcell6
              by_cases hxy : x ≤ y
              · have hf := Hd.i (partB_false (d := d) (bs := bs) fun hP => by
                  have := hP.ord (i - 1) prv blk hy6.o (by have := hi0.o; rw [show i - 1 + 1 = i by omega]; exact hy.o)
                  rw [e5.o, e6.o] at this; omega)
                have hlq : decide (x ≤ y) = true := decide_eq_true hxy
                go_wp2
                go_quiet ((go_at_call 106; exact Calls.quiet_of (specPtSet_c d _ _ _ blk _ h1 h2 (hI.drewN _) (by intro w' hd'; exact ⟨by rw [hpt.o], hd'⟩))))
                clear q2 q3 q4 q5
                go_wp2
                exact retB (H'.o _ (hb.trans (((Drew.refl wr).step nq).below _))) hf.o
              · have hlq : decide (x ≤ y) = false := decide_eq_false hxy
                have hord := Hd.i (show ∀ c, 0 < i → bs[i - 1]? = some c → at0 c 0 < at0 blk 0 from fun c _ e => by
                  rw [hy6.o] at e; cases e
                  rw [e5.o, e6.o]; omega)
                go_wp2
                go_quiet ((go_at_call 106; exact Calls.quiet_of (specPtSet_c d _ _ _ blk _ h1 h2 (hI.drewN _) (by intro w' hd'; exact ⟨by rw [hpt.o], hd'⟩))))
                have hoS : OwnI (wr.drewN nq) w.heap.size c m capc (seenB bs i 0) := by rw [seenB_zero]; exact ho.drewN nq
                have hbS := hb.trans (((Drew.refl wr).step nq).below _)
                clear q1 q2 q3 q4 q5 hlq hcy hcx hcell6' hxy hy1 hy2 hx1 hx2
                go_wp2
                obtain ⟨wo, hwo⟩ : ∃ wo, wo = wr := ⟨wr, rfl⟩
                go_loopw [5, 7] (fun v kv wk => ∃ (k : Nat) (c : Option Addr) (m capc : Nat), k ≤ n5 ∧ kv = .int .i64 k ∧ v = .slice c m capc ∧ OwnI wk w.heap.size c m capc (seenB bs i k) ∧ Below w.heap.size w wk ∧ Hd ((seenB bs i k).Nodup)) (fun _ kv _ => n5 - (intOf kv).toNat)
                case atStart => exact ⟨0, _, _, _, Nat.zero_le _, rfl, rfl, hoS, hbS, by rw [seenB_zero]; exact hto.o.nd⟩
                case round =>
                  clear hoS hbS ho hb hcell hI
                  obtain ⟨k, c, m, capc, hk, rfl, rfl, ho, hb, hnd⟩ := hrel
                  have hcell := keep1 hcell0 hb
                  have hI := hI0.up hb
                  have hs := hb.size
                  by_cases hltk : k < n5
                  · obtain ⟨b5, off5, x, e5', hb5, hcx, hx, hx1, hx2⟩ := hI.at hltk
                    cases e5'
                    have hsx := Hd.i (seenB_succ hy.o hx.o)
                    have hml := Hd.i ho.length
                    have hm800 : m ≤ 800 := by
                      have h1 := seenB_len (d := d) hnd.o fun y hy' => seenB_rng hto.o hy.o hps.o y hy'
                      have := hml.o; omega
                    cases hmem : (seenB bs i k).contains x with
                    | true =>
                      have hf := Hd.i (partB_false (d := d) (bs := bs) fun hP => by
                        have h1 := hP.seen_nd hy.o (k + 1)
                        rw [hsx.o, List.nodup_append] at h1
                        exact h1.2.2 x (by simpa using hmem) x (by simp) rfl)
                      go_wp2_with fail
                      refine containsInt_c _ _ _ (seenB bs i k) x _ ho.ints ?_
                      rw [hmem]
                      go_wp2
                      exact retB (H'.o _ hb) hf.o
                    | false =>
                      have hnd2 : Hd ((seenB bs i (k + 1)).Nodup) := by
                        show ((seenB bs i (k + 1)).Nodup)
                        rw [hsx.o, List.nodup_append]
                        refine ⟨hnd.o, by simp, fun y hy z hz e => ?_⟩
                        have hyx : y = x := e.trans (List.mem_singleton.1 hz)
                        have hcx' : (seenB bs i k).contains x = true := by rw [← hyx]; simpa using hy
                        rw [hmem] at hcx'; cases hcx'
                      have k1 : (m + 1) * 8 ≤ 140737488355328 := by omega
                      have k2 : m + 1 ≤ 281474976710656 := by omega
                      go_wp2_with fail
                      refine containsInt_c _ _ _ (seenB bs i k) x _ ho.ints ?_
                      rw [hmem]
                      go_wp2_with (at_builtin; refine appendL_c rfl _ _ _ rfl w.heap.size 2 (.int .i64 0) 8 Try.underlying23 infoInt rfl _ _ _ _ rfl ho.1 [.int .i64 x] 1 rfl rfl oneInt k1 k2 hs ?_; intro a2 n2 cap2 w2 hn2 ho2 hg2 ha2)
                      exact ⟨⟨k + 1, a2, n2, cap2, by omega, by go_num, rfl, by rw [hsx.o]; exact OwnI.snoc ho2 ho.2 hx1 hx2, ho.grewBelow hg2 hb hs, hnd2⟩, by simp [intOf]; omega⟩
                  · obtain rfl : k = n5 := by omega
                    have hto2 := Hd.i (hto.o.succ hy.o hne.o hps.o hord.o (by have h := hnd.o; rw [← hl5.o, seenB_row hy.o] at h; exact h))
                    have enx := seenB_next hy.o
                    rw [hl5.o, seenB_zero] at enx
                    rw [enx] at ho
                    replace enx := Hd.i enx
                    clear hI
                    go_wp2
                    exact ⟨⟨i + 1, c, m, capc, by omega, by go_num, rfl, ho, hb, hto2⟩, by simp [intOf]; omega⟩
          · have hpt := Hd.i (ptB_false hpset)
            have hf := Hd.i (partB_false (d := d) (bs := bs) fun hP => hpset (hP.set blk (List.mem_of_getElem? hy.o)))
            replace hpset := Hd.i hpset
            go_wp2
            go_quiet ((go_at_call 106; exact Calls.quiet_of (specPtSet_c d _ _ _ blk _ h1 h2 (hI.drewN _) (by intro w' hd'; exact ⟨by rw [hpt.o], hd'⟩))))
            go_wp2
            exact retB (H'.o _ (hb.trans (((Drew.refl wr).step nq).below _))) hf.o
      · obtain rfl : i = n := by omega
        have hto2 : PartTo d bs bs.length := by rw [hln.o]; exact hto.o
        have hfl : (bs.take i).flatten = bs.flatten := by rw [List.take_of_length_le (by have := hln.o; omega)]
        have hml := ho.length
        rw [hfl] at hml
        have hval : ((m : Int) == (d : Int)) = partB d bs := by
          by_cases hmd : m = d
          · rw [partB_true (hto2.full (by rw [hml, hmd]))]; simp [hmd]
          · rw [partB_false fun hP => hmd (by rw [← hml]; exact hP.len)]; simp; omega
        replace hml := Hd.i hml
        replace hfl := Hd.i hfl
        replace hto2 := Hd.i hto2
        go_wp2
        exact H'.o _ hb
  · have hf := Hd.i (partB_false (d := d) (bs := bs) fun h => by have := h.le; have := hln.o; omega)
    go_enter Try.func73, Try.ntmps73
    go_wp2
    exact retB (H'.o _ (Below.refl _ _)) hf.o

set_option maxRecDepth 100000 in
set_option maxHeartbeats 4000000 in
theorem specIndexes_c {K : Ending → World → Prop} (d : Nat) (a : Option Addr) (n cap : Nat) (bs : List (List Int)) (w : World) (h2 : d ≤ 20) (hm : Mat w a n bs) (hP : Hd (Part d bs)) (H : MakesI K w (cls d bs)) :
    Calls Try.prog 74 #[.int .i64 d, .slice a n cap] w K := by
  have H' := Hd.i H; clear H
  have hln := Hd.i hm.length
  have hle := hm.le
  have hn20 : n ≤ 20 := by have := hP.o.le; have := hln.o; omega
  obtain ⟨w1, hmk, hs1, hb1, how1⟩ := makeI w d (by omega)
  go_enter Try.func74, Try.ntmps74
  go_wp2
  go_loopw [6] (fun iv wr => ∃ i : Nat, i ≤ n ∧ iv = .int .i64 i ∧ OwnI wr w.heap.size (some ⟨w.heap.size, 0, none⟩) d d (clM d bs (seenB bs i 0) 0) ∧ Below w.heap.size w wr) (fun iv _ => n - (intOf iv).toNat)
  case atStart => exact ⟨0, Nat.zero_le _, rfl, by rw [seenB_zero]; simpa [clM_nil] using how1, hb1⟩
  case round =>
    clear how1 hb1 hmk hs1
    obtain ⟨i, hi, rfl, ho, hb⟩ := hrel
    by_cases hlt : i < n
    · obtain ⟨b, off, a5, n5, c5, blk, rfl, hbb, hcell0, hy, hI0, hc5⟩ := hm.at hlt
      have hps := Hd.i (hP.o.set blk (List.mem_of_getElem? hy.o))
      have hl5 := Hd.i hI0.length
      have hle5 := hI0.le
      go_wp2
      go_loopw [7] (fun kv wk => ∃ k : Nat, k ≤ n5 ∧ kv = .int .i64 k ∧ OwnI wk w.heap.size (some ⟨w.heap.size, 0, none⟩) d d (clM d bs (seenB bs i k) 0) ∧ Below w.heap.size w wk) (fun kv _ => n5 - (intOf kv).toNat)
      case atStart => exact ⟨0, Nat.zero_le _, rfl, ho, hb⟩
      case round =>
        clear ho hb
        obtain ⟨k, hk, rfl, ho, hb⟩ := hrel
        have hcell := keep1 hcell0 hb
        by_cases hltk : k < n5
        · obtain ⟨b5, off5, x, rfl, _, hcx0, hx, hx1, hx2⟩ := hI0.at hltk
          have hcx := keep1 hcx0 hb
          have hxr := hps.o.2 x (List.mem_of_getElem? hx.o)
          have hix := Hd.i (hP.o.ix hy.o (List.mem_of_getElem? hx.o))
          obtain ⟨v, hc2, hf2, _, _, _⟩ := ho.at' (k := x.toNat) (by omega)
          have ho2 := ho.put (k := x.toNat) (x := (i : Int)) (by omega) (by omega)
          have hb2 := hb.setCell (p := ⟨w.heap.size, x.toNat, none⟩) (Nat.le_refl _) (.int .i64 i)
          clear hcx0
          go_wp2
          exact ⟨⟨k + 1, by omega, by go_num, by rw [seenB_succ hy.o hx.o, ← clM_set hxr.1 hxr.2 hix.o]; exact ho2, hb2⟩, by simp [intOf]; omega⟩
        · obtain rfl : k = n5 := by omega
          have enx := seenB_next hy.o
          rw [hl5.o] at enx
          rw [enx] at ho
          replace enx := Hd.i enx
          go_wp2
          exact ⟨⟨i + 1, by omega, by go_num, ho, hb⟩, by simp [intOf]; omega⟩
    · obtain rfl : i = n := by omega
      have e : clM d bs (seenB bs i 0) 0 = cls d bs := by
        rw [seenB_zero, List.take_of_length_le (by have := hln.o; omega), clM_full hP.o]
      rw [e] at ho
      replace e := Hd.i e
      go_wp2
      exact H'.o _ _ _ _ hb ho

open Classical in
noncomputable def respB (bs : List (List Int)) (g : List Int) : Bool := decide (Resp bs g)
open Classical in
theorem respB_true {bs : List (List Int)} {g : List Int} (h : Resp bs g) : respB bs g = true := by unfold respB; exact decide_eq_true h
open Classical in
theorem respB_false {bs : List (List Int)} {g : List Int} (h : ¬ Resp bs g) : respB bs g = false := by unfold respB; exact decide_eq_false h
def RespTo (bs : List (List Int)) (g : List Int) (i : Nat) : Prop := ∀ (j : Nat) (b : List Int), j < i → bs[j]? = some b → ∀ x ∈ b, ixB bs (at0 g x) = ixB bs (at0 g (at0 b 0))
def RespIn (bs : List (List Int)) (g b : List Int) (k : Nat) : Prop := ∀ (j : Nat) (x : Int), j < k → b[j]? = some x → ixB bs (at0 g x) = ixB bs (at0 g (at0 b 0))
theorem RespTo.all {bs : List (List Int)} {g : List Int} (h : RespTo bs g bs.length) : Resp bs g := fun b hb x hx => by
  obtain ⟨j, hj, e⟩ := List.mem_iff_getElem.1 hb
  exact h j b hj (by rw [List.getElem?_eq_getElem hj, e]) x hx
theorem RespTo.step {bs : List (List Int)} {g b : List Int} {i : Nat} (h : RespTo bs g i) (hb : bs[i]? = some b) (hin : RespIn bs g b b.length) : RespTo bs g (i + 1) := fun j c hj e x hx => by
  by_cases hji : j = i
  · subst hji; rw [hb] at e; cases e
    obtain ⟨k, hk, ek⟩ := List.mem_iff_getElem.1 hx
    exact hin k x hk (by rw [List.getElem?_eq_getElem hk, ek])
  · exact h j c (by omega) e x hx
theorem RespIn.step {bs : List (List Int)} {g b : List Int} {k : Nat} {x : Int} (h : RespIn bs g b k) (hx : b[k]? = some x) (he : ixB bs (at0 g x) = ixB bs (at0 g (at0 b 0))) : RespIn bs g b (k + 1) := fun j y hj e => by
  by_cases hjk : j = k
  · subst hjk; rw [hx] at e; cases e; exact he
  · exact h j y (by omega) e

/-- Where the number of a point's image's block stands. -/
theorem look3 {d : Nat} {bs : List (List Int)} {g : List Int} {w : World} {ag ac : Option Addr} {ng nc : Nat} (hP : Part d bs) (hg : Pm d g) (hgI : Ints w ag ng g) (hcI : Ints w ac nc (cls d bs)) {x : Int} (hx : 0 ≤ x ∧ x < (d : Int)) :
    ∃ b off b' off' y, ag = some ⟨b, off, none⟩ ∧ ac = some ⟨b', off', none⟩ ∧ w.cell? ⟨b, off + x.toNat, none⟩ = some (.int .i64 y) ∧ w.cell? ⟨b', off' + y.toNat, none⟩ = some (.int .i64 (ixB bs (at0 g x) : Nat)) ∧ Hd (y = at0 g x) ∧ 0 ≤ y ∧ y < (d : Int) ∧ Hd (ng = d ∧ nc = d) ∧ Hd (ixB bs (at0 g x) < bs.length) := by
  have hng : ng = d := by rw [← hgI.length]; exact hg.2
  have hnc : nc = d := by rw [← hcI.length, cls_length]
  obtain ⟨b, off, y, e1, _, h1, h2, _, _⟩ := hgI.at (k := x.toNat) (by omega)
  have hy : y = at0 g x := (at0_of h2.o).symm
  have hr := hg.rng hx.1 hx.2
  rw [← hy] at hr
  obtain ⟨b', off', v, e2, _, h3, h4, _, _⟩ := hcI.at (k := y.toNat) (by omega)
  have h5 := cls_get (bs := bs) hr.1 hr.2
  rw [h4.o] at h5
  cases h5
  rw [hy] at h3 hr
  exact ⟨b, off, b', off', y, e1, e2, h1, by rw [← hy] at h3 ⊢; exact h3, hy, by rw [hy]; exact hr.1, by rw [hy]; exact hr.2, ⟨hng, hnc⟩, hP.ix_lt hr.1 hr.2⟩
end Go.Proofs.Ytiekjklhojmnoaa
