/- StabilizerOrder: the program. -/
import Derived.Test.YtpijnjhheikmcaaStab4
namespace Go.Proofs.Ytpijnjhheikmcaa
open Go.RowKit

theorem implPointD_c {R : Ending → World → Prop} (d : Nat) (x : Int) (w : World) (h1 : 1 ≤ d) (h2 : d ≤ 20) (H : R (.returned (.bool (decide (0 ≤ x ∧ x < d)))) w) : Calls Try.prog 77 #[.int .i64 d, .int .i64 x] w R := by
  have H' := Hd.i H; clear H
  go_enter Try.func77, Try.ntmps77
  go_wp2_with (go_at_call 85; refine within_c _ _ _ _ (fun h => ?_) (fun h => ?_) <;> replace h := Hd.i h)
  · exact retB H' (decide_eq_true (by have := h.o; omega))
  · exact retB H' (decide_eq_false (by have := h.o; omega))

set_option maxHeartbeats 4000000 in
theorem topImplStabilizerOrder {R : Ending → World → Prop} {B B' : Nat} (z : Int) (a : Option Addr) (n cap : Nat) (hs : List Hdr) (xss : List (List Int)) (a' : Option Addr) (n' cap' : Nat) (ps : List Int) (w : World) (_ : -9223372036854775808 ≤ z ∧ z ≤ 9223372036854775807) (hx : OwnH w B a n cap hs xss) (hp : OwnI w B' a' n' cap' ps)
    (H : Gives R w (.int .i64 (pStab z xss ps))) : Calls Try.prog 42 #[.int .i64 z, .slice a n cap, .slice a' n' cap'] w R := by
  have H' := Hd.i H; clear H
  have hm := hx.rows
  have hpi := hp.ints
  have hln := Hd.i hm.length
  have hlp := Hd.i hpi.length
  have hlep := hpi.le
  clear hx hp
  by_cases hg : GenSet z xss
  · have hdec := Hd.i (decide_eq_true hg)
    obtain ⟨d, rfl⟩ := genSet_d hg
    have h1 : 1 ≤ d := by have := hg.1; omega
    have h2 : d ≤ 20 := by have := hg.2.1; omega
    have hn8 : n ≤ 8 := by have := hg.2.2.1; have := hln.o; omega
    have hgs := Hd.i (gs_of hg)
    replace hg := Hd.i hg
    go_enter Try.func42, Try.ntmps42
    go_wp2_with fail
    refine implGenSet_c (d : Int) _ _ _ xss _ hm ?_
    intro w1 hb1
    rw [hdec.o]
    obtain ⟨w2, hmk, hs2, hb2, how2⟩ := makeI w1 d (by omega)
    have hb12 := below_ups hb1 hb2 hb1.size
    have hp2 := hpi.up hb12
    go_wp2_with (go_at_call 53; refine length_c _ _ _ _ ?_)
    go_loop [28] (fun iv => ∃ i : Nat, i ≤ n' ∧ iv = .int .i64 i ∧ Hd (PtSet d (ps.take i))) (fun iv => n' - (intOf iv).toNat)
    case atStart => exact ⟨0, Nat.zero_le _, rfl, .nil _⟩
    case round =>
      obtain ⟨i, hi, rfl, hps⟩ := hrel
      by_cases hlt : i < n'
      · obtain ⟨b, off, x, rfl, hbb, hcell, hx, hx1, hx2⟩ := hp2.at hlt
        by_cases hpt : 0 ≤ x ∧ x < (d : Int)
        · have hdecp := Hd.i (decide_eq_true hpt)
          by_cases hi0 : i = 0
          · subst hi0
            have hnx := Hd.i (hps.o.snoc hx.o hpt (fun y h => by omega))
            have hcell0 : w2.cell? ⟨b, off, none⟩ = some (.int .i64 x) := by simpa using hcell
            replace hpt := Hd.i hpt
            clear hcell
            go_wp2_with (go_at_call 77; refine implPointD_c d x _ h1 h2 ?_; rw [hdecp.o])
            exact ⟨⟨1, by omega, by go_num, hnx.o⟩, by simp [intOf]; omega⟩
          · obtain ⟨b', off', y, e', _, hcy, hy, hy1, hy2⟩ := hp2.at (k := i - 1) (by omega)
            cases e'
            have hip := Hd.i (show 0 < i by omega)
            have q1 : decide (0 < i) = true := decide_eq_true (by omega)
            have q2 : IntKind.i64.wrap ((i : Int) - 1) = (i : Int) - 1 := IntWalk.i64_in _ (by omega)
            have q3 : 0 ≤ (i : Int) - 1 := by omega
            have q4 : ((i : Int) - 1).toNat = i - 1 := by omega
            have q5 : (i : Int) - 1 < n' := by omega
            by_cases hyx : x ≤ y
            · have hf := Hd.i (pStab_false (z := (d : Int)) (xss := xss) (ps := ps) fun h => by have := h.2.lt hip.o hy.o hx.o; omega)
              have hlq : decide (x ≤ y) = true := decide_eq_true hyx
              replace hpt := Hd.i hpt
              go_wp2_with (go_at_call 77; refine implPointD_c d x _ h1 h2 ?_; rw [hdecp.o])
              exact retI (H'.o _ hb12) hf.o
            · have hnx := Hd.i (hps.o.snoc hx.o hpt (fun y' h e => by have h2 := hy.o; rw [e] at h2; cases h2; omega))
              have hlq : decide (x ≤ y) = false := decide_eq_false hyx
              replace hpt := Hd.i hpt
              go_wp2_with (go_at_call 77; refine implPointD_c d x _ h1 h2 ?_; rw [hdecp.o])
              exact ⟨⟨i + 1, by omega, by go_num, hnx.o⟩, by simp [intOf]; omega⟩
        · have hdecp := Hd.i (decide_eq_false hpt)
          have hf := Hd.i (pStab_false (z := (d : Int)) (xss := xss) (ps := ps) fun h => hpt (h.2.2 x (List.mem_of_getElem? hx.o)))
          replace hpt := Hd.i hpt
          go_wp2_with (go_at_call 77; refine implPointD_c d x _ h1 h2 ?_; rw [hdecp.o])
          exact retI (H'.o _ hb12) hf.o
      · obtain rfl : i = n' := by omega
        have hpd : PtSet d ps := by have := hps.o; rwa [List.take_of_length_le (by have := hlp.o; omega)] at this
        have e := Hd.i (show pStab (d : Int) xss ps = (ordF (osz d (ren d xss ps)) ps.length d : Nat) by simp [pStab, hg.o, hpd])
        have hfp := Hd.i (front_pm h1 h2 hpd)
        have hnm := Hd.i (front_pm h1 h2 hpd).inv
        have hgr := Hd.i (genSet_ren hg.o hpd)
        have hid : i ≤ d := by have := hpd.length_le; have := hlp.o; omega
        have hpdh := Hd.i hpd
        clear hpd hps
        go_wp2
        go_loopw [52] (fun xv wr => ∃ k : Nat, k ≤ d ∧ xv = .int .i64 k ∧ OwnI wr w1.heap.size (some ⟨w1.heap.size, 0, none⟩) d d (List.replicate k (-1) ++ (List.replicate d 0).drop k) ∧ Below w1.heap.size w1 wr) (fun xv _ => d - (intOf xv).toNat)
        case atStart => exact ⟨0, Nat.zero_le _, rfl, by simpa using how2, hb2⟩
        case round =>
          clear how2 hp2 hb12 hb2 hmk
          obtain ⟨k, hk, rfl, ho, hb⟩ := hrel
          by_cases hlt : k < d
          · obtain ⟨v, hc, hf, _, _, _⟩ := ho.at' hlt
            have ho2 := ho.put (k := k) (x := -1) (by omega) (by omega)
            have hb2 := hb.setCell (p := ⟨w1.heap.size, k, none⟩) (Nat.le_refl _) (.int .i64 (-1))
            go_wp2
            refine ⟨⟨k + 1, by omega, by go_num, ?_, hb2⟩, by simp [intOf]; omega⟩
            rw [set_front _ _ _ _ (by simp) (by simp; omega), replicate_snoc] at ho2
            exact ho2
          · obtain rfl : k = d := by omega
            have hpw := hpi.up (below_ups hb1 hb hb1.size)
            go_wp2
            go_loopw [61] (fun iv wr => ∃ (j : Nat) (nm : List Int), j ≤ i ∧ iv = .int .i64 j ∧ OwnI wr w1.heap.size (some ⟨w1.heap.size, 0, none⟩) k k nm ∧ Below w1.heap.size w1 wr ∧ Hd (Named k ps j 0 nm)) (fun iv _ => i - (intOf iv).toNat)
            case atStart => exact ⟨0, _, Nat.zero_le _, rfl, by simpa using ho, hb, Named.start⟩
            case round =>
              clear ho hb hpw
              obtain ⟨j, nm, hj, rfl, ho, hb, hna⟩ := hrel
              by_cases hlt : j < i
              · obtain ⟨b, off, x, rfl, hbb, hcell, hx, hx1, hx2⟩ := (hpi.up (below_ups hb1 hb hb1.size)).at hlt
                have hxr := hpdh.o.2 x (List.mem_of_getElem? hx.o)
                have hna2 := Hd.i (hna.o.put hpdh.o hx.o)
                obtain ⟨v, hc, hf, _, _, _⟩ := ho.at' (k := x.toNat) (by omega)
                have ho2 := ho.put (k := x.toNat) (x := (j : Int)) (by omega) (by omega)
                have hb2 := hb.setCell (p := ⟨w1.heap.size, x.toNat, none⟩) (Nat.le_refl _) (.int .i64 j)
                go_wp2
                exact ⟨⟨j + 1, _, by omega, by go_num, ho2, hb2, hna2⟩, by simp [intOf]; omega⟩
              · obtain rfl : j = i := by omega
                have hna0 : Hd (Named k ps ps.length 0 nm) := by have := hna.o; rw [hlp.o]; exact this
                clear hna
                go_wp2
                go_loopw [8, 72] (fun nv xv wr => ∃ (y : Nat) (nm : List Int), y ≤ k ∧ xv = .int .i64 y ∧ nv = .int .i64 ((j + (restTo ps y).length : Nat) : Int) ∧ OwnI wr w1.heap.size (some ⟨w1.heap.size, 0, none⟩) k k nm ∧ Below w1.heap.size w1 wr ∧ Hd (Named k ps ps.length y nm)) (fun _ xv _ => k - (intOf xv).toNat)
                case atStart => exact ⟨0, nm, Nat.zero_le _, rfl, by simp [restTo, idl], ho, hb, hna0⟩
                case round =>
                  clear ho hb hna0
                  obtain ⟨y, nm2, hy, rfl, rfl, ho, hb, hna⟩ := hrel
                  have hrl := restTo_le ps y
                  by_cases hlt : y < k
                  · obtain ⟨v, hc, hf, hv, hv1, hv2⟩ := ho.at' hlt
                    have hv0 : at0 nm2 y = v := by unfold at0; rw [Int.toNat_natCast, hv.o]; rfl
                    by_cases hmem : (y : Int) ∈ ps
                    · obtain ⟨hna2, hge⟩ := hna.o.skip hmem
                      rw [hv0] at hge
                      have hna3 := Hd.i hna2
                      have el := Hd.i (restTo_in hmem)
                      replace hmem := Hd.i hmem
                      replace hv0 := Hd.i hv0
                      have hnl : decide (v < 0) = false := decide_eq_false (by omega)
                      clear hna2
                      go_wp2
                      exact ⟨⟨y + 1, nm2, by omega, by go_num, by rw [el.o], ho, hb, hna3⟩, by simp [intOf]; omega⟩
                    · obtain ⟨hna2, hge⟩ := hna.o.next hlt hmem
                      rw [hv0] at hge
                      subst hge
                      have hna3 : Hd (Named k ps ps.length (y + 1) (nm2.set y ((j + (restTo ps y).length : Nat) : Int))) := by rw [hlp.o] at hna2; rw [hlp.o]; exact hna2
                      have el := Hd.i (show (restTo ps (y + 1)).length = (restTo ps y).length + 1 by rw [restTo_out hmem]; simp)
                      replace hmem := Hd.i hmem
                      replace hv0 := Hd.i hv0
                      clear hna2
                      obtain ⟨rl, hrl2⟩ : ∃ rl, (restTo ps y).length = rl := ⟨_, rfl⟩
                      rw [hrl2] at hrl hna3 el ⊢
                      replace hrl2 := Hd.i hrl2
                      have ho2 := ho.put (k := y) (x := ((j + rl : Nat) : Int)) (by omega) (by omega)
                      have hb2 := hb.setCell (p := ⟨w1.heap.size, y, none⟩) (Nat.le_refl _) (.int .i64 ((j + rl : Nat) : Int))
                      go_wp2
                      exact ⟨⟨y + 1, _, by omega, by go_num, by rw [el.o]; go_num, ho2, hb2, hna3⟩, by simp [intOf]; omega⟩
                  · obtain rfl : y = k := by omega
                    have hdone := hna.o.done h1 h2 hpdh.o
                    subst hdone
                    clear hna hrl
                    obtain ⟨nx, hnx⟩ : ∃ nx : Nat, j + (restTo ps y).length = nx := ⟨_, rfl⟩
                    rw [hnx]
                    replace hnx := Hd.i hnx
                    have hbw := below_ups hb1 hb hb1.size
                    have hmw := hm.up hbw
                    go_wp2
                    obtain ⟨wq, hwq⟩ : ∃ wq, wq = wr := ⟨wr, rfl⟩
                    rw [← hwq] at ho hb hbw hmw
                    go_loopw [15, 89] (fun v iv ww => ∃ (m : Nat) (c : Option Addr) (mm capc : Nat) (hs : List Hdr), m ≤ n ∧ iv = .int .i64 m ∧ v = .slice c mm capc ∧ OwnH ww wq.heap.size c mm capc hs (ren y (xss.take m) ps) ∧ Below wq.heap.size wq ww) (fun _ iv _ => n - (intOf iv).toNat)
                    case atStart => exact ⟨0, none, 0, 0, [], Nat.zero_le _, rfl, rfl, OwnH.nil _ _, by rw [hwq]; exact Below.refl _ _⟩
                    case round =>
                      obtain ⟨m, c, mm, capc, hs, hm', rfl, rfl, hoR, hbR⟩ := hrel
                      by_cases hlt : m < n
                      · obtain ⟨b, off, a5, n5, c5, g, rfl, hbb, hcell, hy, hgI, hgc⟩ := (hmw.up hbR).at hlt
                        have hgp := hgs.o g (List.mem_of_getElem? hy.o)
                        have hpair := hgp.pair hnm.o
                        have hqI := ho.ints.up hbR
                        have hmk : mm ≤ m := by have := hoR.length; unfold ren at this; rw [List.length_map, List.length_take] at this; omega
                        have k1 : (mm + 1) * 24 ≤ 140737488355328 := by omega
                        have k2 : mm + 1 ≤ 281474976710656 := by omega
                        have hs0 := hbR.size
                        replace hgp := Hd.i hgp
                        go_wp2_with fail
                        refine implConjugate_c _ _ _ g _ _ _ (inv (front y ps)) _ hgI hqI hpair ?_
                        intro b6 m6 d6 w6 hb6 ho6
                        have hs1 := Nat.le_trans hs0 hb6.size
                        have hown := hoR.1.up hb6
                        have hbw2 := below_ups hbR hb6 hs0
                        go_wp2_with (at_builtin; refine appendL_c rfl _ _ _ rfl wq.heap.size 23 (.slice none 0 0) 24 Try.underlying22 infoSl rfl _ _ _ _ rfl hown [.slice b6 m6 d6] 1 rfl rfl oneSlice k1 k2 hs1 ?_; intro a2 n2 cap2 w7 hn2 ho2 hg2 ha2)
                        refine ⟨⟨m + 1, a2, n2, cap2, hs ++ [(b6, m6, d6)], by omega, by go_num, rfl, ?_, hoR.grewBelow hg2 hbw2 hs1⟩, by simp [intOf]; omega⟩
                        rw [ren_succ hy.o]
                        exact hoR.snoc hb6 ho6 hs0 hg2 ho2 ha2.o
                      · obtain rfl : m = n := by omega
                        rw [List.take_of_length_le (by have := hln.o; omega)] at hoR
                        have hmr := hoR.rows
                        have hbE := below_ups hbw hbR hbw.size
                        have hsE := hbE.size
                        go_wp2_with fail
                        refine implChain_c y _ _ _ (ren y xss ps) _ hmr hgr ?_
                        intro w8 cp hb8 hC
                        go_wp2_with (go_at_call 53; refine length_c _ _ _ _ ?_)
                        refine implOrderC_c y cp (ren y xss ps) j _ hid hC (gs_of hgr.o) ?_
                        intro w9 hb9
                        go_wp2
                        exact retI (H'.o _ (below_ups hbE (below_on hb8 hb9) hsE)) (by rw [e.o, hlp.o])
  · have hdec := Hd.i (decide_eq_false hg)
    have e := Hd.i (pStab_false (z := z) (xss := xss) (ps := ps) fun h => hg h.1)
    replace hg := Hd.i hg
    go_enter Try.func42, Try.ntmps42
    go_wp2_with fail
    refine implGenSet_c z _ _ _ xss _ hm ?_
    intro w1 hb1
    rw [hdec.o]
    go_wp2
    exact retI (H'.o _ hb1) e.o
end Go.Proofs.Ytpijnjhheikmcaa
