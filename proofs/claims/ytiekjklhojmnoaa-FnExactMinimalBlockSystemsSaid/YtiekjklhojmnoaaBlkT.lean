/- Block systems: respects, IsBlockSystem: the reference. -/
import Derived.Test.YtiekjklhojmnoaaBlkS
namespace Go.Proofs.Ytiekjklhojmnoaa
open Go.RowKit

set_option maxHeartbeats 4000000 in
theorem specRespects_c {K : Ending → World → Prop} (d : Nat) (ag : Option Addr) (ng capg : Nat) (g : List Int) (a : Option Addr) (n cap : Nat) (bs : List (List Int)) (ac : Option Addr) (nc capc : Nat) (w : World) (hP : Hd (Part d bs)) (h2 : d ≤ 20) (hg : Hd (Pm d g)) (hgI : Ints w ag ng g) (hm : Mat w a n bs) (hcI : Ints w ac nc (cls d bs))
    (H : Reads K w (.bool (respB bs g))) : Calls Try.prog 75 #[.slice ag ng capg, .slice a n cap, .slice ac nc capc] w K := by
  have H' := Hd.i H; clear H
  have hln := Hd.i hm.length
  have hle := hm.le
  have hn20 : n ≤ 20 := by have := hP.o.le; have := hln.o; omega
  go_enter Try.func75, Try.ntmps75
  go_wp2
  go_loopw [7] (fun iv wr => ∃ i : Nat, i ≤ n ∧ iv = .int .i64 i ∧ Hd (RespTo bs g i) ∧ Drew w wr) (fun iv _ => n - (intOf iv).toNat)
  case atStart => exact ⟨0, Nat.zero_le _, rfl, fun j b hj => by omega, Drew.refl _⟩
  case round =>
    obtain ⟨i, hi, rfl, hto, hdr⟩ := hrel
    by_cases hlt : i < n
    · obtain ⟨b, off, a5, n5, c5, blk, rfl, hbb, hcell0, hy, hI0, hc5⟩ := hm.at hlt
      have hps := Hd.i (hP.o.set blk (List.mem_of_getElem? hy.o))
      have hne := Hd.i (hP.o.ne blk (List.mem_of_getElem? hy.o))
      have hl5 := Hd.i hI0.length
      have hn5p : 0 < n5 := by have := List.length_pos_iff.2 hne.o; have := hl5.o; omega
      have hle5 := hI0.le
      obtain ⟨bh, offh, x0, rfl, _, hch0, hx0, hx01, hx02⟩ := hI0.at hn5p
      have hx0r := hps.o.2 x0 (List.mem_of_getElem? hx0.o)
      have hx0e := Hd.i (show at0 blk 0 = x0 from at0_of (by simpa using hx0.o))
      obtain ⟨bg, offg, bc, offc, y0, rfl, rfl, hg0, hc0, hy0, hy01, hy02, hnn, _⟩ := look3 hP.o hg.o hgI hcI hx0r
      go_wp2
      go_loopw [8] (fun kv wk => ∃ k : Nat, 1 ≤ k ∧ k ≤ n5 ∧ kv = .int .i64 k ∧ Hd (RespIn bs g blk k) ∧ Drew w wk) (fun kv _ => n5 - (intOf kv).toNat)
      case atStart => exact ⟨1, Nat.le_refl _, hn5p, rfl, fun j x hj e => by
        obtain rfl : j = 0 := by omega
        have := hx0.o; rw [e] at this; cases this; rw [hx0e.o], hdr⟩
      case round =>
        clear hdr
        obtain ⟨k, hk1, hk, rfl, hin, hdr⟩ := hrel
        obtain ⟨m, hdm⟩ := hdr
        have hw : wr = w.drewN m := hdm
        have f1 : wr.cell? ⟨b, off + i, none⟩ = some (.slice (some ⟨bh, offh, none⟩) n5 c5) := by rw [hw]; exact hcell0
        have hdr2 : Drew w wr := ⟨m, hw⟩
        replace hdm := Hd.i hdm
        by_cases hltk : k < n5
        · obtain ⟨b5, off5, x, e5, _, hcx0, hx, hx1, hx2⟩ := hI0.at hltk
          cases e5
          have hxr := hps.o.2 x (List.mem_of_getElem? hx.o)
          obtain ⟨bg2, offg2, bc2, offc2, y, eg, ec, hg1, hc1, hy1, hy11, hy12, _, _⟩ := look3 hP.o hg.o hgI hcI hxr
          cases eg
          cases ec
          have hng := hnn.o.1
          have hnc := hnn.o.2
          subst hng
          subst hnc
          have f2 : wr.cell? ⟨bh, offh + k, none⟩ = some (.int .i64 x) := by rw [hw]; exact hcx0
          have f3 : wr.cell? ⟨bh, offh, none⟩ = some (.int .i64 x0) := by rw [hw]; simpa using hch0
          have f4 : wr.cell? ⟨bg, offg + x.toNat, none⟩ = some (.int .i64 y) := by rw [hw]; exact hg1
          have f5 : wr.cell? ⟨bg, offg + x0.toNat, none⟩ = some (.int .i64 y0) := by rw [hw]; exact hg0
          have f6 : wr.cell? ⟨bc, offc + y.toNat, none⟩ = some (.int .i64 (ixB bs (at0 g x) : Nat)) := by rw [hw]; exact hc1
          have f7 : wr.cell? ⟨bc, offc + y0.toNat, none⟩ = some (.int .i64 (ixB bs (at0 g x0) : Nat)) := by rw [hw]; exact hc0
          replace hw := Hd.i hw
          clear hcell0 hcx0 hch0 hg1 hg0 hc1 hc0
          by_cases heq : ixB bs (at0 g x) = ixB bs (at0 g x0)
          · have hin2 := Hd.i (hin.o.step hx.o (by rw [hx0e.o]; exact heq))
            rw [heq] at f6
            replace heq := Hd.i heq
            go_wp2
            go_quiet (fail)
            go_wp2
            exact ⟨⟨k + 1, by omega, by omega, by go_num, hin2.o, hdr2.step nq⟩, by simp [intOf]; omega⟩
          · have hf := Hd.i (respB_false (bs := bs) (g := g) fun hR => heq (by have := hR blk (List.mem_of_getElem? hy.o) x (List.mem_of_getElem? hx.o); rwa [hx0e.o] at this))
            obtain ⟨u, hu⟩ : ∃ u, ixB bs (at0 g x) = u := ⟨_, rfl⟩
            obtain ⟨v, hv⟩ : ∃ v, ixB bs (at0 g x0) = v := ⟨_, rfl⟩
            rw [hu] at f6 heq
            rw [hv] at f7 heq
            replace hu := Hd.i hu
            replace hv := Hd.i hv
            have hbne : ((u : Int) == (v : Int)) = false := by simp; omega
            have hbne2 : ((u : Int) != (v : Int)) = true := by simp; omega
            go_wp2
            go_quiet (fail)
            go_wp2
            exact retB (H'.o _ (hdr2.step nq)) hf.o
        · obtain rfl : k = n5 := by omega
          have hto2 := Hd.i (hto.o.step hy.o (by rw [hl5.o]; exact hin.o))
          replace hw := Hd.i hw
          go_wp2
          exact ⟨⟨i + 1, by omega, by go_num, hto2.o, hdr2⟩, by simp [intOf]; omega⟩
    · obtain rfl : i = n := by omega
      have ht := Hd.i (respB_true (bs := bs) (g := g) (by have := hto.o; rw [← hln.o] at this; exact this.all))
      go_wp2
      exact retB (H'.o _ hdr) ht.o
end Go.Proofs.Ytiekjklhojmnoaa
