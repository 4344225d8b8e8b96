/- The walks on cycles: the reference's. -/
import Derived.Test.YtkojonjcikgikaaDoorPureCycle
import Derived.Test.YtkojonjcikgikaaDoorGrid
import Derived.Test.YtkojonjcikgikaaDoorPermTop
namespace Go.Proofs.YtkojonjcikgikaaDoor
open Go.RowKit

def sliceLen : Value → Nat
  | .slice _ n _ => n
  | _ => 0
theorem at0_at {p : List Int} {x y : Int} (h : p[x.toNat]? = some y) : at0 p x = y := by simp [at0, h]

set_option maxHeartbeats 1000000 in
theorem cycleOf_c {R : Ending → World → Prop} (a : Option Addr) (n cap : Nat) (p : List Int) (x : Int) (w : World) (h : Ints w a n p) (hp : Hd (IsPerm p)) (hx0 : 0 ≤ x) (hx1 : x < n) (H : MakesI R w (cyc p x)) :
    Calls Tryd.prog 61 #[.slice a n cap, .int .i64 x] w R := by
  have H' := Hd.i H; clear H
  have hln := Hd.i h.length
  have hn : n ≤ 20 := by have := hp.o.2.1; have := hln.o; omega
  have hxr := Hd.i (show 0 ≤ x ∧ x < p.length by have := hln.o; omega)
  have hs := Hd.i (per_spec hp.o hxr.o)
  obtain ⟨b, off, y0, rfl, hb, hcell, hy0, _, _⟩ := h.at (k := x.toNat) (by omega)
  have hw0 := Hd.i (at0_at hy0.o)
  have hrx : Hd (∀ k, 0 ≤ it p k x ∧ it p k x < n) := fun k => by have := it_range hp.o hxr.o.1 hxr.o.2 k; have := hln.o; omega
  go_enter Tryd.func61, Tryd.ntmps61
  go_wp2
  go_loopw [5, 6] (fun v y wr => ∃ (k : Nat) (c : Option Addr) (m capc : Nat) (z : Int), v = .slice c m capc ∧ y = .int .i64 z ∧ Hd (z = it p k x) ∧ Hd (1 ≤ k ∧ k ≤ per p x) ∧ OwnI wr w.heap.size c m capc (run p x k) ∧ Below w.heap.size w wr)
    (fun v _ _ => per p x - sliceLen v)
  case atStart => exact ⟨1, _, 1, 1, y0, rfl, rfl, hw0.o.symm, ⟨Nat.le_refl _, hs.o.1⟩, ⟨Own.lit w [.int .i64 x] _ (by simp) (Nat.le_refl _), by intro u hu; simp [run, it] at hu; omega⟩, (Below.refl _ _).alloc (Nat.le_refl _) _⟩
  case round =>
    obtain ⟨k, c, m, capc, z, rfl, rfl, hz, hk, ho, hbel⟩ := hrel
    have hmk : m = k := by rw [← ho.length, run_length]
    by_cases hzx : z = x
    · have e : k = per p x := by
        apply Classical.byContradiction
        intro hne
        have := hk.o
        exact hs.o.2.2.2 k this.1 (by omega) (hz.o.symm.trans hzx)
      rw [hzx]
      subst e
      clear hmk
      go_wp2
      exact H'.o _ _ _ _ hbel ho
    · have hb2 : (z != x) = true := by simpa using hzx
      have hzr := hrx.o k
      rw [← hz.o] at hzr
      have hkl : k < per p x := by
        have h1 := hk.o
        have h2 := hs.o.2.2.1
        rcases Nat.lt_or_ge k (per p x) with h3 | h3
        · exact h3
        · exact absurd (by rw [hz.o, show k = per p x by omega]; exact h2) hzx
      have hpn : per p x ≤ 20 := by have := hs.o.2.1; have := hln.o; omega
      have c1 : (m + 1) * 8 ≤ 140737488355328 := by omega
      have c2 : m + 1 ≤ 281474976710656 := by omega
      have hsz := hbel.size
      replace hkl := Hd.i hkl
      replace hmk := Hd.i hmk
      replace hpn := Hd.i hpn
      -- p[z] behind the append
      obtain ⟨b', off', y, hab, _, hcy, hy, _, _⟩ := h.at (k := z.toNat) (by omega)
      cases hab
      have hwy := Hd.i (at0_at hy.o)
      clear hzx
      go_wp2_with (at_builtin; refine appendL_c rfl _ _ _ rfl w.heap.size 2 (.int .i64 0) 8 Tryd.underlying22 infoInt rfl _ _ _ _ rfl ho.1 [.int .i64 z] 1 rfl rfl oneInt c1 c2 hsz ?_; intro a2 n2 cap2 w2 hn2 ho2 hg2 ha2; have hb3 := ho.grewBelow hg2 hbel hsz; have hcy2 := (hb3.cell (p := ⟨b, off + z.toNat, none⟩) hb).trans hcy)
      refine ⟨⟨k + 1, a2, n2, cap2, y, rfl, rfl, ?_, ⟨by omega, hkl.o⟩, ?_, hb3⟩, ?_⟩
      · show _ = _
        rw [it_succ, ← hz.o, hwy.o]
      · rw [run_succ, ← hz.o]
        exact OwnI.snoc ho2 ho.2 (by omega) (by omega)
      · have := hkl.o; have := hmk.o; have := hn2.o
        simp only [sliceLen]; omega

/-- The first is the least. -/
def First (xs : List Int) : Prop := ∀ y ∈ xs, (xs[0]?).getD 0 ≤ y
instance (xs : List Int) : Decidable (First xs) := inferInstanceAs (Decidable (∀ y ∈ xs, _))
theorem first_cyc {p : List Int} (hp : IsPerm p) {x : Int} (hx : 0 ≤ x ∧ x < p.length) : First (cyc p x) ↔ Lead p x := by
  have h1 := (per_spec hp hx).1
  have e : ((cyc p x)[0]?).getD 0 = x := by rw [cyc_eq, run_get (by omega)]; rfl
  unfold First Lead
  rw [e]

set_option maxHeartbeats 400000 in
theorem isSmallest_c {R : Ending → World → Prop} (a : Option Addr) (n cap : Nat) (xs : List Int) (w : World) (hx : Ints w a n xs) (hn : 1 ≤ n) (H : Reads R w (.bool (decide (First xs)))) : Calls Tryd.prog 62 #[.slice a n cap] w R := by
  have H' := Hd.i H; clear H
  have hm := hx.le
  have hln := Hd.i hx.length
  obtain ⟨b0, off0, x0, hab0, _, hcell0, hx0, hx01, hx02⟩ := hx.at (k := 0) (by omega)
  rw [Nat.add_zero] at hcell0
  have ef := Hd.i (show (xs[0]?).getD 0 = x0 by rw [hx0.o]; rfl)
  subst hab0
  go_enter Tryd.func62, Tryd.ntmps62
  go_wp2
  go_loopw [3] (fun i wr => ∃ k : Nat, 1 ≤ k ∧ k ≤ n ∧ i = .int .i64 k ∧ Drew w wr ∧ Hd (∀ y ∈ xs.take k, x0 ≤ y)) (fun i _ => n - (intOf i).toNat)
  case atStart =>
    refine ⟨1, Nat.le_refl _, hn, rfl, Drew.refl _, ?_⟩
    intro y hy
    rw [take_succ_some hx0.o] at hy
    simp at hy
    omega
  case round =>
    obtain ⟨k, hk1, hk, rfl, hd, hc⟩ := hrel
    by_cases hlt : k < n
    · obtain ⟨b, off, x, hab, hb, hcell, hxk, hx1, hx2⟩ := (hd.ints hx).at hlt
      cases hab
      have hcell0' : wr.cell? ⟨b0, off0, none⟩ = some (.int .i64 x0) := by obtain ⟨m, rfl⟩ := hd; exact hcell0
      by_cases hxy : x < x0
      · go_wp2
        go_quiet (fail)
        go_wp2
        exact retB (H'.o _ (hd.step nq)) (decide_eq_false (fun e => by have := e x (List.mem_of_getElem? hxk.o); rw [ef.o] at this; omega))
      · go_wp2
        go_quiet (fail)
        go_wp2
        go_roundw
        case rel =>
          refine ⟨k + 1, by omega, by omega, by go_num, hd.step nq, ?_⟩
          intro y hy
          rw [take_succ_some hxk.o] at hy
          rcases List.mem_append.1 hy with hy | hy
          · exact hc.o y hy
          · obtain rfl := List.mem_singleton.1 hy; omega
        case measure => simp [intOf]; omega
    · obtain rfl : k = n := by omega
      go_wp2
      have h := hc.o
      rw [List.take_of_length_le (by have := hln.o; omega)] at h
      exact retB (H'.o _ hd) (decide_eq_true fun y hy => by rw [ef.o]; exact h y hy)
end Go.Proofs.YtkojonjcikgikaaDoor
