/- The walks on cycles: the program's. -/
import Derived.Test.YtkojonjcikgikaaDoorCycle
import Derived.Test.YtkojonjcikgikaaDoorDice
import Derived.Test.YtkojonjcikgikaaDoorSeen
namespace Go.Proofs.YtkojonjcikgikaaDoor
open Go.RowKit

/-- The long cycles whose least member is below k. -/
noncomputable def longTo (p : List Int) (k : Nat) : List (List Int) := (((idl k).filter fun x => decide (Lead p x)).map (cyc p)).filter fun c => decide (1 < c.length)
theorem longTo_succ (p : List Int) (k : Nat) : longTo p (k + 1) = longTo p k ++ (if Lead p k ∧ 1 < per p k then [cyc p k] else []) := by
  unfold longTo
  rw [idl_succ, List.filter_append, List.map_append, List.filter_append]
  congr 1
  by_cases h1 : Lead p k
  · by_cases h2 : 1 < per p k
    · simp [h1, h2, cyc_length]
    · simp [h1, h2, cyc_length]
  · simp [h1]
theorem longTo_full (p : List Int) : longTo p p.length = longC p := rfl
theorem longTo_le (p : List Int) (k : Nat) : (longTo p k).length ≤ k := by
  unfold longTo
  refine Nat.le_trans (List.length_filter_le _ _) ?_
  rw [List.length_map]
  refine Nat.le_trans (List.length_filter_le _ _) ?_
  rw [idl_length]; exact Nat.le_refl _

/-- The cycles that begin below k. -/
def SeenTo (p : List Int) (k : Nat) (y : Int) : Prop := ∃ i : Nat, i < k ∧ y ∈ cyc p i
theorem seenTo_self {p : List Int} (hp : IsPerm p) {k : Nat} (hk : k < p.length) : SeenTo p k k ↔ ¬ Lead p k := by
  constructor
  · rintro ⟨i, hi, h⟩ hl
    have := hl i (mem_cyc_symm hp (by omega) h)
    omega
  · intro hl
    apply Classical.byContradiction
    intro hs
    refine hl fun y hy => ?_
    have hr := mem_cyc_range hp (by omega) hy
    apply Classical.byContradiction
    intro hlt
    refine hs ⟨y.toNat, by omega, ?_⟩
    rw [show ((y.toNat : Nat) : Int) = y by omega]
    exact mem_cyc_symm hp (by omega) hy
theorem seenTo_it {p : List Int} (hp : IsPerm p) {k : Nat} (hk : k < p.length) {y : Int} (hy : y ∈ cyc p k) : SeenTo p k y ↔ SeenTo p k k := by
  constructor
  · rintro ⟨i, hi, h⟩
    exact ⟨i, hi, mem_cyc_trans hp (by omega) h (mem_cyc_symm hp (by omega) hy)⟩
  · rintro ⟨i, hi, h⟩
    exact ⟨i, hi, mem_cyc_trans hp (by omega) h hy⟩
theorem seenTo_succ {p : List Int} {k : Nat} (y : Int) : SeenTo p (k + 1) y ↔ SeenTo p k y ∨ y ∈ cyc p k := by
  constructor
  · rintro ⟨i, hi, h⟩
    by_cases hik : i < k
    · exact .inl ⟨i, hik, h⟩
    · obtain rfl : i = k := by omega
      exact .inr h
  · rintro (⟨i, hi, h⟩ | h)
    · exact ⟨i, by omega, h⟩
    · exact ⟨k, by omega, h⟩
theorem it_not_run {p : List Int} (hp : IsPerm p) {x : Int} (hx : 0 ≤ x ∧ x < p.length) {j : Nat} (hj : j < per p x) : it p j x ∉ run p x j := by
  have h := run_nodup hp hx (k := j + 1) (by omega)
  rw [run_succ] at h
  have := List.nodup_append.1 h
  intro hm
  exact this.2.2 _ hm _ (List.mem_singleton_self _) rfl

set_option maxHeartbeats 2000000 in
set_option maxRecDepth 100000 in
theorem implCycles_c {R : Ending → World → Prop} (a : Option Addr) (n cap : Nat) (p : List Int) (w : World) (h : Ints w a n p) (hp : Hd (IsPerm p)) (H : MakesR R w (longC p)) :
    Calls Tryd.prog 45 #[.slice a n cap] w R := by
  have H' := Hd.i H; clear H
  have hln := Hd.i h.length
  have hn : n ≤ 20 := by have := hp.o.2.1; have := hln.o; omega
  obtain ⟨w1, hmk, hs1, hb1, how1⟩ := make_own w 61 4 (.bool false) 1 Tryd.underlying61 infoBool rfl n (by omega) (by omega)
  go_enter Tryd.func45, Tryd.ntmps45
  go_wp2
  go_loopw [3, 13] (fun v i wr => ∃ (k : Nat) (c : Option Addr) (m capc : Nat) (hs : List Hdr) (bs : List Bool), k ≤ n ∧ i = .int .i64 k ∧ v = .slice c m capc ∧ OwnH wr (w.heap.size + 1) c m capc hs (longTo p k) ∧
      Own wr w.heap.size 4 (some ⟨w.heap.size, 0, none⟩) n n (bs.map Value.bool) ∧ Hd (SeenIs bs n (SeenTo p k)) ∧ Below w.heap.size w wr ∧ Hd (w.heap.size + 1 ≤ wr.heap.size))
    (fun _ i _ => n - (intOf i).toNat)
  case atStart => exact ⟨0, _, 0, 0, [], List.replicate n false, Nat.zero_le _, rfl, rfl, OwnH.nil _ _, by simpa using how1, SeenIs.start n (fun y ⟨i, hi, _⟩ => by omega), hb1, Nat.le_of_eq hs1.o.symm⟩
  case round =>
    obtain ⟨k, c, m, capc, hs, bs, hk, rfl, rfl, ho, hse, hsi, hbel, hsz⟩ := hrel
    by_cases hlt : k < n
    · have hkr := Hd.i (show 0 ≤ (k : Int) ∧ (k : Int) < p.length by have := hln.o; omega)
      have hper := Hd.i (per_spec hp.o hkr.o)
      have hrx : Hd (∀ j, 0 ≤ it p j k ∧ it p j k < n) := fun j => by have := it_range hp.o hkr.o.1 hkr.o.2 j; have := hln.o; omega
      have hmk2 : m ≤ k := by have := ho.length; have := longTo_le p k; omega
      obtain ⟨wo, rfl⟩ : ∃ wo, wo = wr := ⟨wr, rfl⟩
      go_wp2
      go_loopw [6, 7] (fun v x wr => ∃ (j : Nat) (c2 : Option Addr) (m2 cap2 : Nat) (z : Int) (bs2 : List Bool), v = .slice c2 m2 cap2 ∧ x = .int .i64 z ∧ Hd (z = it p j k) ∧ Hd (j ≤ per p k ∧ (SeenTo p k k → j = 0)) ∧ OwnI wr wo.heap.size c2 m2 cap2 (run p k j) ∧
          Own wr w.heap.size 4 (some ⟨w.heap.size, 0, none⟩) n n (bs2.map Value.bool) ∧ Hd (SeenIs bs2 n (fun y => SeenTo p k y ∨ y ∈ run p k j)) ∧ Grew (some ⟨w.heap.size, 0, none⟩) wo wr)
        (fun v _ _ => per p k - sliceLen v)
      case atStart => exact ⟨0, none, 0, 0, k, bs, rfl, rfl, rfl, ⟨Nat.zero_le _, fun _ => rfl⟩, OwnI.nil _ _, hse, hsi.o.iff (fun y => by simp [run]), Grew.refl _ _⟩
      case round =>
        obtain ⟨j, c2, m2, cap2, z, bs2, rfl, rfl, hz, hj, hoc, hsq, hsi2, hgr⟩ := hrel
        have hzr := hrx.o j
        rw [← hz.o] at hzr
        have hmj : m2 = j := by rw [← hoc.length, run_length]
        obtain ⟨v0, hc0, hf0, hv0⟩ := hsq.at' (k := z.toNat) (by omega)
        obtain ⟨b, hb0, rfl⟩ : ∃ b, bs2[z.toNat]? = some b ∧ v0 = .bool b := by
          have := hv0.o
          rw [List.getElem?_map, Option.map_eq_some_iff] at this
          obtain ⟨b, e, e'⟩ := this
          exact ⟨b, e, e'.symm⟩
        have hbS := hsi2.o.2 z.toNat b hb0
        rw [show ((z.toNat : Nat) : Int) = z by omega] at hbS
        have hzc : z ∈ cyc p k := by rw [hz.o]; exact (mem_cyc hp.o hkr.o).2 ⟨j, rfl⟩
        have hsit := seenTo_it hp.o (k := k) (by have := hln.o; omega) hzc
        have hself := seenTo_self hp.o (k := k) (by have := hln.o; omega)
        have hwq : wo.heap.size ≤ wr.heap.size := hgr.size
        have hapc : Apart (some (⟨w.heap.size, 0, none⟩ : Addr)) c2 := by
          intro b' off s off' s' e e'
          have := hoc.ge b' off' s' e'
          cases e
          have := hsz.o
          omega
        cases b with
        | true =>
          have hin := hbS.1 rfl
          by_cases hL : Lead p k
          · -- a whole cycle
            have hns : ¬ SeenTo p k k := fun e => hself.1 e hL
            have hjp : j = per p k := by
              rcases hin with h1 | h1
              · exact absurd (hsit.1 h1) hns
              · rcases Nat.lt_or_ge j (per p k) with h2 | h2
                · exact absurd (hz.o ▸ h1) (it_not_run hp.o hkr.o h2)
                · have := hj.o.1; omega
            subst hjp
            by_cases h1 : 1 < per p k
            · have el := Hd.i (show longTo p (k + 1) = longTo p k ++ [cyc p k] by rw [longTo_succ, if_pos ⟨hL, h1⟩])
              have hs2 := Hd.i (show SeenIs bs2 n (SeenTo p (k + 1)) from hsi2.o.iff fun y => seenTo_succ y)
              have hB2 : w.heap.size + 1 ≤ wr.heap.size := by have := hsz.o; omega
              have ho' := ho.grew hgr (by intro b' off s off' s' e e'; have := ho.ge b' off s e; cases e'; omega) (by
                intro x hx b' off s off' s' e e'
                have := ho.fp_ge b' ⟨x, hx, off, s, e⟩
                cases e'; omega)
              have hoc' : OwnI wr (w.heap.size + 1) c2 m2 cap2 (cyc p k) := hoc.mono hsz.o
              have hxc : Apart c2 c := by
                intro b' off s off' s' e e'
                have := hoc.ge b' off s e
                have := (ho.1.lt e').2
                omega
              have hxs : ∀ y ∈ hs, Apart y.1 c2 := by
                intro y hy b' off s off' s' e e'
                have := hoc.ge b' off' s' e'
                have := ho.fp_lt b' ⟨y, hy, off, s, e⟩
                omega
              have c1 : (m + 1) * 24 ≤ 140737488355328 := by omega
              have c2' : m + 1 ≤ 281474976710656 := by omega
              have hm2 : 1 < m2 := by omega
              have hm3 := hoc.le
              have hbq : Below w.heap.size w wr := hbel.trans (hgr.below hbel.size (by intro b' off s e; cases e; exact Nat.le_refl _))
              have hapS : Apart (some (⟨w.heap.size, 0, none⟩ : Addr)) c := by
                intro b' off s off' s' e e'
                have := (ho.1.lt e').1
                cases e; omega
              clear hin hbS hsit hself hmj hns hzc
              replace h1 := Hd.i h1
              replace hxc := Hd.i hxc
              replace hxs := Hd.i hxs
              replace hapS := Hd.i hapS
              replace hapc := Hd.i hapc
              go_wp2_with (at_builtin; refine appendL_c rfl _ _ _ rfl (w.heap.size + 1) 22 (.slice none 0 0) 24 Tryd.underlying46 infoSl rfl _ _ _ _ rfl ho'.1 [.slice c2 m2 cap2] 1 rfl rfl oneSlice c1 c2' hB2 ?_; intro a2 n2 cap3 w2 hn2 ho2 hg2 ha2)
              refine ⟨⟨k + 1, a2, n2, cap3, hs ++ [(c2, m2, cap2)], bs2, by omega, by go_num, rfl, ?_, hg2.own hsq hapS.o, hs2, hbq.trans (hg2.below hbq.size (fun b' off s e => by have := (ho'.1.lt e).1; omega)), Nat.le_trans hB2 hg2.size⟩, by simp [intOf]; omega⟩
              rw [el.o]
              exact ho'.push hoc' hxc.o hxs.o hg2 ho2 ha2.o
            · have el := Hd.i (show longTo p (k + 1) = longTo p k by rw [longTo_succ, if_neg (fun e => h1 e.2), List.append_nil])
              have hs2 := Hd.i (show SeenIs bs2 n (SeenTo p (k + 1)) from hsi2.o.iff fun y => seenTo_succ y)
              have hB2 : w.heap.size + 1 ≤ wr.heap.size := by have := hsz.o; omega
              have ho' := ho.grew hgr (by intro b' off s off' s' e e'; have := ho.ge b' off s e; cases e'; omega) (by
                intro x hx b' off s off' s' e e'
                have := ho.fp_ge b' ⟨x, hx, off, s, e⟩
                cases e'; omega)
              have hm2 : m2 ≤ 1 := by omega
              have hbq : Below w.heap.size w wr := hbel.trans (hgr.below hbel.size (by intro b' off s e; cases e; exact Nat.le_refl _))
              clear hin hbS hsit hself hmj hns hzc
              replace h1 := Hd.i h1
              go_wp2
              exact ⟨⟨k + 1, c, m, capc, hs, bs2, by omega, by go_num, rfl, by rw [el.o]; exact ho', hsq, hs2, hbq, hB2⟩, by simp [intOf]; omega⟩
          · have hss := hself.2 hL
            have hj0 := hj.o.2 hss
            have el := Hd.i (show longTo p (k + 1) = longTo p k by rw [longTo_succ, if_neg (fun e => hL e.1), List.append_nil])
            have hs2 := Hd.i (show SeenIs bs2 n (SeenTo p (k + 1)) from hsi2.o.iff fun y => by
              rw [seenTo_succ, hj0]
              constructor
              · rintro (e | e)
                · exact .inl e
                · exact .inl ((seenTo_it hp.o (by have := hln.o; omega) e).2 hss)
              · rintro (e | e)
                · exact .inl e
                · simp [run] at e)
            have hB2 : w.heap.size + 1 ≤ wr.heap.size := by have := hsz.o; omega
            have ho' := ho.grew hgr (by intro b' off s off' s' e e'; have := ho.ge b' off s e; cases e'; omega) (by
              intro x hx b' off s off' s' e e'
              have := ho.fp_ge b' ⟨x, hx, off, s, e⟩
              cases e'; omega)
            have hm2 : m2 ≤ 1 := by omega
            have hbq : Below w.heap.size w wr := hbel.trans (hgr.below hbel.size (by intro b' off s e; cases e; exact Nat.le_refl _))
            clear hin hbS hsit hself hmj hzc
            replace hss := Hd.i hss
            go_wp2
            exact ⟨⟨k + 1, c, m, capc, hs, bs2, by omega, by go_num, rfl, by rw [el.o]; exact ho', hsq, hs2, hbq, hB2⟩, by simp [intOf]; omega⟩
        | false =>
          have hnin : ¬ (SeenTo p k z ∨ z ∈ run p k j) := fun e => by simpa using hbS.2 e
          have hns : ¬ SeenTo p k k := fun e => hnin (.inl (hsit.2 e))
          have hjp : j < per p k := by
            rcases Nat.lt_or_ge j (per p k) with h2 | h2
            · exact h2
            · have e : j = per p k := by have := hj.o.1; omega
              refine absurd (.inr ?_) hnin
              rw [mem_run]
              refine ⟨0, by have := hper.o.1; omega, ?_⟩
              rw [hz.o, e, hper.o.2.2.1]; rfl
          obtain ⟨b', off', y, hab, hbb, hcy, hy, _, _⟩ := h.at (k := z.toNat) (by omega)
          have hwy := Hd.i (at0_at hy.o)
          have hpn : per p k ≤ 20 := by have := hper.o.2.1; have := hln.o; omega
          have hst := hsq.store (k := z.toNat) (.bool true)
          have hss : Own (wr.setCell ⟨w.heap.size, z.toNat, none⟩ (.bool true)) w.heap.size 4 (some ⟨w.heap.size, 0, none⟩) n n ((bs2.set z.toNat true).map Value.bool) := by rw [List.map_set]; exact hst
          have hoc2 := hoc.store_other z.toNat (.bool true) hapc
          have hsi3 := Hd.i (hsi2.o.set (z := z) hzr.1 (S' := fun y => SeenTo p k y ∨ y ∈ run p k (j + 1)) (fun y => by
            rw [run_succ, ← hz.o, List.mem_append, List.mem_singleton]
            constructor
            · rintro (e | e | e)
              · exact .inl (.inl e)
              · exact .inl (.inr e)
              · exact .inr e
            · rintro ((e | e) | e)
              · exact .inl e
              · exact .inr (.inl e)
              · exact .inr (.inr e)))
          have hw3 : Wrote (some (⟨w.heap.size, 0, none⟩ : Addr)) wr (wr.setCell ⟨w.heap.size, z.toNat, none⟩ (.bool true)) := (Wrote.refl _ _).store rfl _ _
          have hgr3 := hgr.trans_wrote hw3
          have hbq : Below w.heap.size w wr := hbel.trans (hgr.below hbel.size (by intro b' off s e; cases e; exact Nat.le_refl _))
          have c1 : (m2 + 1) * 8 ≤ 140737488355328 := by omega
          have c2' : m2 + 1 ≤ 281474976710656 := by omega
          have hB2 : wo.heap.size ≤ (wr.setCell ⟨w.heap.size, z.toNat, none⟩ (.bool true)).heap.size := by rw [size_store]; exact hwq
          have hbq3 : Below w.heap.size w (wr.setCell ⟨w.heap.size, z.toNat, none⟩ (.bool true)) := hbq.setCell (p := ⟨w.heap.size, z.toNat, none⟩) (Nat.le_refl _) _
          have hcy3 := (hbq3.cell (p := ⟨b', off' + z.toNat, none⟩) hbb).trans hcy
          have hsz3 : Hd (wr.heap.size = (wr.setCell ⟨w.heap.size, z.toNat, none⟩ (.bool true)).heap.size) := (size_store _ _ _).symm
          subst hab
          clear hbS hsit hself hzc hnin hcy hst
          replace hns := Hd.i hns
          replace hjp := Hd.i hjp
          replace hmj := Hd.i hmj
          replace hapc := Hd.i hapc
          go_wp2_with (at_builtin; refine appendG_c rfl _ _ _ rfl wo.heap.size 2 (.int .i64 0) 8 Tryd.underlying22 infoInt rfl _ _ _ _ rfl hoc2.1 [.int .i64 z] 1 _ rfl hsz3.o rfl oneInt c1 c2' hB2 ?_; intro a2 n2 cap3 w2 hn2 ho2 hg2 ha2; have hb4 := hg2.below hB2 hoc2.ge; have hcy4 := (hb4.cell (p := ⟨b', off' + z.toNat, none⟩) (Nat.lt_of_lt_of_le hbb hbel.size)).trans hcy3)
          refine ⟨⟨j + 1, a2, n2, cap3, y, bs2.set z.toNat true, rfl, rfl, ?_, ⟨hjp.o, fun e => absurd e hns.o⟩, ?_, hg2.own hss hapc.o, hsi3, hgr3.trans_below hb4⟩, ?_⟩
          · show _ = _
            rw [it_succ, ← hz.o, hwy.o]
          · rw [run_succ, ← hz.o]
            exact OwnI.snoc ho2 hoc2.2 (by omega) (by omega)
          · have := hjp.o; have := hmj.o; have := hn2.o
            simp only [sliceLen]; omega
    · obtain rfl : k = n := by omega
      go_wp2
      have e : longTo p k = longC p := by rw [← longTo_full, hln.o]
      rw [e] at ho
      exact H'.o _ _ _ _ _ hbel (ho.mono (Nat.le_succ _))
end Go.Proofs.YtkojonjcikgikaaDoor
