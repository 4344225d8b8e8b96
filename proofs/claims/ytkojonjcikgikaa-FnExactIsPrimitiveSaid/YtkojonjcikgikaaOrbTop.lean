/- The contracts of Orbit, Orbits, IsTransitive, FixedPoints. -/
import Derived.Test.YtkojonjcikgikaaOrbits
namespace Go.Proofs.Ytkojonjcikgikaa
open Go.RowKit
set_option maxHeartbeats 1000000 in
theorem implOrbits_c {R : Ending → World → Prop} (d : Nat) (a : Option Addr) (n cap : Nat) (xss : List (List Int)) (w : World) (hm : Mat w a n xss) (hg : Hd (GenSet (d : Int) xss)) (H : MakesR R w (orbs d xss)) :
    Calls Try.prog 79 #[.int .i64 d, .slice a n cap] w R := by
  have H' := Hd.i H; clear H
  have hd20 : d ≤ 20 := by have := hg.o.2.1; omega
  have hgs := Hd.i (genSet_gens hg.o)
  obtain ⟨w1, hmk, hs1, hb1, how1⟩ := make_own w 59 4 (.bool false) 1 Try.underlying59 infoBool rfl d (by omega) (by omega)
  go_enter Try.func79, Try.ntmps79
  go_wp2
  go_loopw [5, 14] (fun v i wr => ∃ (k : Nat) (c : Option Addr) (m capc : Nat) (hs : List Hdr) (bs : List Bool), k ≤ d ∧ i = .int .i64 k ∧ v = .slice c m capc ∧ OwnH wr (w.heap.size + 1) c m capc hs (orbsTo d xss k) ∧
      Own wr w.heap.size 4 (some ⟨w.heap.size, 0, none⟩) d d (bs.map Value.bool) ∧ Hd (SeenIs bs d (SeenO xss k)) ∧ Below w.heap.size w wr ∧ Hd (w.heap.size + 1 ≤ wr.heap.size))
    (fun _ i _ => d - (intOf i).toNat)
  case atStart => exact ⟨0, none, 0, 0, [], List.replicate d false, Nat.zero_le _, rfl, rfl, by simpa [orbsTo, idl] using OwnH.nil w1 _, by simpa using how1, SeenIs.start d (fun y ⟨i, hi, _⟩ => by omega), hb1, Nat.le_of_eq hs1.o.symm⟩
  case round =>
    obtain ⟨k, c, m, capc, hs, bs, hk, rfl, rfl, ho, hse, hsi, hbel, hsz⟩ := hrel
    by_cases hlt : k < d
    · have hkr := Hd.i (show 0 ≤ (k : Int) ∧ (k : Int) < d by omega)
      have hmk2 : m ≤ k := by rw [← ho.length]; exact orbsTo_le d xss k
      obtain ⟨v0, hc0, hf0, hv0⟩ := hse.at' hlt
      obtain ⟨b, hb0, rfl⟩ : ∃ b, bs[k]? = some b ∧ v0 = .bool b := by
        have := hv0.o
        rw [List.getElem?_map, Option.map_eq_some_iff] at this
        obtain ⟨b, e, e'⟩ := this
        exact ⟨b, e, e'.symm⟩
      have hbS := hsi.o.2 k b hb0
      rw [seenO_self hgs.o hlt] at hbS
      clear hv0
      cases b with
      | true =>
        have hL := hbS.1 rfl
        have el := Hd.i (show orbsTo d xss (k + 1) = orbsTo d xss k by rw [orbsTo_succ, if_neg hL, List.append_nil])
        have hs2 := Hd.i (show SeenIs bs d (SeenO xss (k + 1)) from hsi.o.iff fun y => seenO_old hgs.o hlt hL y)
        clear hbS hb0
        go_wp2
        exact ⟨⟨k + 1, c, m, capc, hs, bs, by omega, by go_num, rfl, by rw [el.o]; exact ho, hse, hs2, hbel, hsz⟩, by simp [intOf]; omega⟩
      | false =>
        have hL : LeadO xss k := Classical.byContradiction fun h => by have := hbS.2 h; cases this
        have el := Hd.i (show orbsTo d xss (k + 1) = orbsTo d xss k ++ [orb d xss k] by rw [orbsTo_succ, if_pos hL])
        clear hbS hb0
        go_wp2_with fail
        refine implOrb_c d _ _ _ xss k _ (hm.up hbel) hg hlt ?_
        intro a2 m2 d2 w2 hb2 ho2
        have hm2 := Hd.i ho2.length
        have hle2 := ho2.le
        have hse2 := hse.up hb2
        have hbw := below_ups hbel hb2 hbel.size
        have hszw : Hd (w.heap.size + 1 ≤ w2.heap.size) := Nat.le_trans hsz.o hb2.size
        obtain ⟨wo, rfl⟩ : ∃ wo, wo = wr := ⟨wr, rfl⟩
        go_wp2
        go_loopw [27] (fun i wr => ∃ (j : Nat) (bs : List Bool), j ≤ m2 ∧ i = .int .i64 j ∧ Own wr w.heap.size 4 (some ⟨w.heap.size, 0, none⟩) d d (bs.map Value.bool) ∧ Hd (SeenIs bs d (fun y => SeenO xss k y ∨ y ∈ (orb d xss k).take j)) ∧ Wrote (some ⟨w.heap.size, 0, none⟩) w2 wr)
          (fun i _ => m2 - (intOf i).toNat)
        case atStart => exact ⟨0, bs, Nat.zero_le _, rfl, hse2, hsi.o.iff (fun y => by simp), Wrote.refl _ _⟩
        case round =>
          clear hse2 hc0 hf0
          obtain ⟨j, bs2, hj, rfl, hsq, hsi2, hwr⟩ := hrel
          have hap2 : Apart a2 (some (⟨w.heap.size, 0, none⟩ : Addr)) := by
            intro b off s off' s' e e'
            have := (ho2.1.lt e).1
            have := hsz.o
            cases e'
            omega
          by_cases hjl : j < m2
          · obtain ⟨by', offy, y, rfl, hby, hcy, hy, hy1, hy2⟩ := (ho2.ints.wrote hwr hap2).at hjl
            have hyr := orb_range (List.mem_of_getElem? hy.o)
            obtain ⟨hy0, hyd⟩ := hyr
            obtain ⟨v1, hc1, hf1, _⟩ := hsq.at' (k := y.toNat) (by omega)
            have hst := hsq.store (k := y.toNat) (.bool true)
            rw [← List.map_set] at hst
            have hsi3 : Hd (SeenIs (bs2.set y.toNat true) d (fun z => SeenO xss k z ∨ z ∈ (orb d xss k).take (j + 1))) := hsi2.o.set hy0 (fun z => by
              rw [take_succ_some hy.o, List.mem_append, List.mem_singleton, or_assoc])
            have hw3 := hwr.store rfl y.toNat (.bool true)
            replace hap2 := Hd.i hap2
            go_wp2
            exact ⟨⟨j + 1, bs2.set y.toNat true, by omega, by go_num, hst, hsi3, hw3⟩, by simp [intOf]; omega⟩
          · obtain rfl : j = m2 := by omega
            have hsi4 : Hd (SeenIs bs2 d (SeenO xss (k + 1))) := hsi2.o.iff fun y => by
              rw [List.take_of_length_le (by have := hm2.o; omega), seenO_succ, mem_orb hgs.o hkr.o]
            have hno : ∀ x ∈ hs, Off x.1 (fpI (some (⟨w.heap.size, 0, none⟩ : Addr))) := fun x hx b e ⟨off, s, e'⟩ => by
              have := ho.fp_ge b ⟨x, hx, e⟩; cases e'; omega
            have hno2 : Off c (fpI (some (⟨w.heap.size, 0, none⟩ : Addr))) := fun b ⟨o1, s1, e⟩ ⟨off, s, e'⟩ => by
              have := ho.ge b o1 s1 e; cases e'; omega
            have ho3 := (ho.up hb2).wroteF hwr.f ⟨hno2, hno⟩
            have hr3 : OwnI wr (w.heap.size + 1) a2 j d2 (orb d xss k) := (ho2.wrote hwr hap2).mono (by have := hsz.o; omega)
            have hac : Apart a2 c := by intro b off s1 off' s' e e'; have := (ho2.1.lt e).1; have := (ho.1.lt e').2; omega
            have hax : ∀ x ∈ hs, Apart x.1 a2 := by
              intro x hx b off s1 off' s' e e'
              have := ho.fp_lt b ⟨x, hx, off, s1, e⟩
              have := (ho2.1.lt e').1
              omega
            have hb3 := hbw.trans (hwr.below (fun b off s e => by cases e; exact Nat.le_refl _))
            have hsz3 : w.heap.size + 1 ≤ wr.heap.size := by rw [hwr.size]; exact hszw.o
            have c1 : (m + 1) * 24 ≤ 140737488355328 := by omega
            have c2 : m + 1 ≤ 281474976710656 := by omega
            have hown := ho3.1
            replace hac := Hd.i hac
            replace hax := Hd.i hax
            replace hno := Hd.i hno
            replace hno2 := Hd.i hno2
            replace hap2 := Hd.i hap2
            go_wp2_with (at_builtin; refine appendL_c rfl _ _ _ rfl (w.heap.size + 1) 22 (.slice none 0 0) 24 Try.underlying36 infoSl rfl _ _ _ _ rfl hown [.slice a2 j d2] 1 rfl rfl oneSlice c1 c2 hsz3 ?_; intro a3 n3 cap3 w3 hn3 ho4 hg3 ha3)
            have hpush := ho3.push (x := (a2, j, d2)) hr3 hac.o hax.o hg3 ho4 ha3.o
            rw [← el.o] at hpush
            exact ⟨⟨k + 1, a3, n3, cap3, hs ++ [(a2, j, d2)], bs2, by omega, by go_num, rfl, hpush, hg3.own hsq (fun b off s off' s' e e' => by cases e; exact hno2.o _ ⟨off', s', e'⟩ ⟨_, _, rfl⟩), hsi4, hb3.trans (hg3.below (Nat.le_of_lt hsz3) (fun b off s e => Nat.le_of_lt (ho3.ge b off s e))), Nat.le_trans hsz3 hg3.size⟩, by simp [intOf]; omega⟩
    · obtain rfl : k = d := by omega
      go_wp2
      exact H'.o _ _ _ _ _ hbel (ho.mono (Nat.le_succ _))
end Go.Proofs.Ytkojonjcikgikaa
