/- Power. -/
import Derived.Test.YtockombopcjldaaOrder
namespace Go.Proofs.Ytockombopcjldaa
open Go.RowKit

def powN (p : List Int) (k : Nat) : List Int := (idl p.length).map (it p k)
noncomputable def pPower (p : List Int) (z : Int) : List Int := if IsPerm p then powN p (z % (orderN p : Int)).toNat else []
theorem powN_length (p : List Int) (k : Nat) : (powN p k).length = p.length := by simp [powN, idl_length]
theorem powN_zero (p : List Int) : powN p 0 = idl p.length := by
  unfold powN
  conv => rhs; rw [← List.map_id (idl p.length)]
  rfl
theorem powN_succ (p : List Int) (k : Nat) : comp (powN p k) p = powN p (k + 1) := by
  unfold comp powN
  rw [List.map_map]
  rfl
theorem powN_range {p : List Int} (hp : IsPerm p) (k : Nat) : ∀ x ∈ powN p k, 0 ≤ x ∧ x < p.length := by
  intro x hx
  simp only [powN, List.mem_map] at hx
  obtain ⟨y, hy, rfl⟩ := hx
  have hy := mem_idl.1 hy
  exact it_range hp hy.1 hy.2 k
theorem orderN_pos {p : List Int} (hp : IsPerm p) : 1 ≤ orderN p ∧ orderN p ≤ 232792560 := lcms_big (pers_range hp (Nat.le_refl _))
theorem per_dvd_order {p : List Int} {x : Int} (hx : 0 ≤ x ∧ x < p.length) : per p x ∣ orderN p :=
  (lcms_dvd _ _).1 (Nat.dvd_refl _) _ (List.mem_map.2 ⟨x, mem_idl.2 hx, rfl⟩)
theorem it_emod {p : List Int} (hp : IsPerm p) {x : Int} (hx : 0 ≤ x ∧ x < p.length) (z : Int) : it p (z % (orderN p : Int)).toNat x = it p (z % (per p x : Int)).toNat x := by
  have ho := (orderN_pos hp).1
  have hs := per_spec hp hx
  rw [it_mod hs.2.2.1 (z % (orderN p : Int)).toNat]
  congr 1
  have h1 := Int.emod_nonneg z (show (orderN p : Int) ≠ 0 by omega)
  have h2 := Int.emod_nonneg z (show (per p x : Int) ≠ 0 by omega)
  have h3 := Int.emod_emod_of_dvd z (Int.natCast_dvd_natCast.2 (per_dvd_order hx))
  have h4 : (((z % (orderN p : Int)).toNat % per p x : Nat) : Int) = z % (per p x : Int) := by
    rw [Int.natCast_emod, Int.toNat_of_nonneg h1, h3]
  omega
/-- Go's remainder, brought up. -/
theorem tmod_up (z : Int) (n : Nat) (h : 1 ≤ n) : -(n : Int) < z.tmod n ∧ z.tmod n < n ∧ (z.tmod n < 0 → z.tmod n + n = z % n) ∧ (0 ≤ z.tmod n → z.tmod n = z % n) ∧ (z.tmod n + n) % n = z % n := by
  have h0 := Int.emod_nonneg z (show (n : Int) ≠ 0 by omega)
  have h1 := Int.emod_lt_of_pos z (show (0 : Int) < n by omega)
  have h2 := Int.tmod_lt_of_pos z (show (0 : Int) < n by omega)
  have h3 := Int.lt_tmod_of_pos z (show (0 : Int) < n by omega)
  have e : (z.tmod n) % n = z % n := by
    have := Int.mul_tdiv_add_tmod z n
    conv => rhs; rw [← this]
    rw [Int.add_comm, Int.add_mul_emod_self_left]
  have e2 : (z.tmod n + n) % n = z % n := by rw [Int.add_emod_right, e]
  refine ⟨h3, h2, fun hn => ?_, fun hn => ?_, e2⟩
  · rw [← e2, Int.emod_eq_of_lt (by omega) (by omega)]
  · rw [← e, Int.emod_eq_of_lt hn h2]

set_option maxHeartbeats 1000000 in
theorem implPower_c {R : Ending → World → Prop} (a : Option Addr) (n cap : Nat) (p : List Int) (z : Int) (w : World) (h : Ints w a n p) (hp : Hd (IsPerm p)) (_ : -9223372036854775808 ≤ z ∧ z ≤ 9223372036854775807) (H : MakesI R w (powN p (z % (orderN p : Int)).toNat)) :
    Calls Try.prog 75 #[.slice a n cap, .int .i64 z] w R := by
  have H' := Hd.i H; clear H
  have hln := Hd.i h.length
  have hn : n ≤ 20 := by have := hp.o.2.1; have := hln.o; omega
  have hop := orderN_pos hp.o
  obtain ⟨o, ho⟩ : ∃ o, o = orderN p := ⟨_, rfl⟩
  rw [← ho] at hop
  have hup := tmod_up z o hop.1
  obtain ⟨K, hK⟩ : ∃ K : Nat, K = (z % (orderN p : Int)).toNat := ⟨_, rfl⟩
  rw [← hK] at H'
  have hKz : (K : Int) = z % (o : Int) := by
    rw [hK, ← ho]
    exact Int.toNat_of_nonneg (Int.emod_nonneg z (by omega))
  have hKo : K < o := by have := Int.emod_lt_of_pos z (show (0 : Int) < o by omega); omega
  have ho0 : ((o : Int) == 0) = false := by rw [beq_eq_false_iff_ne]; omega
  have hop1 := hop.1
  have hop2 := hop.2
  have hu1 := hup.1
  have hu2 := hup.2.1
  have hneg : z.tmod o < 0 → z.tmod o + o = K := fun e => by rw [hup.2.2.1 e, hKz]
  have hpos : ¬ z.tmod o < 0 → z.tmod o = K := fun e => by rw [hup.2.2.2.1 (by omega), hKz]
  replace hneg := Hd.i hneg
  replace hpos := Hd.i hpos
  replace ho := Hd.i ho
  replace hK := Hd.i hK
  clear hup hKz hop
  have fin : ∀ (wr : World) (v : Value), True := fun _ _ => trivial
  clear fin
  go_enter Try.func75, Try.ntmps75
  go_wp2_with fail
  refine implOrder_c _ _ _ p _ h hp ?_
  intro w1 hb1
  rw [← ho.o]
  by_cases hn0 : z.tmod o < 0
  · have e1 := Hd.i (hneg.o hn0)
    go_wp2_with fail
    refine implOrder_c _ _ _ p _ (h.up hb1) hp ?_
    intro w2 hb2
    rw [← ho.o]
    have hb12 := below_ups hb1 hb2 hb1.size
    go_wp2_with (first | (go_at_call 74; refine length_c _ _ _ _ ?_) | (go_at_call 85; refine implIdentity_c n _ (by omega) ?_; intro b3 m3 d3 w3 hb3 ho3))
    rw [e1.o]
    have hb13 := below_ups hb12 hb3 hb12.size
    replace ho3 := ho3.mono hb12.size
    go_loopw [1, 5] (fun k v wr => ∃ (r : Nat) (c : Option Addr) (m capc : Nat), r ≤ K ∧ k = .int .i64 r ∧ v = .slice c m capc ∧ OwnI wr w.heap.size c m capc (powN p (K - r)) ∧ Below w.heap.size w wr) (fun k _ _ => (intOf k).toNat)
    case atStart => exact ⟨K, _, _, _, Nat.le_refl _, rfl, rfl, by rw [Nat.sub_self, powN_zero, hln.o]; exact ho3, hb13⟩
    case round =>
      obtain ⟨r, c, m, capc, hr, rfl, rfl, hor, hb⟩ := hrel
      by_cases hr0 : 0 < r
      · have hm20 : m ≤ 1000000 := by have := hor.length; rw [powN_length] at this; have := hln.o; omega
        have hrg : Hd (∀ x ∈ powN p (K - r), 0 ≤ x ∧ x < n) := by have := powN_range hp.o (K - r); rw [hln.o] at this; exact this
        go_wp2_with fail
        refine implCompose_c _ _ _ (powN p (K - r)) _ _ _ p _ hor.ints (h.up hb) hm20 hrg ?_
        intro b4 m4 d4 w4 hb4 ho4
        have hb5 := below_ups hb hb4 hb.size
        go_wp2
        refine ⟨⟨r - 1, _, _, _, by omega, by rw [show ((r - 1 : Nat) : Int) = (r : Int) - 1 by omega], rfl, ?_, hb5⟩, by simp [intOf]; omega⟩
        rw [show K - (r - 1) = (K - r) + 1 by omega, ← powN_succ]
        exact ho4.mono hb.size
      · obtain rfl : r = 0 := by omega
        go_wp2
        exact H'.o _ _ _ _ hb hor
  · have e1 := Hd.i (hpos.o (by omega))
    go_wp2_with (first | (go_at_call 74; refine length_c _ _ _ _ ?_) | (go_at_call 85; refine implIdentity_c n _ (by omega) ?_; intro b3 m3 d3 w3 hb3 ho3))
    rw [e1.o]
    have hb13 := below_ups hb1 hb3 hb1.size
    replace ho3 := ho3.mono hb1.size
    go_loopw [1, 5] (fun k v wr => ∃ (r : Nat) (c : Option Addr) (m capc : Nat), r ≤ K ∧ k = .int .i64 r ∧ v = .slice c m capc ∧ OwnI wr w.heap.size c m capc (powN p (K - r)) ∧ Below w.heap.size w wr) (fun k _ _ => (intOf k).toNat)
    case atStart => exact ⟨K, _, _, _, Nat.le_refl _, rfl, rfl, by rw [Nat.sub_self, powN_zero, hln.o]; exact ho3, hb13⟩
    case round =>
      obtain ⟨r, c, m, capc, hr, rfl, rfl, hor, hb⟩ := hrel
      by_cases hr0 : 0 < r
      · have hm20 : m ≤ 1000000 := by have := hor.length; rw [powN_length] at this; have := hln.o; omega
        have hrg : Hd (∀ x ∈ powN p (K - r), 0 ≤ x ∧ x < n) := by have := powN_range hp.o (K - r); rw [hln.o] at this; exact this
        go_wp2_with fail
        refine implCompose_c _ _ _ (powN p (K - r)) _ _ _ p _ hor.ints (h.up hb) hm20 hrg ?_
        intro b4 m4 d4 w4 hb4 ho4
        have hb5 := below_ups hb hb4 hb.size
        go_wp2
        refine ⟨⟨r - 1, _, _, _, by omega, by rw [show ((r - 1 : Nat) : Int) = (r : Int) - 1 by omega], rfl, ?_, hb5⟩, by simp [intOf]; omega⟩
        rw [show K - (r - 1) = (K - r) + 1 by omega, ← powN_succ]
        exact ho4.mono hb.size
      · obtain rfl : r = 0 := by omega
        go_wp2
        exact H'.o _ _ _ _ hb hor

theorem topImplPower {R : Ending → World → Prop} {B : Nat} (a : Option Addr) (n cap : Nat) (p : List Int) (z : Int) (w : World) (h : OwnI w B a n cap p) (hz : -9223372036854775808 ≤ z ∧ z ≤ 9223372036854775807) (H : MakesI R w (pPower p z)) :
    Calls Try.prog 33 #[.slice a n cap, .int .i64 z] w R := by
  have H' := Hd.i H; clear H
  by_cases hp : IsPerm p
  · have e := Hd.i (show pPower p z = powN p (z % (orderN p : Int)).toNat by simp [pPower, hp])
    have hdec := Hd.i (decide_eq_true hp)
    replace hp := Hd.i hp
    go_enter Try.func33, Try.ntmps33
    go_wp2_with (first | (go_at_call 58; refine implIsPerm_c _ _ _ p _ h.ints ?_; rw [hdec.o]) | (go_at_call 75; refine implPower_c _ _ _ p z _ h.ints hp hz ?_; intro a2 n2 c2 w2 hb2 ho2))
    exact H'.o _ _ _ _ hb2 (by rw [e.o]; exact ho2)
  · have e := Hd.i (show pPower p z = [] by simp [pPower, hp])
    have hdec := Hd.i (decide_eq_false hp)
    go_enter Try.func33, Try.ntmps33
    go_wp2_with (first | (go_at_call 58; refine implIsPerm_c _ _ _ p _ h.ints ?_; rw [hdec.o]))
    exact H'.o _ _ _ _ (Below.refl _ _) (by rw [e.o]; exact OwnI.nil _ _)

set_option maxHeartbeats 1000000 in
theorem topSpecPower {R : Ending → World → Prop} {B : Nat} (a : Option Addr) (n cap : Nat) (p : List Int) (z : Int) (w : World) (h : OwnI w B a n cap p) (_ : -9223372036854775808 ≤ z ∧ z ≤ 9223372036854775807) (H : MakesI R w (pPower p z)) :
    Calls Try.prog 32 #[.slice a n cap, .int .i64 z] w R := by
  have H' := Hd.i H; clear H
  have hln := Hd.i h.length
  have hle := h.le
  by_cases hp : IsPerm p
  · have e := Hd.i (show pPower p z = powN p (z % (orderN p : Int)).toNat by simp [pPower, hp])
    have hdec := Hd.i (decide_eq_true hp)
    have hn : n ≤ 20 := by have := hp.2.1; have := hln.o; omega
    replace hp := Hd.i hp
    obtain ⟨K, hK⟩ : ∃ K : Nat, Hd (K = (z % (orderN p : Int)).toNat) := ⟨_, rfl⟩
    rw [← hK.o] at e
    go_enter Try.func32, Try.ntmps32
    go_wp2
    go_loopw [5, 6] (fun v i wr => ∃ (k : Nat) (c : Option Addr) (m capc : Nat), k ≤ n ∧ i = .int .i64 k ∧ v = .slice c m capc ∧ OwnI wr w.heap.size c m capc ((idl k).map (it p K)) ∧ Below w.heap.size w wr) (fun _ i _ => n - (intOf i).toNat)
    case atStart => exact ⟨0, _, 0, 0, Nat.zero_le _, rfl, rfl, OwnI.emptyLit w (Nat.le_refl _), (Below.refl _ _).alloc (Nat.le_refl _) _⟩
    case round =>
      obtain ⟨k, c, m, capc, hk, rfl, rfl, ho, hb⟩ := hrel
      by_cases hlt : k < n
      · have hkr := Hd.i (show 0 ≤ (k : Int) ∧ (k : Int) < p.length by have := hln.o; omega)
        have hmk : Hd (m = k) := by show m = k; rw [← ho.length]; simp [idl_length]
        go_wp2_with fail
        refine specIsPerm_c _ _ _ p _ (h.ints.up hb) h.cap ?_
        intro w1 hd1
        rw [hdec.o]
        have hb1 := hd1.up hb
        have ho1 := hd1.ownI ho
        go_wp2_with fail
        refine cycleOf_c _ _ _ p _ _ (h.ints.up hb1) hp (by omega) (by omega) ?_
        intro b2 m2 d2 w2 hb2 ho2
        have hm2 : m2 = per p k := by rw [← ho2.length, cyc_length]
        have hper := per_spec hp.o hkr.o
        rw [← hm2] at hper
        have hm1 : 1 ≤ m2 := hper.1
        have hm20 : m2 ≤ 20 := by have := hper.2.1; have := hln.o; omega
        have hup := tmod_up z m2 hm1
        obtain ⟨J, hJ⟩ : ∃ J : Nat, (J : Int) = z % (m2 : Int) := ⟨(z % (m2 : Int)).toNat, Int.toNat_of_nonneg (Int.emod_nonneg z (by omega))⟩
        have hJm : J < m2 := by have := Int.emod_lt_of_pos z (show (0 : Int) < m2 by omega); omega
        have hu1 := hup.1
        have hu2 := hup.2.1
        have he1 : (z.tmod m2 + m2) % (m2 : Int) = (J : Int) := by rw [hup.2.2.2.2, hJ]
        have he2 : (z.tmod m2 + m2).tmod (m2 : Int) = (J : Int) := by rw [Int.tmod_eq_emod_of_nonneg (by omega)]; exact he1
        have hm0 : ((m2 : Int) == 0) = false := by rw [beq_eq_false_iff_ne]; omega
        have eit : it p K k = it p J k := by
          rw [hK.o, it_emod hp.o hkr.o z, ← hm2]
          congr 1
          omega
        replace hJ := Hd.i hJ
        replace hm2 := Hd.i hm2
        replace eit := Hd.i eit
        have hb3 := below_ups hb1 hb2 hb1.size
        have ho3 := ho1.up hb2
        obtain ⟨bb, y, rfl, _, hyl, hcy, _, hy⟩ := ho2.look hJm
        have hyv : y = it p K k := by
          have h1 := hy.o
          rw [cyc_eq, run_get (by have := hm2.o; omega)] at h1
          rw [eit.o]; exact (Option.some.inj h1).symm
        have hyr := it_range hp.o hkr.o.1 hkr.o.2 K
        rw [← hyv] at hyr
        have hyr2 : y < 20 := by have := hln.o; omega
        have hyr1 := hyr.1
        replace hyv := Hd.i hyv
        have c1 : (m + 1) * 8 ≤ 140737488355328 := by have := hmk.o; omega
        have c2 : m + 1 ≤ 281474976710656 := by omega
        have hs := hb3.size
        clear hup hper hyr
        go_wp2_with (at_builtin; refine appendL_c rfl _ _ _ rfl w.heap.size 2 (.int .i64 0) 8 Try.underlying22 infoInt rfl _ _ _ _ rfl ho3.1 [.int .i64 y] 1 rfl rfl oneInt c1 c2 hs ?_; intro a4 n4 cap4 w4 hn4 ho4 hg4 ha4)
        refine ⟨⟨k + 1, a4, n4, cap4, by omega, by go_num, rfl, ?_, ho3.grewBelow hg4 hb3 hs⟩, by simp [intOf]; omega⟩
        rw [idl_succ, List.map_append, List.map_singleton, ← hyv.o]
        exact OwnI.snoc ho4 ho3.2 (by omega) (by omega)
      · obtain rfl : k = n := by omega
        go_wp2
        exact H'.o _ _ _ _ hb (by rw [e.o, powN, hln.o]; exact ho)
  · have e := Hd.i (show pPower p z = [] by simp [pPower, hp])
    have hdec := Hd.i (decide_eq_false hp)
    have hb0 := (Below.refl w.heap.size w).alloc (Nat.le_refl _) (.cells #[] 2)
    have ho0 := OwnI.emptyLit w (B := w.heap.size) (Nat.le_refl _)
    go_enter Try.func32, Try.ntmps32
    go_wp2
    go_loopw [5, 6] (fun v i wr => i = .int .i64 0 ∧ v = .slice (some ⟨w.heap.size, 0, none⟩) 0 0 ∧ wr = w.alloc (.cells #[] 2)) (fun _ _ _ => 0)
    case atStart => exact ⟨rfl, rfl, rfl⟩
    case round =>
      obtain ⟨rfl, rfl, rfl⟩ := hrel
      by_cases hn0 : 0 < n
      · go_wp2_with fail
        refine specIsPerm_c _ _ _ p _ (h.ints.up hb0) h.cap ?_
        intro w1 hd1
        rw [hdec.o]
        go_wp2
        exact H'.o _ _ _ _ (hd1.up hb0) (by rw [e.o]; exact hd1.ownI ho0)
      · go_wp2
        exact H'.o _ _ _ _ hb0 (by rw [e.o]; exact ho0)
end Go.Proofs.Ytockombopcjldaa
