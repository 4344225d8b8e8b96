/- The law FnCyclesAndSign: for every input it returns true, and what the argument holds is as it was. The walk, and the row. No condition. -/
import Derived.Test.YtkojonjcikgikaaLike
import Derived.Test.YtkojonjcikgikaaSup
import Derived.Test.YtkojonjcikgikaaOrder
import Derived.Test.YtkojonjcikgikaaPureSign
import Derived.ProofKit
import Derived.OpenShut
import Derived.ShutString
import Derived.ChangeOld
namespace Go.Proofs.Ytkojonjcikgikaa
open Go.RowKit

theorem lead_cyc {p c : List Int} (hp : IsPerm p) (hc : c ∈ longC p) {j : Nat} {x : Int} (hx : c[j]? = some x) :
    (0 ≤ x ∧ x < p.length) ∧ c[(j + 1) % c.length]? = some (at0 p x) ∧ ∃ y, c[0]? = some y ∧ y ≤ x := by
  obtain ⟨y, h0, h1, hl, h2, rfl⟩ := mem_longC.1 hc
  have hy : 0 ≤ y ∧ y < p.length := ⟨h0, h1⟩
  have hj : j < per p y := by rw [← cyc_length p y]; exact (List.getElem?_eq_some_iff.1 hx).1
  have e : it p j y = x := by rw [cyc_eq, run_get hj] at hx; exact Option.some.inj hx
  refine ⟨by rw [← e]; exact it_range hp h0 h1 j, ?_, y, ?_, hl x (List.mem_of_getElem? hx)⟩
  · rw [cyc_length]
    have hlt : (j + 1) % per p y < per p y := Nat.mod_lt _ (by omega)
    rw [cyc_eq, run_get hlt, ← it_mod (per_spec hp hy).2.2.1 (j + 1), it_succ, e]
  · rw [cyc_eq, run_get (by omega)]; rfl
theorem sum_takeS {l : List (List Int)} {k : Nat} {c : List Int} (h : l[k]? = some c) : ((l.take (k + 1)).map List.length).sum = ((l.take k).map List.length).sum + c.length := by
  rw [take_succ_some h, List.map_append, List.sum_append]; simp

theorem Drew.cell {w w' : World} (h : Drew w w') (p : Addr) : w'.cell? p = w.cell? p := by obtain ⟨m, rfl⟩ := h; rfl

set_option maxHeartbeats 4000000 in
set_option maxRecDepth 100000 in
theorem fnCyclesAndSign_law (a0 : Option Addr) (n0 c0 : Nat) (w : World) (hby : Bytes w a0 n0) :
    Calls Try.prog 7 #[.slice a0 n0 c0] w fun e w' => e = .returned (.bool true) ∧ Below w.heap.size w w' := by
  obtain ⟨R, hR⟩ : ∃ R : Ending → World → Prop, R = fun e w' => e = .returned (.bool true) ∧ Below w.heap.size w w' := ⟨_, rfl⟩
  have H : Hd (∀ w', Below w.heap.size w w' → R (.returned (.bool true)) w') := by intro w' h; rw [hR]; exact ⟨rfl, h⟩
  rw [← hR]; clear hR
  by_cases hn0 : 4096 < n0
  · go_enter Try.func7, Try.ntmps7
    go_wp2_with fail
    refine big_c _ _ _ _ ?_
    go_wp2_with fail
    exact H.o _ (Below.refl _ _)
  go_enter Try.func7, Try.ntmps7
  go_wp2_with fail
  refine big_c _ _ _ _ ?_
  go_wp2_with fail
  refine roll_c _ _ _ _ _ hby (by omega) ?_
  intro g w1 hb1 hd1
  have hgl := hd1.lt
  have hg0 : ∀ b off s, (some (⟨g, 0, none⟩ : Addr)) = some ⟨b, off, s⟩ → w.heap.size ≤ b := by intro b off s e; cases e; exact hgl.1
  go_wp2_with fail
  refine below_c _ g _ _ hd1 (by omega) ?_
  intro v w2 hv0 hv1 hw2 hd2
  replace hd1 := hd2; clear hd2
  have hB := Hd.i (hb1.trans (hw2.below hg0))
  replace hgl := hd1.lt
  obtain ⟨n, hn⟩ : ∃ n : Nat, 1 + v = (n : Int) := ⟨(1 + v).toNat, by omega⟩
  have hn1 : 1 ≤ n := by omega
  have hn2 : n ≤ 9 := by omega
  replace hn := Hd.i hn
  have hn20 : n ≤ 20 := by omega
  clear hw2 hb1
  go_wp2_with fail
  refine swapPermutation_z _ g n _ _ hn hd1 hn1 hn20 ?_
  intro b3 d3 p w3 hp lp hw3 hd3 ho3
  replace hB := Hd.i (hB.o.trans (hw3.below hB.o.size hg0))
  have ap3 := Hd.i (dice_apart ho3 hgl.2)
  clear hw3
  go_wp2_with fail
  refine swapPermutation_z _ g n _ _ hn hd3 hn1 hn20 ?_
  intro b4 d4 q w4 hq lq hw4 hd4 ho4
  replace hB := Hd.i (hB.o.trans (hw4.below hB.o.size hg0))
  replace ho3 := hw4.ownI ho3 ap3.o
  clear hw4 ap3 hd1 hd3 hd4
  have hpq : Hd (PermPair p q) := ⟨by rw [lp.o, lq.o], hp.o, hq.o⟩
  have ipq := Hd.i (isPerm_comp hpq.o)
  go_wp2_with fail
  refine composePair _ _ _ p _ _ _ q _ ho3 ho4 hpq ?_
  intro b6 m6 d6 w6 hb6 ho6
  replace ho3 := ho3.up hb6
  replace ho4 := ho4.up hb6
  replace hB := Hd.i (below_ups hB.o hb6 hB.o.size)
  clear hb6
  go_wp2_with fail
  refine topImplCycles _ _ _ p _ ho3 ?_
  intro b7 m7 d7 hs7 w7 hb7 ho7
  rw [show pCycles p = longC p by simp [pCycles, hp.o]] at ho7
  replace ho3 := ho3.up hb7
  replace ho4 := ho4.up hb7
  replace ho6 := ho6.up hb7
  replace hB := Hd.i (below_ups hB.o hb7 hB.o.size)
  clear hb7
  have hml := Hd.i ho7.length
  have hlsum := Hd.i (longC_cover hp.o)
  have hm7 : m7 ≤ 20 := by have h1 := hml.o; have h2 := longTo_le p p.length; rw [longTo_full] at h2; have := hp.o.2.1; omega
  go_wp2
  go_loopw [10, 11] (fun s i wo => ∃ k t : Nat, k ≤ m7 ∧ i = .int .i64 k ∧ s = .int .i64 t ∧ Hd (t = (((longC p).take k).map List.length).sum) ∧ Drew w7 wo) (fun _ i _ => m7 - (intOf i).toNat)
  case atStart => exact ⟨0, 0, Nat.zero_le _, rfl, rfl, by simp [Hd], Drew.refl _⟩
  case round =>
    obtain ⟨k, t, hk, rfl, rfl, ht, hdo⟩ := hrel
    have htb : t ≤ 400 := by
      rw [ht.o]
      have h3 : ∀ l : List (List Int), (∀ c ∈ l, c.length ≤ 20) → (l.map List.length).sum ≤ 20 * l.length := by
        intro l
        induction l with
        | nil => simp
        | cons x u ih =>
          intro hl
          have h1 := hl x List.mem_cons_self
          have h2 := ih fun y hy => hl y (List.mem_cons_of_mem _ hy)
          simp only [List.map_cons, List.sum_cons, List.length_cons]
          omega
      have h4 := h3 ((longC p).take k) fun c hc => (longC_len hp.o (List.mem_of_mem_take hc)).2
      rw [List.length_take] at h4
      omega
    by_cases hlt : k < m7
    · obtain ⟨b, off, a', n', c', ys, e7, hbl, hcell, hyk, hin, _⟩ := ho7.rows.at hlt
      subst e7
      have hyl := Hd.i hin.length
      have hyc := Hd.i (List.mem_of_getElem? hyk.o)
      have hys := longC_len hp.o hyc.o
      have hn'1 : 1 < n' := by have := hyl.o; omega
      have hn'2 : n' ≤ 20 := by have := hyl.o; omega
      have hst := Hd.i (sum_takeS hyk.o)
      clear hys
      obtain ⟨wo, rfl⟩ : ∃ wo, wo = wr := ⟨wr, rfl⟩
      have hco := (hdo.cell ⟨b, off + k, none⟩).trans hcell
      go_wp2
      go_loopw [12] (fun i wi => ∃ j : Nat, j ≤ n' ∧ i = .int .i64 j ∧ Drew w7 wi) (fun i _ => n' - (intOf i).toNat)
      case atStart => exact ⟨0, Nat.zero_le _, rfl, hdo⟩
      case round =>
        obtain ⟨j, hj, rfl, hdi⟩ := hrel
        have hci := (hdi.cell ⟨b, off + k, none⟩).trans hcell
        by_cases hlt2 : j < n'
        · obtain ⟨b1, o1, x, ea, hb1, hc1, hx, hx1, hx2⟩ := (hdi.ints hin).at hlt2
          subst ea
          have hL := lead_cyc hp.o hyc.o hx.o
          obtain ⟨r, hr⟩ : ∃ r : Nat, r = (j + 1) % n' := ⟨_, rfl⟩
          have hrn : r < n' := by rw [hr]; exact Nat.mod_lt _ (by omega)
          obtain ⟨_, _, y, ea, _, hc2, hy, _, _⟩ := (hdi.ints hin).at hrn
          cases ea
          obtain ⟨_, _, z, ea, _, hc3, hz, _, _⟩ := (hdi.ints hin).at (k := 0) (by omega)
          cases ea
          rw [hyl.o, ← hr] at hL
          have hxr := hL.1
          have hxn : x < 1 + v := by have := hn.o; have := lp.o; omega
          have hx0 := hxr.1
          have hxn' : x < (n : Int) := by have := hxr.2; have := lp.o; omega
          have hln3 := ho3.length
          obtain ⟨b3', o3, y', e3, hb3', hc4, hy', _, _⟩ := (hdi.ownI ho3).ints.at (k := x.toNat) (by omega)
          subst e3
          have ey : y' = y := by
            have h1 := at0_of hy'.o
            have h2 := hL.2.1
            rw [hy.o, h1] at h2
            exact (Option.some.inj h2).symm
          subst ey
          have hzx : z ≤ x := by
            obtain ⟨z', h1, h2⟩ := hL.2.2
            rw [hz.o] at h1
            rw [Option.some.inj h1]; exact h2
          have t1 : decide (x < 0) = false := decide_eq_false (by omega)
          have t2 : decide (x ≥ 1 + v) = false := decide_eq_false (by omega)
          have t2' : decide (1 + v ≤ x) = false := decide_eq_false (by omega)
          have t3 : decide (x < z) = false := decide_eq_false (by omega)
          have hrm : Int.tmod ((j : Int) + 1) (n' : Int) = (r : Int) := by
            rw [hr, Int.tmod_eq_emod_of_nonneg (by omega)]; simp
          have hn0 : ((n' : Int) == 0) = false := by rw [beq_eq_false_iff_ne]; omega
          replace hr := Hd.i hr
          replace hln3 := Hd.i hln3
          clear hL
          rw [Nat.add_zero] at hc3
          go_wp2
          go_quiet (fail)
          go_wp2
          go_roundw
          case rel => exact ⟨j + 1, by omega, by go_num, hdi.step nq⟩
          case measure => simp [intOf]; omega
        · obtain rfl : j = n' := by omega
          go_wp2
          exact ⟨⟨k + 1, t + j, by omega, by go_num, by go_num, by show _ = _; rw [hst.o, ← ht.o, hyl.o], hdi⟩, by simp [intOf]; omega⟩
    · obtain rfl : k = m7 := by omega
      rw [List.take_of_length_le (by have := hml.o; omega)] at ht
      have ho3' := hdo.ownI ho3
      have ho4' := hdo.ownI ho4
      have ho6' := hdo.ownI ho6
      replace hB := Hd.i (hdo.up hB.o)
      have eS := Hd.i (show pSupport p = supTo p p.length by simp [pSupport, hp.o])
      have hmul := Hd.i (pSign_comp hpq.o)
      clear ho3 ho4 ho6 ho7 hdo
      go_wp2_with fail
      refine topImplSupport _ _ _ p _ ho3' ?_
      intro b8 m8 d8 w8 hb8 ho8
      replace ho3' := ho3'.up hb8
      replace ho4' := ho4'.up hb8
      replace ho6' := ho6'.up hb8
      replace hB := Hd.i (below_ups hB.o hb8 hB.o.size)
      clear hb8
      have hm8 : t = m8 := by have h1 := ho8.length; rw [eS.o, ← hlsum.o] at h1; rw [ht.o, ← h1]; rfl
      subst hm8
      go_wp2_with fail
      refine topImplPermutationLess _ _ _ p _ _ _ q _ ho3' ho4' ?_
      intro w9 hb9
      replace ho3' := ho3'.up hb9
      replace ho4' := ho4'.up hb9
      replace ho6' := ho6'.up hb9
      replace ho8 := ho8.up hb9
      replace hB := Hd.i (below_ups hB.o hb9 hB.o.size)
      clear hb9
      go_wp2_with fail
      refine topSpecSupport _ _ _ p _ ho3' ?_
      intro b10 m10 d10 w10 hb10 ho10
      replace ho3' := ho3'.up hb10
      replace ho4' := ho4'.up hb10
      replace ho6' := ho6'.up hb10
      replace ho8 := ho8.up hb10
      replace hB := Hd.i (below_ups hB.o hb10 hB.o.size)
      clear hb10
      go_wp2_with fail
      refine likeInts_same _ _ _ _ _ _ _ _ _ ho8.ints ho10.ints rfl ?_
      intro w11 hd11
      replace ho3' := hd11.ownI ho3'
      replace ho4' := hd11.ownI ho4'
      replace ho6' := hd11.ownI ho6'
      replace hB := Hd.i (hd11.up hB.o)
      clear hd11 ho8 ho10
      go_wp2_with fail
      refine topImplSign _ _ _ (comp p q) _ ho6' ?_
      intro w12 hb12
      replace ho3' := ho3'.up hb12
      replace ho4' := ho4'.up hb12
      replace hB := Hd.i (below_ups hB.o hb12 hB.o.size)
      clear hb12 ho6'
      go_wp2_with fail
      refine topImplSign _ _ _ p _ ho3' ?_
      intro w13 hb13
      replace ho3' := ho3'.up hb13
      replace ho4' := ho4'.up hb13
      replace hB := Hd.i (below_ups hB.o hb13 hB.o.size)
      clear hb13
      have hsp : Hd (wrap64 (pSign p * pSign q) = pSign (comp p q)) := by
        rw [hmul.o]
        refine IntWalk.wrap64_in _ ?_
        rw [← hmul.o]
        unfold pSign sgn
        split <;> (try split) <;> omega
      go_wp2_with fail
      refine topImplSign _ _ _ q _ ho4' ?_
      intro w14 hb14
      replace ho3' := ho3'.up hb14
      replace ho4' := ho4'.up hb14
      replace hB := Hd.i (below_ups hB.o hb14 hB.o.size)
      clear hb14
      have hsp2 : (pSign (comp p q) == wrap64 (pSign p * pSign q)) = true := by rw [hsp.o]; simp
      go_wp2_with fail
      refine topImplSign _ _ _ p _ ho3' ?_
      intro w15 hb15
      replace ho3' := ho3'.up hb15
      replace ho4' := ho4'.up hb15
      replace hB := Hd.i (below_ups hB.o hb15 hB.o.size)
      clear hb15
      go_wp2_with fail
      refine topSpecSign _ _ _ p _ ho3' ?_
      intro w16 hb16
      replace ho3' := ho3'.up hb16
      replace ho4' := ho4'.up hb16
      replace hB := Hd.i (below_ups hB.o hb16 hB.o.size)
      clear hb16
      go_wp2_with fail
      refine topSpecPermutationLess _ _ _ p _ _ _ q _ ho3' ho4' ?_
      intro w17 hb17
      replace hB := Hd.i (below_ups hB.o hb17 hB.o.size)
      clear hb17
      go_wp2_with fail
      exact H.o _ hB.o

set_option linter.unusedVariables false
namespace fnCyclesAndSign
open Go.ChangeShapes Go.WideShapes Go.ChangeAt Go.RowKit
open Go.ChangeMaps (open_string shut_string)

theorem own : ownKnob Try.prog.godebug = none := by kernel_rfl
theorem laidOut : laidOutB Try.prog = true := by kernel_rfl

set_option maxRecDepth 100000 in
theorem lifted (os : Os) (started : os.Started) (H : Type) (enc : TypeId × Value → H) :
    ReturnsInHanded {} Try.checked os 7 .any (Rows.fnCyclesAndSignSpec.pre6 enc Try.prog Try.f7 Rows.fnCyclesAndSignRow.domain false) (Rows.fnCyclesAndSignSpec.post enc Try.prog Try.f7 false true false false) := by
  refine returnsInHanded_of_change (C := Try.checked) own started (by kernel_rfl) Try.func7
    (ChangeSpec.witness6 (enc := enc) (C := Try.checked) false ⟨#[], #[.slice none 0 0], []⟩ 8 (by kernel_rfl) (by kernel_rfl) (by kernel_rfl) (by kernel_rfl)) ?_
  intro W base args ds gs before hval0 hW hcnd _
  have hval : ∀ (j : Nat) t v, Try.f7.params[j]? = some t → args[j]? = some v → Value.okWide Try.prog W .any base t v := hval0
  have hW' := hW
  obtain ⟨p, q, hA0, hV, rfl, hfz, hnd⟩ := hW
  have hA : DataW.TrodAll enc Try.prog W 0 (fun _ => true) true Try.f7.params.toList args.toList ds p := hA0
  rw [Try.params7] at hA hval
  obtain ⟨v0, vs0, d0, ds0, p0, q0, hargs, rfl, rfl, h0, r0⟩ := trodAll_cons hA
  obtain ⟨rfl, rfl, rfl⟩ := trodAll_nil r0
  obtain rfl : args = #[v0] := by cases args; simp_all
  obtain ⟨rfl, rfl⟩ := trodVars_none hV
  obtain ⟨a0, len0, cap0, rfl⟩ := okWide_slice Try.underlying29 (hval 0 29 v0 rfl rfl)
  have k0 := h0
  have lt0 : ∀ x ∈ p0, x.block < W.heap.size := by obtain ⟨m, hm⟩ := k0; exact DataW.trod_lt m _ _ _ hm
  obtain ⟨z0, u0⟩ : ∃ _ : Unit, Bytes W a0 len0 := by
    obtain ⟨fuel, hf⟩ := h0
    rcases open_ints Try.underlying29 Try.underlying5 (by kernel_rfl) hf with ⟨hcs, _⟩ | ⟨x, l, c, zs, hcs, _, hl, hm, hz, _, hcell, hwz⟩
    · simp [Value.cells] at hcs
      obtain ⟨rfl, rfl, rfl⟩ := hcs
      exact ⟨(), Bytes.nil _⟩
    · simp [Value.cells] at hcs
      obtain ⟨rfl, rfl, rfl⟩ := hcs
      exact ⟨(), Bytes.of_open hl hm (by simpa using hz) hcell hwz⟩
  clear hA0 hval0
  refine (fnCyclesAndSign_law a0 len0 cap0 W u0).mono fun e W' ⟨he, bel⟩ => ?_
  subst he
  exact ⟨_, rfl, _, _, _, [], _, [], hW', trodAll_mk1 (shut_bool Try.underlying4 _), (trodAll_cons_mk (Below.trod laidOut (by kernel_rfl) (of_decide_eq_true (by kernel_rfl)) k0 bel lt0) trodAll_mk0), rfl, bel.frame _, fun h => by cases h⟩

theorem over : Rows.fnCyclesAndSignRow.holds Try.pinned (OpenSpec.ofChange Rows.fnCyclesAndSignSpec) :=
  OpenClaim.holds_of_wide 7 Try.f7 rfl rfl rfl rfl rfl rfl rfl ⟨rfl, rfl, rfl, rfl, rfl⟩ rfl rfl rfl rfl rfl (by kernel_rfl) Try.func7 (by kernel_rfl)
    (of_decide_eq_true (by kernel_rfl)) (by unfold Func.isWrapper; first | (rw [if_pos (by decide +kernel)]; kernel_rfl) | (rw [if_neg (by decide +kernel)]; exact ⟨rfl, rfl⟩))
    (fun os started H enc _ => lifted os started H enc)

theorem proved : Rows.FnCyclesAndSignSaid := over
end fnCyclesAndSign
end Go.Proofs.Ytkojonjcikgikaa
