/- ParseCycles of the program. -/
import Derived.Test.YtkojonjcikgikaaDoorPcT
import Derived.Test.YtkojonjcikgikaaDoorSplitI
namespace Go.Proofs.YtkojonjcikgikaaDoor
open Go.RowKit

theorem splitK_len (sep : List UInt8) : ∀ (k : Nat) (l : List UInt8), ∀ y ∈ Lib.splitK sep 0 k l, y.length ≤ l.length
  | 0, l, y, h => by rw [Lib.splitK, List.mem_singleton] at h; rw [h]; exact Nat.le_refl _
  | k + 1, l, y, h => by
    rw [Lib.splitK] at h
    split at h
    · rw [List.mem_singleton] at h; rw [h]; exact Nat.le_refl _
    · rcases List.mem_cons.1 h with h | h
      · rw [h, List.length_take]; omega
      · have := splitK_len sep k _ y h
        rw [List.length_drop] at this
        omega
theorem trim_len (l : List UInt8) : (Lib.trimSuffix (Lib.trimPrefix l [40]) [41]).length ≤ l.length := by
  have h1 : (Lib.trimPrefix l [40]).length ≤ l.length := by unfold Lib.trimPrefix; split <;> simp
  have h2 : (Lib.trimSuffix (Lib.trimPrefix l [40]) [41]).length ≤ (Lib.trimPrefix l [40]).length := by unfold Lib.trimSuffix; split <;> simp
  omega
theorem rdI_ok {q : List Int} (hq : IsPerm q) : ∀ c ∈ longC q, rdI q.length (txt c) c := fun c hc => ⟨nums_txt (longC_20 hq hc) (longC_ne hq hc), (longC_cyc hq c hc).2⟩

theorem inCell_c {R : Ending → World → Prop} (x : Int) (d bm : Nat) (w : World) (hc : w.cell? ⟨bm, 0, none⟩ = some (.int .i64 d)) (h1 : 1 ≤ d) (h2 : d ≤ 20) (hx0 : -9223372036854775808 ≤ x) (hx1 : x ≤ 9223372036854775807)
    (H : R (.returned (.bool (!decide (0 ≤ x ∧ x < (d : Int))))) w) : Calls Tryd.prog 33 #[.int .i64 x, .pointer (some ⟨bm, 0, none⟩)] w R := by
  have H' := Hd.i H; clear H
  by_cases hr : 0 ≤ x ∧ x ≤ (d : Int) - 1
  · go_enter Tryd.func33, Tryd.ntmps33
    go_wp2_with (go_at_call 28; refine within_c _ _ _ _ (fun _ => ?_) (fun _ => ?_) <;> go_prune)
    exact retB H' (by rw [decide_eq_true (by omega)]; rfl)
  · go_enter Tryd.func33, Tryd.ntmps33
    go_wp2_with (go_at_call 28; refine within_c _ _ _ _ (fun _ => ?_) (fun _ => ?_) <;> go_prune)
    exact retB H' (by rw [decide_eq_false (by omega)]; rfl)
theorem inR_succ {n k : Nat} {xs : List Int} {x : Int} (h : InR n (xs.take k)) (hx : xs[k]? = some x) (hr : 0 ≤ x ∧ x < n) : InR n (xs.take (k + 1)) := by
  rw [take_succ_some hx]
  intro y hy
  rcases List.mem_append.1 hy with hy | hy
  · exact h y hy
  · rw [List.mem_singleton] at hy; rw [hy]; exact hr
set_option maxHeartbeats 400000 in
theorem inIndex_c {R : Ending → World → Prop} (a : Option Addr) (n cap : Nat) (xs : List Int) (d bm : Nat) (w : World) (hx : Ints w a n xs) (hc : w.cell? ⟨bm, 0, none⟩ = some (.int .i64 d)) (h1 : 1 ≤ d) (h2 : d ≤ 20)
    (H : InR d xs → R (.returned (.int .i64 (-1))) w) (H2 : ∀ k : Nat, ¬ InR d xs → R (.returned (.int .i64 k)) w) :
    Calls Tryd.prog 44 #[.slice a n cap, .func (.func 33) #[] #[.pointer (some ⟨bm, 0, none⟩)]] w R := by
  have H' := Hd.i H; clear H
  have H2' := Hd.i H2; clear H2
  have hm := hx.le
  have hl := Hd.i hx.length
  go_enter Tryd.func44, Tryd.ntmps44
  go_wp2
  go_loop [8] (fun i => ∃ k : Nat, k ≤ n ∧ i = .int .i64 k ∧ Hd (InR d (xs.take k))) (fun i => n - (intOf i).toNat)
  case atStart => exact ⟨0, Nat.zero_le _, rfl, by simp [Hd, InR]⟩
  case round =>
    obtain ⟨k, hk, rfl, hall⟩ := hrel
    by_cases hlt : k < n
    · obtain ⟨b, off, y, rfl, hb, hcell, hy, hy1, hy2⟩ := hx.at hlt
      by_cases hok : 0 ≤ y ∧ y < (d : Int)
      · have hdec := Hd.i (decide_eq_true hok)
        replace hok := Hd.i hok
        go_wp2_with (go_at_call 33; refine inCell_c _ d bm _ hc h1 h2 hy1 hy2 ?_; rw [hdec.o, Bool.not_true])
        exact ⟨⟨k + 1, by omega, by go_num, inR_succ hall.o hy.o hok.o⟩, by simp [intOf]; omega⟩
      · have hdec := Hd.i (decide_eq_false hok)
        replace hok := Hd.i hok
        go_wp2_with (go_at_call 33; refine inCell_c _ d bm _ hc h1 h2 hy1 hy2 ?_; rw [hdec.o, Bool.not_false])
        exact H2'.o k (fun h => hok.o (h y (List.mem_of_getElem? hy.o)))
    · obtain rfl : k = n := by omega
      go_wp2
      have h := hall.o
      rw [List.take_of_length_le (by have := hl.o; omega)] at h
      exact H'.o h
theorem inContains_c {R : Ending → World → Prop} (a : Option Addr) (n cap : Nat) (xs : List Int) (d bm : Nat) (w : World) (hx : Ints w a n xs) (hc : w.cell? ⟨bm, 0, none⟩ = some (.int .i64 d)) (h1 : 1 ≤ d) (h2 : d ≤ 20)
    (H : InR d xs → R (.returned (.bool false)) w) (H2 : ¬ InR d xs → R (.returned (.bool true)) w) :
    Calls Tryd.prog 32 #[.slice a n cap, .func (.func 33) #[] #[.pointer (some ⟨bm, 0, none⟩)]] w R := by
  have H' := Hd.i H; clear H
  have H2' := Hd.i H2; clear H2
  go_enter Tryd.func32, Tryd.ntmps32
  go_wp2_with (go_at_call 44; refine inIndex_c _ _ _ xs d bm _ hx hc h1 h2 (fun hh => ?_) (fun k hh => ?_) <;> replace hh := Hd.i hh)
  · exact H'.o hh.o
  · exact H2'.o hh.o
theorem trimP_c (l : List UInt8) (w : World) : Calls Tryd.prog 31 #[.string (S l), .string ⟨#[40]⟩] w fun e w' => e = .returned (.string (S (Lib.trimPrefix l [40]))) ∧ w' = w := Tryd.strings_TrimPrefix (S l) ⟨#[40]⟩ w
theorem trimS_c (l : List UInt8) (w : World) (h : l.length ≤ 200) : Calls Tryd.prog 30 #[.string (S l), .string ⟨#[41]⟩] w fun e w' => e = .returned (.string (S (Lib.trimSuffix l [41]))) ∧ w' = w := Tryd.strings_TrimSuffix (S l) ⟨#[41]⟩ w (by rw [S_size]; omega)
theorem trimP_len (l : List UInt8) : (Lib.trimPrefix l [40]).length ≤ l.length := by unfold Lib.trimPrefix; split <;> simp

set_option maxHeartbeats 4000000 in
set_option maxRecDepth 100000 in
theorem implParseC_c {R : Ending → World → Prop} (z : Int) (l : List UInt8) (w : World) (hW : LibW w) (H : MakesIB R w (pPC z l) (pPCok z l)) :
    Calls Tryd.prog 13 #[.int .i64 z, .string (S l)] w R := by
  have H' := Hd.i H; clear H
  have bad : Hd (¬ (∃ q, PC z l q)) → Hd (∀ w', Below w.heap.size w w' → R (.returned (.tuple #[.slice none 0 0, .bool false])) w') := by
    intro h w' hb
    obtain ⟨e1, e2⟩ := pPC_no h.o
    have := H'.o none 0 0 w' hb (by rw [e1]; exact OwnI.nil _ _)
    rw [e2] at this
    exact this
  replace bad := Hd.i bad
  have good : ∀ q : List Int, Hd (PC z l q) → Hd (∀ a n cap w', Below w.heap.size w w' → OwnI w' w.heap.size a n cap q → R (.returned (.tuple #[.slice a n cap, .bool true])) w') := by
    intro q hq a n cap w' hb ho
    obtain ⟨e1, e2⟩ := pPC_yes hq.o
    have := H'.o a n cap w' hb (by rw [e1]; exact ho)
    rw [e2] at this
    exact this
  replace good := Hd.i good
  have hbel := fun o => (Below.refl w.heap.size w).alloc (Nat.le_refl _) o
  have hz := S_size l
  obtain ⟨n0, hn0⟩ : ∃ n, n = l.length := ⟨_, rfl⟩
  rw [← hn0] at hz
  replace hn0 := Hd.i hn0
  by_cases hr : 1 ≤ z ∧ z ≤ 20
  case neg =>
    have hno : Hd (¬ ∃ q, PC z l q) := fun ⟨q, hq⟩ => hr hq.shape.1
    go_enter Tryd.func13, Tryd.ntmps13
    go_wp2_with (first | (go_at_call 28; refine within_c _ _ _ _ (fun _ => ?_) (fun _ => ?_) <;> go_prune))
    exact (bad.o hno).o _ (hbel _)
  by_cases h200 : n0 ≤ 200
  case neg =>
    have hno : Hd (¬ ∃ q, PC z l q) := fun ⟨q, hq⟩ => by have := hq.1; have := hn0.o; omega
    go_enter Tryd.func13, Tryd.ntmps13
    go_wp2_with (first | (go_at_call 28; refine within_c _ _ _ _ (fun _ => ?_) (fun _ => ?_) <;> go_prune))
    exact (bad.o hno).o _ (hbel _)
  obtain ⟨d, rfl⟩ : ∃ d : Nat, z = d := ⟨z.toNat, by omega⟩
  have hd1 : 1 ≤ d := by omega
  have hd2 : d ≤ 20 := by omega
  have hl200 := Hd.i (show l.length ≤ 200 by have := hn0.o; omega)
  obtain ⟨ob, hob⟩ : ∃ o, o = Obj.cells #[.int .i64 (d : Int)] 2 := ⟨_, rfl⟩
  have hcb : (w.alloc ob).cell? ⟨w.heap.size, 0, none⟩ = some (.int .i64 (d : Int)) := by rw [hob, World.cell?_alloc_at _ _ _ _ rfl]; rfl
  have hbb : Below w.heap.size w (w.alloc ob) := hbel ob
  have hsb : (w.alloc ob).heap.size = w.heap.size + 1 := by simp
  rw [hob] at hcb hbb hsb
  replace hcb := Hd.i hcb
  replace hsb := Hd.i hsb
  clear hbel hob
  go_enter Tryd.func13, Tryd.ntmps13
  go_wp2_with (first | (go_at_call 28; refine within_c _ _ _ _ (fun _ => ?_) (fun _ => ?_) <;> go_prune))
  refine implIdentity_c d _ (by omega) ?_
  intro a1 n1 c1 w1 hw1 ho1
  obtain rfl : n1 = d := by rw [← ho1.length, idl_length]
  obtain ⟨g, _, rfl, hgB, hgl, _, _, _⟩ := ho1.look (k := 0) (by omega)
  have hcb1 := keep1 hcb.o hw1
  have hb1 : Below w.heap.size w w1 := below_ups hbb hw1 (by rw [hsb.o]; omega)
  rw [hsb.o] at hgB
  have ho1' := ho1.mono (B' := w.heap.size) (by rw [hsb.o]; omega)
  clear hw1 ho1 hbb hcb hsb
  have hs1 := hb1.size
  by_cases hdash : l = [40, 41]
  · have hpc := Hd.i (show PC (n1 : Int) l (idl n1) by rw [hdash]; exact PC.dash hd1 hd2)
    have heq : (S l).toList = [40, 41] := by rw [S_toList, hdash]
    replace hdash := Hd.i hdash
    go_wp2
    exact (good.o _ hpc).o _ _ _ _ hb1 ho1'
  · have hnd : ∀ q, PC (n1 : Int) l q → longC q ≠ [] := fun q hq e => hdash (by rw [← hq.2.2.2]; unfold fmtC; rw [if_pos e])
    obtain ⟨l1, hl1⟩ : ∃ l1, l1 = Lib.trimPrefix l [40] := ⟨_, rfl⟩
    obtain ⟨l2, hl2⟩ : ∃ l2, l2 = Lib.trimSuffix l1 [41] := ⟨_, rfl⟩
    obtain ⟨ws, hws⟩ : ∃ ws, ws = Lib.split l2 [41, 40] := ⟨_, rfl⟩
    have h1l : l1.length ≤ 200 := by rw [hl1]; exact Nat.le_trans (trimP_len l) hl200.o
    have h2l : l2.length ≤ 200 := by rw [hl2, hl1]; exact Nat.le_trans (trim_len l) hl200.o
    have hstr : ∀ q, PC (n1 : Int) l q → ws = (longC q).map txt := by
      intro q hq
      have hne := hnd q hq
      have h := trim_fmt hne
      rw [hq.2.2.2, ← hl1, ← hl2] at h
      rw [hws, h]
      exact longC_parts hq.2.1 hne
    have hbadp : ∀ (k : Nat) (s : List UInt8), ws[k]? = some s → (∀ c, ¬ rdI n1 s c) → ¬ ∃ q, PC (n1 : Int) l q := by
      rintro k s hs hc ⟨q, hq⟩
      rw [hstr q hq, List.getElem?_map, Option.map_eq_some_iff] at hs
      obtain ⟨c, hcm, rfl⟩ := hs
      have hlq : q.length = n1 := by have := hq.2.2.1; omega
      have h := rdI_ok hq.2.1 c (List.mem_of_getElem? hcm)
      rw [hlq] at h
      exact hc c h
    have hlens : ∀ y ∈ ws, y.length ≤ 200 := fun y hy => by rw [hws] at hy; exact Nat.le_trans (splitK_len _ _ _ y hy) h2l
    have hne1 : ((S l).toList == [40, 41]) = false := by rw [S_toList, beq_eq_false_iff_ne]; exact hdash
    have hp1 := fun w' => trimP_c l w'
    rw [← hl1] at hp1
    have hp2 := fun w' => trimS_c l1 w' h1l
    rw [← hl2] at hp2
    replace hp1 := Hd.i hp1; replace hp2 := Hd.i hp2; replace hnd := Hd.i hnd; replace hstr := Hd.i hstr; replace hbadp := Hd.i hbadp; replace hdash := Hd.i hdash; replace hlens := Hd.i hlens
    replace hl1 := Hd.i hl1; replace hl2 := Hd.i hl2; replace hws := Hd.i hws
    have hwl := hW.up hb1
    go_wp2_with (first
      | (go_at_call 31; refine (hp1.o _).mono ?_; rintro e w3 ⟨rfl, hw3⟩; rw [hw3]; clear hw3)
      | (go_at_call 30; refine (hp2.o _).mono ?_; rintro e w4 ⟨rfl, hw4⟩; rw [hw4]; clear hw4)
      | (go_at_call 23; refine split_c l2 [41, 40] _ h2l (by simp) hwl ?_; intro n2 w2 hn2 hb2 hv2))
    rw [← hws.o] at hv2
    have hs2 := hb2.size
    have hl2n := Hd.i (show ws.length = n2 by have := hv2.length; simpa [strs] using this)
    have hb12 := below_ups hb1 hb2 hs1
    have ho2 := ho1'.up hb2
    have hcb2 := Hd.i (keep1 hcb1 hb2)
    have hapart : ∀ b off s off' s', (some (⟨w1.heap.size, 0, none⟩ : Addr)) = some ⟨b, off, s⟩ → (some (⟨g, 0, none⟩ : Addr)) ≠ some ⟨b, off', s'⟩ := by
      intro b off s off' s' e1 e2
      cases e1
      cases e2
      omega
    replace hapart := Hd.i hapart
    have hgw : w.heap.size ≤ g := by omega
    clear ho1' hwl hcb1
    go_loopw [31] (fun i wr => ∃ (k : Nat) (p : List Int), k ≤ n2 ∧ i = .int .i64 k ∧ OwnI wr w.heap.size (some ⟨g, 0, none⟩) n1 c1 p ∧ Hd (RunsP (rdI n1) n1 (ws.take k) p) ∧ Grew (some ⟨g, 0, none⟩) w2 wr) (fun i _ => n2 - (intOf i).toNat)
    case atStart => exact ⟨0, _, Nat.zero_le _, rfl, ho2, RunsP.start _ _, Grew.refl _ _⟩
    case round =>
      clear ho2
      obtain ⟨k, p, hk, rfl, hop, hrun, hgr⟩ := hrel
      have hbr : Below w.heap.size w wr := hb12.trans (hgr.below (by omega) (fun b off s e => by cases e; exact hgw))
      have hsr := hbr.size
      have hcr : wr.cell? ⟨w.heap.size, 0, none⟩ = some (.int .i64 (n1 : Int)) := (World.cell?_of_block (hgr.block w.heap.size (World.block_lt_of_cell? w2 ⟨w.heap.size, 0, none⟩ hcb2.o) (fun off s e => by cases e; omega))).trans hcb2.o
      by_cases hlt : k < n2
      · obtain ⟨b, off, v, e0, hbl, hcell, hvk⟩ := (hgr.vals hv2 hapart.o).at hlt
        cases e0
        rw [Nat.zero_add] at hcell
        have hvk' := hvk.o
        rw [strs, List.getElem?_map, Option.map_eq_some_iff] at hvk'
        obtain ⟨y, hy, rfl⟩ := hvk'
        have hyl := Hd.i (hlens.o y (List.mem_of_getElem? hy))
        have hywl : Hd (∀ x ∈ wsplit 32 y, x.length ≤ 200) := fun x hx => Nat.le_trans ((wsplit_len (c := 32) y).2 x hx) hyl.o
        replace hy := Hd.i hy
        have hwr := hW.up hbr
        clear hvk
        go_wp2_with (first | (go_at_call 23; refine split_c y [32] _ hyl.o (by simp) hwr ?_; intro n3 w3 hn3 hb3 hv3))
        rw [split_wsplit] at hv3
        have hbr3 := below_ups hbr hb3 hsr
        have hs3 := hbr3.size
        refine readNumbers_c _ n3 _ (wsplit 32 y) _ hv3 hywl hn3 (hW.up hbr3) ?_ ?_
        · intro a4 n4 c4 xs w4 hb4 ho4 hx
          have hc4 := keep1 (keep1 hcr hb3) hb4
          have hbr4 := below_ups hbr3 hb4 hs3
          have hs34 := hb4.size
          by_cases hin : InR n1 xs
          · have hrd : Hd (rdI n1 y xs) := ⟨hx.o, hin⟩
            have hop4 := (hop.up hb3).up hb4
            have hgr4 := Hd.i ((hgr.then_below hb3 (hgr.size)).then_below hb4 (Nat.le_trans hgr.size hb3.size))
            have hapx : Hd (Apart (some (⟨g, 0, none⟩ : Addr)) a4) := by
              intro b o s o' s' e e'
              have h1 := (ho4.1.lt e').1
              have h2 := (hop.1.lt (off := 0) (s := none) rfl).2
              have h3 := hb3.size
              cases e
              omega
            replace hin := Hd.i hin
            have hxl := Hd.i ho4.length
            have hm48 := ho4.le
            go_wp2_with (first | (go_at_call 32; refine inContains_c _ _ _ xs n1 w.heap.size _ ho4.ints hc4 hd1 hd2 (fun hh => ?_) (fun hh => absurd hin.o hh); clear hh))
            go_loopw [50] (fun i wr' => ∃ j : Nat, j ≤ n4 ∧ i = .int .i64 j ∧ OwnI wr' w.heap.size (some ⟨g, 0, none⟩) n1 c1 (putTo p xs j) ∧ OwnI wr' w3.heap.size a4 n4 c4 xs ∧ Grew (some ⟨g, 0, none⟩) w4 wr') (fun i _ => n4 - (intOf i).toNat)
            case atStart => exact ⟨0, Nat.zero_le _, rfl, hop4, ho4, Grew.refl _ _⟩
            case round =>
              clear hop4 ho4 hop
              obtain ⟨j, hj, rfl, hop5, hoc, hgr5⟩ := hrel
              by_cases hlt2 : j < n4
              · obtain ⟨gc, x, rfl, hgc1, hgc2, hx1, hx2, hx3⟩ := hoc.look hlt2
                obtain ⟨j', hj'⟩ : ∃ j', j' = (j + 1) % n4 := ⟨_, rfl⟩
                have hj'm : j' < n4 := by rw [hj']; exact Nat.mod_lt _ (by omega)
                obtain ⟨y', hy1, hy2, hy3, hy4, hy5⟩ := hoc.at' hj'm
                have hxr := hin.o x (List.mem_of_getElem? hx3.o)
                obtain ⟨i, rfl⟩ : ∃ i : Nat, x = i := ⟨x.toNat, by omega⟩
                have hi : i < n1 := by omega
                obtain ⟨u, hu1, hu2, _, _, _⟩ := hop5.at' hi
                have hm0 : ¬ n4 = 0 := by omega
                have hmod : Int.tmod (wrap64 ((j : Int) + 1)) (n4 : Int) = (j' : Int) := by rw [IntWalk.wrap64_in ((j : Int) + 1) (by omega), Int.tmod_eq_emod_of_nonneg (by omega), hj']; simp
                have hmod2 : Int.tmod ((j : Int) + 1) (n4 : Int) = (j' : Int) := by rw [Int.tmod_eq_emod_of_nonneg (by omega), hj']; simp
                have est := Hd.i (putTo_step (p := p) hx3.o (by rw [hxl.o, ← hj']; exact hy3.o))
                have hop2 := hop5.put (k := i) (x := y') hy4 hy5
                rw [← est.o] at hop2
                have hoc2 := hoc.store_other (g := g) (off := 0) (s := none) i (.int .i64 y') hapx.o
                have hgr2 := Hd.i (hgr5.then_store i (.int .i64 y'))
                replace hj' := Hd.i hj'
                go_wp2
                exact ⟨⟨j + 1, by omega, by go_num, hop2, hoc2, hgr2.o⟩, by simp [intOf]; omega⟩
              · obtain rfl : j = n4 := by omega
                have e : putTo p xs j = putC p xs := by unfold putC; rw [hxl.o]
                rw [e] at hop5
                go_wp2
                exact ⟨⟨k + 1, putC p xs, by omega, by go_num, hop5, hrun.o.snoc hy.o hrd.o, hgr4.o.thenG hgr5⟩, by simp [intOf]; omega⟩
          · have hno2 : Hd (¬ ∃ q, PC (n1 : Int) l q) := hbadp.o k y hy.o fun c hc => hin (by rw [map_some_inj (hx.o.symm.trans hc.1)]; exact hc.2)
            replace hin := Hd.i hin
            go_wp2_with (first | (go_at_call 32; refine inContains_c _ _ _ xs n1 w.heap.size _ ho4.ints hc4 hd1 hd2 (fun hh => absurd hh hin.o) (fun hh => ?_); clear hh))
            exact (bad.o hno2).o _ hbr4
        · intro w4 hb4 hx
          have hbr4 := below_ups hbr3 hb4 hs3
          have hno2 : Hd (¬ ∃ q, PC (n1 : Int) l q) := hbadp.o k y hy.o fun c hc => by
            obtain ⟨u, hu, hun⟩ := hx.o
            have h1 : numI u ∈ (wsplit 32 y).map numI := List.mem_map.2 ⟨u, hu, rfl⟩
            rw [hc.1, hun, List.mem_map] at h1
            obtain ⟨_, _, h2⟩ := h1
            cases h2
          go_wp2
          exact (bad.o hno2).o _ hbr4
      · obtain rfl : k = n2 := by omega
        rw [List.take_of_length_le (by have := hl2n.o; omega)] at hrun
        have hlp := Hd.i hop.length
        have hfin : ∀ q, PC (n1 : Int) l q → p = q := by
          intro q hq
          have hlq : q.length = n1 := by have := hq.2.2.1; omega
          have hrun' := hrun.o
          rw [hstr.o q hq] at hrun'
          exact RunsP.final hq.2.1 hlq (rdI_txt hq.2.1 n1) hrun'
        by_cases hp : IsPerm p
        · have hdec := Hd.i (decide_eq_true hp)
          by_cases hf : fmtC p = l
          · have hpc : Hd (PC (n1 : Int) l p) := ⟨hl200.o, hp, by have := hlp.o; omega, hf⟩
            replace hf := Hd.i hf
            replace hp := Hd.i hp
            clear hfin
            go_wp2_with (first | (go_at_call 24; refine implIsPerm_c _ _ _ p _ hop.ints ?_; rw [hdec.o]) | (go_at_call 34; refine implFmtC_c _ _ _ p _ hop.ints hp ?_; rw [hf.o]; intro w3 hw3))
            exact (good.o _ hpc).o _ _ _ _ (below_ups hbr hw3 hsr) (hop.up hw3)
          · have hno2 : Hd (¬ ∃ q, PC (n1 : Int) l q) := fun ⟨q, hq⟩ => hf (by rw [hfin q hq]; exact hq.2.2.2)
            have hft : ((S (fmtC p)).toList == (S l).toList) = false := by rw [S_toList, S_toList, beq_eq_false_iff_ne]; exact hf
            replace hf := Hd.i hf
            replace hp := Hd.i hp
            clear hfin
            go_wp2_with (first | (go_at_call 24; refine implIsPerm_c _ _ _ p _ hop.ints ?_; rw [hdec.o]) | (go_at_call 34; refine implFmtC_c _ _ _ p _ hop.ints hp ?_; intro w3 hw3))
            exact (bad.o hno2).o _ (below_ups hbr hw3 hsr)
        · have hdec := Hd.i (decide_eq_false hp)
          have hno2 : Hd (¬ ∃ q, PC (n1 : Int) l q) := fun ⟨q, hq⟩ => hp (by rw [hfin q hq]; exact hq.2.1)
          replace hp := Hd.i hp
          clear hfin
          go_wp2_with (first | (go_at_call 24; refine implIsPerm_c _ _ _ p _ hop.ints ?_; rw [hdec.o]))
          exact (bad.o hno2).o _ hbr

theorem topImplParseCycles {R : Ending → World → Prop} (z : Int) (s : ByteArray) (w : World) (_ : -9223372036854775808 ≤ z ∧ z ≤ 9223372036854775807) (_ : s.size ≤ 9223372036854775807) (hw : LibW w) (H : MakesIB R w (pPC z s.data.toList) (pPCok z s.data.toList)) :
    Calls Tryd.prog 13 #[.int .i64 z, .string s] w R := implParseC_c z s.data.toList w hw H
theorem topSpecParseCycles {R : Ending → World → Prop} (z : Int) (s : ByteArray) (w : World) (_ : -9223372036854775808 ≤ z ∧ z ≤ 9223372036854775807) (_ : s.size ≤ 9223372036854775807) (_ : LibW w) (H : MakesIB R w (pPC z s.data.toList) (pPCok z s.data.toList)) :
    Calls Tryd.prog 12 #[.int .i64 z, .string s] w R := specParseC_c z s.data.toList w H
end Go.Proofs.YtkojonjcikgikaaDoor
