/- WordLength: the runs of a word. -/
import Derived.Test.YtkjnabpllecglaaWordTop
namespace Go.Proofs.Ytkjnabpllecglaa
open Go.RowKit

theorem infoSl : (Try.prog.info? 23).map (fun i => (i.zero, i.size, i.bytes)) = some (some (.slice none 0 0), 1, 24) := by kernel_rfl

/-- Two addresses that lie in no common block. -/
def Apart (a a' : Option Addr) : Prop := ∀ b off s off' s', a = some ⟨b, off, s⟩ → a' ≠ some ⟨b, off', s'⟩
theorem Apart.symm {a a' : Option Addr} (h : Apart a a') : Apart a' a := fun b off s off' s' e e' => h b off' s' off s e' e
theorem Apart.of_lt {a a' : Option Addr} {B : Nat} (h : ABelow a B) (h' : ∀ b off s, a' = some ⟨b, off, s⟩ → B ≤ b) : Apart a a' := apart_lt h h'

theorem sameMove_c {R : Ending → World → Prop} (x y : Int) (w : World) (hy : -8 ≤ y ∧ y ≤ 8) (H : R (.returned (.bool (alike x y))) w) : Calls Try.prog 79 #[.int .i64 x, .int .i64 y] w R := by
  have H' := Hd.i H; clear H
  by_cases h1 : x = y
  · go_enter Try.func79, Try.ntmps79
    go_wp2
    exact retB H' (by simp [alike, h1])
  · have hb : (x == y) = false := by simpa using h1
    by_cases h2 : x = -y
    · go_enter Try.func79, Try.ntmps79
      go_wp2
      exact retB H' (by simp [alike, h2])
    · have hb2 : (x == -y) = false := by simpa using h2
      go_enter Try.func79, Try.ntmps79
      go_wp2
      exact retB H' (by simp [alike, h1, h2])

theorem Apart.grown {c a a2 : Option Addr} {w : World} {j : Nat} (h : Apart c a) (hc : ABelow c w.heap.size) (ha : a2 = a ∨ a2 = some ⟨w.heap.size + j, 0, none⟩) : Apart c a2 := by
  rcases ha with rfl | rfl
  · exact h
  · intro b off s off' s' e e'
    have := hc b off s e
    cases e'
    omega
theorem OwnI.store_other {w : World} {B : Nat} {a : Option Addr} {n cap : Nat} {xs : List Int} (h : OwnI w B a n cap xs) {g off : Nat} {s : Option Nat} (k : Nat) (u : Value) (hne : Apart (some ⟨g, off, s⟩) a) : OwnI (w.setCell ⟨g, k, none⟩ u) B a n cap xs :=
  ⟨h.1.store_other g k u (fun _ off' s' e hb => hne g off s off' s' rfl (hb ▸ e)), h.2⟩

/-- The last row of the runs so far. -/
def LastRow (w : World) (B : Nat) (c : Option Addr) (m k : Nat) (vs : List Value) : Prop :=
  0 < m → ∃ (ar : Option Addr) (nr cr : Nat) (rs : List Int), vs[m - 1]? = some (.slice ar nr cr) ∧ OwnI w B ar nr cr rs ∧ nr ≤ k ∧ Apart c ar

/-- A run begins: its row is the newest. -/
theorem runs_new {w wr w2 : World} {c a2 : Option Addr} {m capc n2 cap2 k : Nat} {vs : List Value} {l : Int} (hbel : Below w.heap.size w wr) (ho : Own wr w.heap.size 23 c m capc vs) (hl : -8 ≤ l ∧ l ≤ 8) (hn2 : n2 = m + 1)
    (ho2 : Own w2 w.heap.size 23 a2 n2 cap2 (vs ++ [.slice (some ⟨wr.heap.size, 0, none⟩) 1 1])) (hg2 : Grew c (wr.alloc (.cells #[Value.int .i64 l] 2)) w2) (ha2 : a2 = c ∨ a2 = some ⟨wr.heap.size + 1 + 1, 0, none⟩) :
    Below w.heap.size w w2 ∧ LastRow w2 w.heap.size a2 n2 (k + 1) (vs ++ [.slice (some ⟨wr.heap.size, 0, none⟩) 1 1]) := by
  have hs := hbel.size
  have hclt := ho.abelow
  refine ⟨?_, fun _ => ⟨some ⟨wr.heap.size, 0, none⟩, 1, 1, [l], ?_, ?_, by omega, ?_⟩⟩
  · exact (hbel.alloc hs _).trans (hg2.below (by simp; omega) (fun b off s e => (ho.lt e).1))
  · rw [List.getElem?_append_right (by have := ho.length; omega)]
    have := ho.length
    simp [show n2 - 1 - vs.length = 0 by omega]
  · have h := Own.lit wr (B := w.heap.size) [Value.int .i64 l] 2 (by simp) hs
    refine ⟨hg2.own h fun b off s off' s' e e' => ?_, fun x hx => by simp at hx; omega⟩
    cases e
    have := hclt _ _ _ e'
    omega
  · intro b off s off' s' e e'
    cases e'
    rcases ha2 with rfl | rfl
    · have := hclt _ _ _ e; omega
    · simp at e

set_option maxHeartbeats 1000000 in
theorem implRuns_c {R : Ending → World → Prop} (a : Option Addr) (n cap : Nat) (xs : List Int) (w : World) (hx : Ints w a n xs) (hn : n ≤ 200) (hle : Hd (∀ x ∈ xs, -8 ≤ x ∧ x ≤ 8))
    (H : ∀ c m capc w', Hd (m = runsTo xs n) → Below w.heap.size w w' → R (.returned (.slice c m capc)) w') :
    Calls Try.prog 78 #[.slice a n cap, .func (.func 79) #[] #[]] w R := by
  have H' := Hd.i H; clear H
  have hl := Hd.i hx.length
  go_enter Try.func78, Try.ntmps78
  go_wp2
  go_loopw [5, 10] (fun v i wr => ∃ (k : Nat) (c : Option Addr) (m capc : Nat) (vs : List Value), k ≤ n ∧ i = .int .i64 k ∧ v = .slice c m capc ∧ Own wr w.heap.size 23 c m capc vs ∧ Below w.heap.size w wr ∧ Hd (m = runsTo xs k) ∧ LastRow wr w.heap.size c m k vs)
    (fun _ i _ => n - (intOf i).toNat)
  case atStart => exact ⟨0, none, 0, 0, [], Nat.zero_le _, rfl, rfl, Own.nil _ _ _, Below.refl _ _, rfl, fun h => by omega⟩
  case round =>
    obtain ⟨k, c, m, capc, vs, hk, rfl, rfl, ho, hbel, hm, hlast⟩ := hrel
    have hlast := Hd.i hlast
    by_cases hlt : k < n
    · have hs := hbel.size
      have hmk : m ≤ k := by have := hm.o; have := runsTo_le xs k; omega
      have hxr := hx.up hbel
      obtain ⟨b, off, l, rfl, hb, hcell, hy, _, _⟩ := hxr.at hlt
      have hl8 := hle.o l (List.mem_of_getElem? hy.o)
      by_cases hk0 : k = 0
      · subst hk0
        have e := Hd.i (show runsTo xs (0 + 1) = m + 1 by rw [runsTo, if_pos rfl, ← hm.o])
        clear hlast
        rw [Nat.add_zero] at hcell
        have c1 : (m + 1) * 24 ≤ 140737488355328 := by omega
        have c2 : m + 1 ≤ 281474976710656 := by omega
        have hsz := Hd.i (show wr.heap.size + 1 = (wr.alloc (.cells #[Value.int .i64 l] 2)).heap.size by simp)
        have hs1 : w.heap.size ≤ (wr.alloc (.cells #[Value.int .i64 l] 2)).heap.size := by simp; omega
        go_wp2_with (at_builtin; refine appendG_c rfl _ _ _ rfl w.heap.size 23 (.slice none 0 0) 24 Try.underlying57 infoSl rfl _ _ _ _ rfl (ho.alloc _) [.slice (some ⟨wr.heap.size, 0, none⟩) 1 1] 1 _ rfl hsz.o rfl oneSlice c1 c2 hs1 ?_; intro a2 n2 cap2 w2 hn2 ho2 hg2 ha2)
        have hnew := runs_new (k := 0) hbel ho hl8 hn2.o ho2 hg2 ha2.o
        exact ⟨⟨1, a2, n2, cap2, _, by omega, by go_num, rfl, ho2, hnew.1, hn2.o.trans e.o.symm, hnew.2⟩, by simp [intOf]; omega⟩
      · obtain ⟨k', rfl⟩ : ∃ k', k = k' + 1 := ⟨k - 1, by omega⟩
        obtain ⟨b2, off2, y, hab, _, hcell2, hy2, _, _⟩ := hxr.at (k := k') (by omega)
        cases hab
        have hpos : 0 < m := by have := hm.o; have := runsTo_pos xs (k' + 1) (by omega); omega
        by_cases hal : alike y l = true
        · have e := Hd.i (show runsTo xs (k' + 1 + 1) = m by rw [runsTo, if_neg (by omega), show k' + 1 - 1 = k' by omega, hy2.o, hy.o, Option.getD_some, Option.getD_some, if_pos hal, ← hm.o, Nat.add_zero])
          obtain ⟨ar, nr, cr, rs, hlv, hor, hnr, hap⟩ := hlast.o hpos
          obtain ⟨m', rfl⟩ : ∃ m', m = m' + 1 := ⟨m - 1, by omega⟩
          obtain ⟨g, v0, rfl, hg1, hg2', hcv, hfv, hv0⟩ := ho.at (k := m') (by omega)
          have hvv : v0 = .slice ar nr cr := by have h := hv0.o; rw [show m' + 1 - 1 = m' by omega] at hlv; rw [hlv] at h; exact (Option.some.inj h).symm
          rw [hvv] at hcv
          clear hvv hv0 hlv
          have c1 : (nr + 1) * 8 ≤ 140737488355328 := by omega
          have c2 : nr + 1 ≤ 281474976710656 := by omega
          have hap := Hd.i hap
          go_wp2_with (first | (go_at_call 79; refine sameMove_c _ _ _ hl8 ?_) | (at_builtin; refine appendL_c rfl _ _ _ rfl w.heap.size 2 (.int .i64 0) 8 Try.underlying23 infoInt rfl _ _ _ _ rfl hor.1 [.int .i64 l] 1 rfl rfl oneInt c1 c2 hs ?_; intro a2 n2 cap2 w2 hn2 ho2 hg2 ha2; obtain ⟨v9, hc9, hf9, _⟩ := (hg2.own ho hap.o).at' (k := m') (by omega)))
          have hap2 := Apart.grown hap.o (fun _ _ _ e => by cases e; exact hg2') ha2.o
          have hn2' := hn2.o
          refine ⟨⟨k' + 1 + 1, some ⟨g, 0, none⟩, m' + 1, capc, vs.set m' (.slice a2 n2 cap2), by omega, by go_num, rfl, (hg2.own ho hap.o).store _, ?_, e.o.symm, fun _ => ?_⟩, by simp [intOf]; omega⟩
          · exact (hbel.trans (hg2.below hs hor.ge)).setCell hg1 _
          · refine ⟨a2, n2, cap2, rs ++ [l], ?_, (OwnI.snoc ho2 hor.2 (by omega) (by omega)).store_other _ _ hap2, by omega, hap2⟩
            rw [show m' + 1 - 1 = m' by omega, List.getElem?_set_self (by have := ho.length; omega)]
        · have e := Hd.i (show runsTo xs (k' + 1 + 1) = m + 1 by rw [runsTo, if_neg (by omega), show k' + 1 - 1 = k' by omega, hy2.o, hy.o, Option.getD_some, Option.getD_some, if_neg hal, ← hm.o])
          have hal' : alike y l = false := by simpa using hal
          clear hal hlast
          have c1 : (m + 1) * 24 ≤ 140737488355328 := by omega
          have c2 : m + 1 ≤ 281474976710656 := by omega
          have hsz := Hd.i (show wr.heap.size + 1 = (wr.alloc (.cells #[Value.int .i64 l] 2)).heap.size by simp)
          have hs1 : w.heap.size ≤ (wr.alloc (.cells #[Value.int .i64 l] 2)).heap.size := by simp; omega
          go_wp2_with (first | (go_at_call 79; refine sameMove_c _ _ _ hl8 ?_) | (at_builtin; refine appendG_c rfl _ _ _ rfl w.heap.size 23 (.slice none 0 0) 24 Try.underlying57 infoSl rfl _ _ _ _ rfl (ho.alloc _) [.slice (some ⟨wr.heap.size, 0, none⟩) 1 1] 1 _ rfl hsz.o rfl oneSlice c1 c2 hs1 ?_; intro a2 n2 cap2 w2 hn2 ho2 hg2 ha2))
          have hnew := runs_new (k := k' + 1) hbel ho hl8 hn2.o ho2 hg2 ha2.o
          exact ⟨⟨k' + 1 + 1, a2, n2, cap2, _, by omega, by go_num, rfl, ho2, hnew.1, hn2.o.trans e.o.symm, hnew.2⟩, by simp [intOf]; omega⟩
    · obtain rfl : k = n := by omega
      go_wp2
      exact H'.o _ _ _ _ hm hbel

theorem lengthSS_c {R : Ending → World → Prop} (a : Option Addr) (len cap : Nat) (w : World) (H : R (.returned (.int .i64 len)) w) :
    Calls Try.prog 77 #[.slice a len cap] w R := by
  have H' := Hd.i H; clear H
  go_enter Try.func77, Try.ntmps77
  go_wp2
  exact H'.o

theorem implWordLength_c {R : Ending → World → Prop} (a : Option Addr) (n cap : Nat) (xs : List Int) (m : Int) (w : World) (hx : Ints w a n xs) (hw : IsWord xs) (hm : m = 1 ∨ m = 2) (H : Gives R w (.int .i64 (pWordLength xs m))) :
    Calls Try.prog 69 #[.slice a n cap, .int .i64 m] w R := by
  have H' := Hd.i H; clear H
  have hsub := Hd.i (show ∀ x ∈ freeRed xs, -8 ≤ x ∧ x ≤ 8 from fun x hx => by
    obtain ⟨k, hk⟩ := List.getElem?_of_mem (freeRed_sub hx)
    exact (hw.letter hk).2)
  have hlen := freeRed_len xs
  have h200 := hw.len
  rcases hm with rfl | rfl
  · have e := Hd.i (show pWordLength xs 1 = (freeRed xs).length by simp [pWordLength, hw])
    go_enter Try.func69, Try.ntmps69
    go_wp2_with (first | (go_at_call 60; refine implFreeReduce_c _ _ _ xs _ hx hw ?_; intro a2 n2 c2 w2 hb2 ho2) | (go_at_call 50; refine length_c _ _ _ _ ?_))
    exact retI (H'.o _ hb2) (e.o.trans (by rw [ho2.length]))
  · have e := Hd.i (show pWordLength xs 2 = runsTo (freeRed xs) (freeRed xs).length by simp [pWordLength, hw])
    go_enter Try.func69, Try.ntmps69
    go_wp2_with (first | (go_at_call 60; refine implFreeReduce_c _ _ _ xs _ hx hw ?_; intro a2 n2 c2 w2 hb2 ho2) | (go_at_call 78; refine implRuns_c _ _ _ (freeRed xs) _ ho2.ints (by have := ho2.length; omega) hsub ?_; intro a3 n3 c3 w3 hn3 hb3) | (go_at_call 77; refine lengthSS_c _ _ _ _ ?_))
    exact retI (H'.o _ (below_ups hb2 hb3 hb2.size)) (e.o.trans (by rw [hn3.o, ho2.length]))

theorem topImplWordLength {R : Ending → World → Prop} {B : Nat} (a : Option Addr) (n cap : Nat) (p : List Int) (m : Int) (w : World) (h : OwnI w B a n cap p) (_ : -9223372036854775808 ≤ m ∧ m ≤ 9223372036854775807) (H : Gives R w (.int .i64 (pWordLength p m))) :
    Calls Try.prog 38 #[.slice a n cap, .int .i64 m] w R := by
  have H' := Hd.i H; clear H
  by_cases hp : IsWord p
  · by_cases hm : m = 1 ∨ m = 2
    · obtain ⟨z, hz⟩ : ∃ z, Hd (z = pWordLength p m) := ⟨_, rfl⟩
      rcases hm with rfl | rfl
      · go_enter Try.func38, Try.ntmps38
        go_wp2_with (first | (go_at_call 55; refine implIsWord_c _ _ _ p _ h.ints ?_; intro w1 hb1) | (go_at_call 69; refine implWordLength_c _ _ _ p _ _ (h.ints.up hb1) hp (by omega) ?_; intro w2 hb2; rw [← hz.o]))
        exact retI (H'.o _ (below_ups hb1 hb2 hb1.size)) hz.o.symm
      · go_enter Try.func38, Try.ntmps38
        go_wp2_with (first | (go_at_call 55; refine implIsWord_c _ _ _ p _ h.ints ?_; intro w1 hb1) | (go_at_call 69; refine implWordLength_c _ _ _ p _ _ (h.ints.up hb1) hp (by omega) ?_; intro w2 hb2; rw [← hz.o]))
        exact retI (H'.o _ (below_ups hb1 hb2 hb1.size)) hz.o.symm
    · have e := Hd.i (show pWordLength p m = -1 by simp [pWordLength, hm])
      have hm1 : (m != 1) = true := by simp; omega
      have hm2 : (m != 2) = true := by simp; omega
      go_enter Try.func38, Try.ntmps38
      go_wp2_with (first | (go_at_call 55; refine implIsWord_c _ _ _ p _ h.ints ?_; intro w1 hb1))
      exact retI (H'.o _ hb1) e.o
  · have e := Hd.i (show pWordLength p m = -1 by simp [pWordLength, hp])
    go_enter Try.func38, Try.ntmps38
    go_wp2_with (first | (go_at_call 55; refine implIsWord_c _ _ _ p _ h.ints ?_; intro w1 hb1))
    exact retI (H'.o _ hb1) e.o

/-- The loop of the reference's WordLength ends a round so. -/
theorem alike_of_eq (x : Int) : alike x x = true := by simp [alike]
theorem alike_of_neg {x y : Int} (h : x = -y) : alike x y = true := by simp [alike, h]
theorem alike_not {x y : Int} (h1 : ¬ x = y) (h2 : ¬ x = -y) : alike x y = false := by simp [alike, h1, h2]

set_option maxHeartbeats 4000000 in
theorem topSpecWordLength {R : Ending → World → Prop} {B : Nat} (a : Option Addr) (n cap : Nat) (p : List Int) (m : Int) (w : World) (h : OwnI w B a n cap p) (_ : -9223372036854775808 ≤ m ∧ m ≤ 9223372036854775807) (H : Gives R w (.int .i64 (pWordLength p m))) :
    Calls Try.prog 37 #[.slice a n cap, .int .i64 m] w R := by
  have H' := Hd.i H; clear H
  by_cases hp : IsWord p
  · by_cases hm : m = 1 ∨ m = 2
    · have e := Hd.i (pWordLength_count hp hm)
      have hsub := Hd.i (show ∀ x ∈ freeRed p, -8 ≤ x ∧ x ≤ 8 from fun x hx => by
        obtain ⟨k, hk⟩ := List.getElem?_of_mem (freeRed_sub hx)
        exact (hp.letter hk).2)
      have hlen := freeRed_len p
      have h200 := hp.len
      have hmr : 1 ≤ m ∧ m ≤ 2 := by omega
      go_enter Try.func37, Try.ntmps37
      go_wp2_with (first | (go_at_call 53; refine specIsWord_c _ _ _ p _ h.ints ?_) | (go_at_call 48; refine inRange_c _ _ _ _ (fun _ => ?_) (fun _ => ?_) <;> go_prune) | (go_at_call 59; refine specFreeReduce_c _ _ _ p _ h.ints hp ?_; intro a2 n2 c2 w2 hb2 ho2))
      have hn2 := Hd.i ho2.length
      have hn2b : n2 ≤ 200 := by have := hn2.o; omega
      go_loopw [6, 7] (fun s i wr => ∃ k : Nat, k ≤ n2 ∧ i = .int .i64 k ∧ s = .int .i64 (countTo (freeRed p) m k : Nat) ∧ Drew w2 wr) (fun _ i _ => n2 - (intOf i).toNat)
      case atStart => exact ⟨0, Nat.zero_le _, rfl, by simp [countTo, runsTo], Drew.refl _⟩
      case round =>
        obtain ⟨k, hk, rfl, rfl, hd⟩ := hrel
        have hor := hd.ownI ho2
        by_cases hlt : k < n2
        · obtain ⟨g, x, rfl, _, _, hcx, _, hx⟩ := hor.look hlt
          have hx8 := hsub.o x (List.mem_of_getElem? hx.o)
          have hcl := countTo_le (freeRed p) m k
          by_cases hk0 : k = 0
          · subst hk0
            have e1 := Hd.i (countTo_first (freeRed p) m)
            rcases hm with rfl | rfl
            · go_wp2
              go_quiet (fail)
              go_wp2
              exact ⟨⟨1, by omega, by go_num, by rw [e1.o]; go_num, hd.step nq⟩, by simp [intOf]; omega⟩
            · go_wp2
              go_quiet (fail)
              go_wp2
              exact ⟨⟨1, by omega, by go_num, by rw [e1.o]; go_num, hd.step nq⟩, by simp [intOf]; omega⟩
          · obtain ⟨k', rfl⟩ : ∃ k', k = k' + 1 := ⟨k - 1, by omega⟩
            obtain ⟨g2, y, hg, _, _, hcy, _, hy⟩ := hor.look (k := k') (by omega)
            cases hg
            have hy8 := hsub.o y (List.mem_of_getElem? hy.o)
            have hw1 := IntWalk.i64_in ((k' : Int) + 1 - 1) (by omega)
            have hw2 := IntWalk.i64_in (-y) (by omega)
            have e1 := Hd.i (countTo_one (freeRed p) (k' + 1))
            by_cases hxy : x = y
            · subst hxy
              have e2 := Hd.i (countTo_same hx.o hy.o (alike_of_eq x))
              rcases hm with rfl | rfl
              · go_wp2
                go_quiet (fail)
                go_wp2
                exact ⟨⟨k' + 1 + 1, by omega, by go_num, by rw [e1.o]; go_num, hd.step nq⟩, by simp [intOf]; omega⟩
              · go_wp2
                go_quiet (fail)
                go_wp2
                exact ⟨⟨k' + 1 + 1, by omega, by go_num, by rw [e2.o], hd.step nq⟩, by simp [intOf]; omega⟩
            · have hxb : (x == y) = false := by simpa using hxy
              by_cases hxn : x = -y
              · have hxnb : (x == -y) = true := by simpa using hxn
                have e2 := Hd.i (countTo_same hx.o hy.o (alike_of_neg hxn))
                clear hxn hxy
                rcases hm with rfl | rfl
                · go_wp2
                  go_quiet (fail)
                  go_wp2
                  exact ⟨⟨k' + 1 + 1, by omega, by go_num, by rw [e1.o]; go_num, hd.step nq⟩, by simp [intOf]; omega⟩
                · go_wp2
                  go_quiet (fail)
                  go_wp2
                  exact ⟨⟨k' + 1 + 1, by omega, by go_num, by rw [e2.o], hd.step nq⟩, by simp [intOf]; omega⟩
              · have hxnb : (x == -y) = false := by simpa using hxn
                have e2 := Hd.i (countTo_new hx.o hy.o (alike_not hxy hxn))
                clear hxn hxy
                rcases hm with rfl | rfl
                · go_wp2
                  go_quiet (fail)
                  go_wp2
                  exact ⟨⟨k' + 1 + 1, by omega, by go_num, by rw [e1.o]; go_num, hd.step nq⟩, by simp [intOf]; omega⟩
                · go_wp2
                  go_quiet (fail)
                  go_wp2
                  exact ⟨⟨k' + 1 + 1, by omega, by go_num, by rw [e2.o]; go_num, hd.step nq⟩, by simp [intOf]; omega⟩
        · obtain rfl : k = n2 := by omega
          go_wp2
          exact retI (H'.o _ (hd.up hb2)) (e.o.trans (by rw [hn2.o]))
    · have e := Hd.i (show pWordLength p m = -1 by simp [pWordLength, hm])
      go_enter Try.func37, Try.ntmps37
      go_wp2_with (first | (go_at_call 53; refine specIsWord_c _ _ _ p _ h.ints ?_) | (go_at_call 48; refine inRange_c _ _ _ _ (fun _ => ?_) (fun _ => ?_) <;> go_prune))
      exact retI (H'.o _ (Below.refl _ _)) e.o
  · have e := Hd.i (show pWordLength p m = -1 by simp [pWordLength, hp])
    go_enter Try.func37, Try.ntmps37
    go_wp2_with (first | (go_at_call 53; refine specIsWord_c _ _ _ p _ h.ints ?_))
    exact retI (H'.o _ (Below.refl _ _)) e.o
end Go.Proofs.Ytkjnabpllecglaa
