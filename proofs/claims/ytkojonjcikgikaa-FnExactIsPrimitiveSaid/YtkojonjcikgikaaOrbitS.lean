/- The reference's orbits: sortedInts, Orbit, allOrbits, Orbits. -/
import Derived.Test.YtkojonjcikgikaaOrbitOf
import Derived.Test.YtkojonjcikgikaaQue
import Derived.Test.YtkojonjcikgikaaSeen
namespace Go.Proofs.Ytkojonjcikgikaa
open Go.RowKit


/-- Insertion into an ascending list. -/
def insI (l : List Int) (x : Int) : List Int := (l.takeWhile fun y => decide (y < x)) ++ x :: (l.dropWhile fun y => decide (y < x))
theorem insI_cut {l : List Int} {x : Int} {k : Nat} (hk : k ≤ l.length) (h1 : ∀ j y, j < k → l[j]? = some y → y < x) (h2 : ∀ y, l[k]? = some y → ¬ y < x) : insI l x = l.take k ++ x :: l.drop k := by
  have e : ∀ (l : List Int) (k : Nat), k ≤ l.length → (∀ j y, j < k → l[j]? = some y → y < x) → (∀ y, l[k]? = some y → ¬ y < x) → (l.takeWhile fun y => decide (y < x)) = l.take k ∧ (l.dropWhile fun y => decide (y < x)) = l.drop k := by
    intro l
    induction l with
    | nil => intro k hk _ _; simp
    | cons a t ih =>
      intro k hk h1 h2
      cases k with
      | zero =>
        have := h2 a (by simp)
        simp [this]
      | succ k =>
        have ha := h1 0 a (by omega) (by simp)
        obtain ⟨e1, e2⟩ := ih k (by simpa using hk) (fun j y hj hy => h1 (j + 1) y (by omega) (by simpa using hy)) (fun y hy => h2 y (by simpa using hy))
        simp [ha, e1, e2]
  obtain ⟨e1, e2⟩ := e l k hk h1 h2
  rw [insI, e1, e2]
theorem insI_mem (l : List Int) (x y : Int) : y ∈ insI l x ↔ y = x ∨ y ∈ l := by
  have h := List.takeWhile_append_dropWhile (p := fun y => decide (y < x)) (l := l)
  unfold insI
  conv => rhs; rw [← h]
  simp only [List.mem_append, List.mem_cons]
  constructor
  · rintro (h | h | h) <;> simp [h]
  · rintro (h | h | h) <;> simp [h]
theorem insI_length (l : List Int) (x : Int) : (insI l x).length = l.length + 1 := by
  have h := congrArg List.length (List.takeWhile_append_dropWhile (p := fun y => decide (y < x)) (l := l))
  rw [List.length_append] at h
  unfold insI
  simp only [List.length_append, List.length_cons]
  omega
theorem insI_sorted {l : List Int} {x : Int} (hs : l.Pairwise (· < ·)) (hx : x ∉ l) : (insI l x).Pairwise (· < ·) := by
  induction l with
  | nil => simp [insI]
  | cons a t ih =>
    rw [List.pairwise_cons] at hs
    have hne : a ≠ x := fun e => hx (by rw [e]; exact List.mem_cons_self)
    by_cases ha : a < x
    · have e : insI (a :: t) x = a :: insI t x := by simp [insI, ha]
      rw [e, List.pairwise_cons]
      refine ⟨fun y hy => ?_, ih hs.2 fun h => hx (List.mem_cons_of_mem _ h)⟩
      rcases (insI_mem t x y).1 hy with rfl | hy
      · exact ha
      · exact hs.1 y hy
    · have e : insI (a :: t) x = x :: a :: t := by simp [insI, ha]
      rw [e, List.pairwise_cons, List.pairwise_cons]
      refine ⟨fun y hy => ?_, hs⟩
      rcases List.mem_cons.1 hy with rfl | hy
      · omega
      · have := hs.1 y hy; omega
/-- All of a list inserted. -/
def sortI (l : List Int) : List Int := l.foldl insI []
theorem sortI_snoc (l : List Int) (x : Int) : sortI (l ++ [x]) = insI (sortI l) x := by simp [sortI]
theorem sortI_spec : ∀ (k : Nat) (l : List Int), l.length = k → l.Nodup → (sortI l).Pairwise (· < ·) ∧ (∀ y, y ∈ sortI l ↔ y ∈ l) ∧ (sortI l).length = l.length := by
  intro k
  induction k with
  | zero => intro l h _; rw [List.eq_nil_of_length_eq_zero h]; simp [sortI]
  | succ k ih =>
    intro l h hn
    obtain ⟨s, x, rfl⟩ : ∃ s x, l = s ++ [x] := ⟨l.dropLast, l.getLast (by intro e; simp [e] at h), (List.dropLast_concat_getLast _).symm⟩
    rw [List.nodup_append] at hn
    obtain ⟨h1, h2, h3⟩ := ih s (by simpa using h) hn.1
    rw [sortI_snoc]
    refine ⟨insI_sorted h1 fun hx => hn.2.2 x ((h2 x).1 hx) x (by simp) rfl, fun y => ?_, by rw [insI_length, h3]; simp⟩
    rw [insI_mem, h2 y, List.mem_append, List.mem_singleton]
    exact or_comm

theorem Vals.cut {w : World} {b off n k : Nat} {vs : List Value} (h : Vals w (some ⟨b, off, none⟩) n vs) (hk : k ≤ n) : Vals w (some ⟨b, off + k, none⟩) (n - k) (vs.drop k) := by
  obtain ⟨h1, h2, h3⟩ := h
  refine ⟨by simp [h1], by omega, ?_⟩
  rcases h3 with h3 | ⟨b', off', e, hc⟩
  · exact .inl (by omega)
  · cases e
    refine .inr ⟨b, off + k, rfl, fun j v hv => ?_⟩
    rw [List.getElem?_drop] at hv
    have := hc _ v hv
    rwa [← Nat.add_assoc] at this

/-- A row that stands at an address. -/
def MakesA (R : Ending → World → Prop) (w : World) (ys : List Int) : Prop := ∀ g m c w', Below w.heap.size w w' → OwnI w' w.heap.size (some ⟨g, 0, none⟩) m c ys → R (.returned (.slice (some ⟨g, 0, none⟩) m c)) w'

theorem copyInts_c {R : Ending → World → Prop} (a : Option Addr) (n cap : Nat) (xs : List Int) (w : World) (hx : Ints w a n xs) (hn : n ≤ 1000000) (H : MakesA R w xs) :
    Calls Try.prog 63 #[.slice a n cap] w R := by
  have H' := Hd.i H; clear H
  have hb0 := (Below.refl w.heap.size w).alloc (Nat.le_refl _) (.cells #[] 2)
  have ho0 := OwnI.emptyLit w (B := w.heap.size) (Nat.le_refl _)
  have c1 : (0 + n) * 8 ≤ 140737488355328 := by omega
  have c2 : 0 + n ≤ 281474976710656 := by omega
  have hs := hb0.size
  have hsrc := (hx.up hb0).1
  go_enter Try.func63, Try.ntmps63
  go_wp2_with (at_builtin; refine append_c rfl _ _ _ rfl w.heap.size 2 (.int .i64 0) 8 Try.underlying22 infoInt rfl _ _ _ _ rfl ho0.1 _ _ _ (xs.map (Value.int .i64)) rfl hsrc oneInts c1 c2 hs ?_; intro a2 n2 cap2 w2 hn2 ho2 hg2 ha2; have hb2 := ho0.grewBelow hg2 hb0 hs)
  have ho3 : OwnI w2 w.heap.size a2 n2 cap2 xs := ⟨by simpa using ho2, hx.2⟩
  rcases ha2.o with rfl | rfl
  · exact H'.o _ _ _ _ hb2 ho3
  · exact H'.o _ _ _ _ hb2 ho3

set_option maxHeartbeats 1000000 in
theorem insertSorted_c {R : Ending → World → Prop} {B : Nat} (g n cap : Nat) (xs : List Int) (x : Int) (w : World) (hx : OwnI w B (some ⟨g, 0, none⟩) n cap xs) (hn : n ≤ 10000) (hxx : Hd (x ∉ xs)) (hxr : -9223372036854775808 ≤ x ∧ x ≤ 9223372036854775807)
    (H : MakesA R w (insI xs x)) : Calls Try.prog 113 #[.slice (some ⟨g, 0, none⟩) n cap, .int .i64 x] w R := by
  have H' := Hd.i H; clear H
  have hln := Hd.i hx.length
  have hcap := hx.cap
  obtain ⟨hx0, hx1⟩ := hxr
  go_enter Try.func113, Try.ntmps113
  go_wp2
  go_loop [5] (fun i => ∃ k : Nat, k ≤ n ∧ i = .int .i64 k ∧ Hd (∀ j y, j < k → xs[j]? = some y → y < x)) (fun i => n - (intOf i).toNat)
  case atStart => exact ⟨0, Nat.zero_le _, rfl, fun j y h => by omega⟩
  case round =>
    obtain ⟨k, hk, rfl, hall⟩ := hrel
    have hrest : ∀ (_ : Hd (∀ y, xs[k]? = some y → ¬ y < x)), Hd (insI xs x = xs.take k ++ x :: xs.drop k) := fun h2 => insI_cut (by have := hln.o; omega) hall.o h2.o
    by_cases hlt : k < n
    · obtain ⟨g', y, e, _, hb, hcell, _, hy⟩ := hx.look hlt
      cases e
      by_cases hyx : y < x
      · clear hrest
        go_wp2
        go_round
        case rel =>
          refine ⟨k + 1, by omega, by go_num, fun j z hj hz => ?_⟩
          by_cases e : j = k
          · subst e; rw [hy.o] at hz; cases hz; exact hyx
          · exact hall.o j z (by omega) hz
        case measure => simp [intOf]; omega
      · have hne : (y == x) = false := by simp; intro e; exact hxx.o (e ▸ List.mem_of_getElem? hy.o)
        have hins := hrest (fun z hz => by rw [hy.o] at hz; cases hz; exact hyx)
        clear hrest
        have hxk := hx.ints.take hk
        have hx9 := hx
        have hkc : k < cap := by omega
        have hkc2 : ¬ cap = k := by omega
        go_wp2_with fail
        refine copyInts_c _ _ _ (xs.take k) _ hxk (by omega) ?_
        intro g1 m1 c1 w1 hb1 ho1
        have hm1 : m1 = k := by rw [← ho1.length, List.length_take]; have := hln.o; omega
        have c1' : (m1 + 1) * 8 ≤ 140737488355328 := by omega
        have c2' : m1 + 1 ≤ 281474976710656 := by omega
        have c3' : (m1 + 1 + (n - k)) * 8 ≤ 140737488355328 := by omega
        have c4' : m1 + 1 + (n - k) ≤ 281474976710656 := by omega
        have hs1 := hb1.size
        replace hm1 := Hd.i hm1
        have hsrc := Hd.i (fun (w2 : World) (h : Below w.heap.size w w2) => (hx9.ints.up h).1.cut hk)
        simp only [Nat.zero_add] at hsrc
        have hone := Hd.i (show ∀ u ∈ (xs.map (Value.int .i64)).drop k, u.oneCell' = true from fun u hu => oneInts u (List.mem_of_mem_drop hu))
        go_wp2_with (first | (at_builtin; refine appendL_c rfl _ _ _ rfl w.heap.size 2 (.int .i64 0) 8 Try.underlying22 infoInt rfl _ _ _ _ rfl ho1.1 [.int .i64 x] 1 rfl rfl oneInt c1' c2' hs1 ?_; intro a2 n2 cap2 w2 hn2 ho2 hg2 ha2; have hb2 := ho1.grewBelow hg2 hb1 hs1; have hs2 := hb2.size; have hsr := hsrc.o w2 hb2; have c5 : (n2 + (n - k)) * 8 ≤ 140737488355328 := (by have := hn2.o; omega); have c6 : n2 + (n - k) ≤ 281474976710656 := (by have := hn2.o; omega)) | (at_builtin; refine append_c rfl _ _ _ rfl w.heap.size 2 (.int .i64 0) 8 Try.underlying22 infoInt rfl _ _ _ _ rfl ho2 _ _ _ _ rfl hsr hone.o c5 c6 hs2 ?_; intro a3 n3 cap3 w3 hn3 ho3 hg3 ha3))
        have ho4 : OwnI w3 w.heap.size a3 n3 cap3 (insI xs x) := by
          rw [hins.o]
          refine ⟨by simpa [List.map_append, List.map_drop] using ho3, fun y hy => ?_⟩
          rcases List.mem_append.1 hy with hy | hy
          · exact hx.2 y (List.mem_of_mem_take hy)
          · rcases List.mem_cons.1 hy with rfl | hy
            · exact ⟨hx0, hx1⟩
            · exact hx.2 y (List.mem_of_mem_drop hy)
        have hb3 := hb2.trans (hg3.below hs2 fun b off s e => (ho2.lt e).1)
        have ha4 : ∃ g, a3 = some ⟨g, 0, none⟩ := by
          rcases ha3.o with rfl | rfl
          · rcases ha2.o with rfl | rfl <;> exact ⟨_, rfl⟩
          · exact ⟨_, rfl⟩
        obtain ⟨g9, rfl⟩ := ha4
        exact H'.o _ _ _ _ hb3 ho4
    · obtain rfl : k = n := by omega
      have hins := hrest (fun z hz => by have := (List.getElem?_eq_some_iff.1 hz).1; have := hln.o; omega)
      clear hrest
      have hxk := hx.ints.take hk
      have fin : ∀ (w3 : World) (a3 : Option Addr) (n3 cap3 : Nat) (g1 : Nat) (a2 : Option Addr) (w1 w2 : World), Below w.heap.size w w3 → Own w3 w.heap.size 2 a3 n3 cap3 (((xs.take k).map (Value.int .i64) ++ [.int .i64 x]) ++ []) → (a3 = a2 ∨ a3 = some ⟨w2.heap.size, 0, none⟩) → (a2 = some ⟨g1, 0, none⟩ ∨ a2 = some ⟨w1.heap.size + 1, 0, none⟩) → R (.returned (.slice a3 n3 cap3)) w3 := by
        intro w3 a3 n3 cap3 g1 a2 w1 w2 hb3 ho3 ha3 ha2
        have ho4 : OwnI w3 w.heap.size a3 n3 cap3 (insI xs x) := by
          rw [hins.o, List.drop_of_length_le (by have := hln.o; omega)]
          refine ⟨by simpa [List.map_append] using ho3, fun y hy => ?_⟩
          rcases List.mem_append.1 hy with hy | hy
          · exact hx.2 y (List.mem_of_mem_take hy)
          · obtain rfl := List.mem_singleton.1 hy
            exact ⟨hx0, hx1⟩
        have ha4 : ∃ g, a3 = some ⟨g, 0, none⟩ := by
          rcases ha3 with rfl | rfl
          · rcases ha2 with rfl | rfl <;> exact ⟨_, rfl⟩
          · exact ⟨_, rfl⟩
        obtain ⟨g9, rfl⟩ := ha4
        exact H'.o _ _ _ _ hb3 ho4
      replace fin := Hd.i fin
      by_cases hck : cap = k
      all_goals
        go_wp2_with fail
        refine copyInts_c _ _ _ (xs.take k) _ hxk (by omega) ?_
        intro g1 m1 c1 w1 hb1 ho1
        have hm1 : m1 = k := by rw [← ho1.length, List.length_take]; have := hln.o; omega
        have c1' : (m1 + 1) * 8 ≤ 140737488355328 := by omega
        have c2' : m1 + 1 ≤ 281474976710656 := by omega
        have c3' : (m1 + 1 + 0) * 8 ≤ 140737488355328 := by omega
        have c4' : m1 + 1 + 0 ≤ 281474976710656 := by omega
        have hs1 := hb1.size
        replace hm1 := Hd.i hm1
        go_wp2_with (first | (at_builtin; refine appendL_c rfl _ _ _ rfl w.heap.size 2 (.int .i64 0) 8 Try.underlying22 infoInt rfl _ _ _ _ rfl ho1.1 [.int .i64 x] 1 rfl rfl oneInt c1' c2' hs1 ?_; intro a2 n2 cap2 w2 hn2 ho2 hg2 ha2; have hb2 := ho1.grewBelow hg2 hb1 hs1; have hs2 := hb2.size; have c5 : (n2 + 0) * 8 ≤ 140737488355328 := (by have := hn2.o; omega); have c6 : n2 + 0 ≤ 281474976710656 := (by have := hn2.o; omega)) | (at_builtin; refine append_c rfl _ _ _ rfl w.heap.size 2 (.int .i64 0) 8 Try.underlying22 infoInt rfl _ _ _ _ rfl ho2 _ 0 _ [] rfl (Vals.nil _) (oneInts (k := .i64) (xs := [])) c5 c6 hs2 ?_; intro a3 n3 cap3 w3 hn3 ho3 hg3 ha3))
        exact fin.o _ _ _ _ _ _ _ _ (hb2.trans (hg3.below hs2 fun b off s e => (ho2.lt e).1)) ho3 ha3.o ha2.o

set_option maxHeartbeats 1000000 in
theorem sortedInts_c {R : Ending → World → Prop} (a : Option Addr) (n cap : Nat) (xs : List Int) (w : World) (hx : Ints w a n xs) (hn : n ≤ 1000) (hnd : Hd xs.Nodup) (H : MakesI R w (sortI xs)) :
    Calls Try.prog 98 #[.slice a n cap] w R := by
  have H' := Hd.i H; clear H
  have hln := Hd.i hx.length
  go_enter Try.func98, Try.ntmps98
  go_wp2
  go_loopw [3, 4] (fun v i wr => ∃ (k g m c : Nat), k ≤ n ∧ i = .int .i64 k ∧ v = .slice (some ⟨g, 0, none⟩) m c ∧ OwnI wr w.heap.size (some ⟨g, 0, none⟩) m c (sortI (xs.take k)) ∧ Below w.heap.size w wr) (fun _ i _ => n - (intOf i).toNat)
  case atStart => exact ⟨0, _, 0, 0, Nat.zero_le _, rfl, rfl, OwnI.emptyLit _ (Nat.le_refl _), (Below.refl _ _).alloc (Nat.le_refl _) _⟩
  case round =>
    obtain ⟨k, g, m, c, hk, rfl, rfl, ho, hb⟩ := hrel
    by_cases hlt : k < n
    · obtain ⟨b, off, x, rfl, hbb, hcell, hy, hy1, hy2⟩ := (hx.up hb).at hlt
      have hnd2 : (xs.take (k + 1)).Nodup := hnd.o.sublist (List.take_sublist _ _)
      rw [take_succ_some hy.o, List.nodup_append] at hnd2
      obtain ⟨_, e2, e3⟩ := sortI_spec _ (xs.take k) rfl hnd2.1
      have hnx : Hd (x ∉ sortI (xs.take k)) := fun h => hnd2.2.2 x ((e2 x).1 h) x (by simp) rfl
      have hm : m ≤ 10000 := by have := ho.length; rw [e3, List.length_take] at this; omega
      clear hnd2 e2 e3
      go_wp2_with fail
      refine insertSorted_c (B := w.heap.size) g m c (sortI (xs.take k)) x _ ho hm hnx ⟨hy1, hy2⟩ ?_
      intro g2 m2 c2 w2 hb2 ho2
      go_wp2
      exact ⟨⟨k + 1, g2, m2, c2, by omega, by go_num, rfl, by rw [take_succ_some hy.o, sortI_snoc]; exact ho2.mono hb.size, below_ups hb hb2 hb.size⟩, by simp [intOf]; omega⟩
    · obtain rfl : k = n := by omega
      go_wp2
      rw [List.take_of_length_le (by have := hln.o; omega)] at ho
      exact H'.o _ _ _ _ hb ho

/-- The orbit of a point, from whatever order of discovery. -/
theorem sortI_orb {d : Nat} {xss : List (List Int)} (hg : Gens d xss) {x : Int} (hx : 0 ≤ x ∧ x < d) {os : List Int} (h : os.Nodup ∧ ∀ y, y ∈ os ↔ Reach xss x y) : sortI os = orb d xss x := by
  obtain ⟨h1, h2, _⟩ := sortI_spec _ os rfl h.1
  exact sorted_ext h1 (orb_sorted d xss x) fun y => by rw [h2, h.2, mem_orb hg hx]
theorem found_le {d : Nat} {xss : List (List Int)} (hg : Gens d xss) {x : Int} (hx : 0 ≤ x ∧ x < d) {os : List Int} (h : os.Nodup ∧ ∀ y, y ∈ os ↔ Reach xss x y) : os.length ≤ d := by
  rw [← (sortI_spec _ os rfl h.1).2.2, sortI_orb hg hx h]; exact orb_le d xss x

end Go.Proofs.Ytkojonjcikgikaa
