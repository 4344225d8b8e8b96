/- The reference's orbits: sortedInts, Orbit, allOrbits, Orbits. -/
import Derived.Test.YtpijnjhheikmcaaOrbitOf
import Derived.Test.YtpijnjhheikmcaaQue
import Derived.Test.YtpijnjhheikmcaaSeen
namespace Go.Proofs.Ytpijnjhheikmcaa
open Go.RowKit


/-- Insertion into an ascending list. -/
def insI (l : List Int) (x : Int) : List Int := (l.takeWhile fun y => decide (y < x)) ++ x :: (l.dropWhile fun y => decide (y < x))
theorem insI_cut {l : List Int} {x : Int} {k : Nat} (hk : k ≤ l.length) (h1 : ∀ j y, j < k → l[j]? = some y → y < x) (h2 : ∀ y, l[k]? = some y → ¬ y < x) : insI l x = l.take k ++ x :: l.drop k := by
  have e : ∀ (l : List Int) (k : Nat), k ≤ l.length → (∀ j y, j < k → l[j]? = some y → y < x) → (∀ y, l[k]? = some y → ¬ y < x) → (l.takeWhile fun y => decide (y < x)) = l.take k ∧ (l.dropWhile fun y => decide (y < x)) = l.drop k := by
    intro l
    induction l with
    | nil => intro k hk _ _; simp
    | cons a t ih =>
      intro k hk h1 h2
      cases k with
      | zero =>
        have := h2 a (by simp)
        simp [this]
      | succ k =>
        have ha := h1 0 a (by omega) (by simp)
        obtain ⟨e1, e2⟩ := ih k (by simpa using hk) (fun j y hj hy => h1 (j + 1) y (by omega) (by simpa using hy)) (fun y hy => h2 y (by simpa using hy))
        simp [ha, e1, e2]
  obtain ⟨e1, e2⟩ := e l k hk h1 h2
  rw [insI, e1, e2]
theorem insI_mem (l : List Int) (x y : Int) : y ∈ insI l x ↔ y = x ∨ y ∈ l := by
  have h := List.takeWhile_append_dropWhile (p := fun y => decide (y < x)) (l := l)
  unfold insI
  conv => rhs; rw [← h]
  simp only [List.mem_append, List.mem_cons]
  constructor
  · rintro (h | h | h) <;> simp [h]
  · rintro (h | h | h) <;> simp [h]
theorem insI_length (l : List Int) (x : Int) : (insI l x).length = l.length + 1 := by
  have h := congrArg List.length (List.takeWhile_append_dropWhile (p := fun y => decide (y < x)) (l := l))
  rw [List.length_append] at h
  unfold insI
  simp only [List.length_append, List.length_cons]
  omega
theorem insI_sorted {l : List Int} {x : Int} (hs : l.Pairwise (· < ·)) (hx : x ∉ l) : (insI l x).Pairwise (· < ·) := by
  induction l with
  | nil => simp [insI]
  | cons a t ih =>
    rw [List.pairwise_cons] at hs
    have hne : a ≠ x := fun e => hx (by rw [e]; exact List.mem_cons_self)
    by_cases ha : a < x
    · have e : insI (a :: t) x = a :: insI t x := by simp [insI, ha]
      rw [e, List.pairwise_cons]
      refine ⟨fun y hy => ?_, ih hs.2 fun h => hx (List.mem_cons_of_mem _ h)⟩
      rcases (insI_mem t x y).1 hy with rfl | hy
      · exact ha
      · exact hs.1 y hy
    · have e : insI (a :: t) x = x :: a :: t := by simp [insI, ha]
      rw [e, List.pairwise_cons, List.pairwise_cons]
      refine ⟨fun y hy => ?_, hs⟩
      rcases List.mem_cons.1 hy with rfl | hy
      · omega
      · have := hs.1 y hy; omega
/-- All of a list inserted. -/
def sortI (l : List Int) : List Int := l.foldl insI []
theorem sortI_snoc (l : List Int) (x : Int) : sortI (l ++ [x]) = insI (sortI l) x := by simp [sortI]
theorem sortI_spec : ∀ (k : Nat) (l : List Int), l.length = k → l.Nodup → (sortI l).Pairwise (· < ·) ∧ (∀ y, y ∈ sortI l ↔ y ∈ l) ∧ (sortI l).length = l.length := by
  intro k
  induction k with
  | zero => intro l h _; rw [List.eq_nil_of_length_eq_zero h]; simp [sortI]
  | succ k ih =>
    intro l h hn
    obtain ⟨s, x, rfl⟩ : ∃ s x, l = s ++ [x] := ⟨l.dropLast, l.getLast (by intro e; simp [e] at h), (List.dropLast_concat_getLast _).symm⟩
    rw [List.nodup_append] at hn
    obtain ⟨h1, h2, h3⟩ := ih s (by simpa using h) hn.1
    rw [sortI_snoc]
    refine ⟨insI_sorted h1 fun hx => hn.2.2 x ((h2 x).1 hx) x (by simp) rfl, fun y => ?_, by rw [insI_length, h3]; simp⟩
    rw [insI_mem, h2 y, List.mem_append, List.mem_singleton]
    exact or_comm

theorem Vals.cut {w : World} {b off n k : Nat} {vs : List Value} (h : Vals w (some ⟨b, off, none⟩) n vs) (hk : k ≤ n) : Vals w (some ⟨b, off + k, none⟩) (n - k) (vs.drop k) := by
  obtain ⟨h1, h2, h3⟩ := h
  refine ⟨by simp [h1], by omega, ?_⟩
  rcases h3 with h3 | ⟨b', off', e, hc⟩
  · exact .inl (by omega)
  · cases e
    refine .inr ⟨b, off + k, rfl, fun j v hv => ?_⟩
    rw [List.getElem?_drop] at hv
    have := hc _ v hv
    rwa [← Nat.add_assoc] at this

/-- A row that stands at an address. -/
def MakesA (R : Ending → World → Prop) (w : World) (ys : List Int) : Prop := ∀ g m c w', Below w.heap.size w w' → OwnI w' w.heap.size (some ⟨g, 0, none⟩) m c ys → R (.returned (.slice (some ⟨g, 0, none⟩) m c)) w'

theorem copyInts_c {R : Ending → World → Prop} (a : Option Addr) (n cap : Nat) (xs : List Int) (w : World) (hx : Ints w a n xs) (hn : n ≤ 1000000) (H : MakesA R w xs) :
    Calls Try.prog 84 #[.slice a n cap] w R := by
  have H' := Hd.i H; clear H
  have hb0 := (Below.refl w.heap.size w).alloc (Nat.le_refl _) (.cells #[] 2)
  have ho0 := OwnI.emptyLit w (B := w.heap.size) (Nat.le_refl _)
  have c1 : (0 + n) * 8 ≤ 140737488355328 := by omega
  have c2 : 0 + n ≤ 281474976710656 := by omega
  have hs := hb0.size
  have hsrc := (hx.up hb0).1
  go_enter Try.func84, Try.ntmps84
  go_wp2_with (at_builtin; refine append_c rfl _ _ _ rfl w.heap.size 2 (.int .i64 0) 8 Try.underlying23 infoInt rfl _ _ _ _ rfl ho0.1 _ _ _ (xs.map (Value.int .i64)) rfl hsrc oneInts c1 c2 hs ?_; intro a2 n2 cap2 w2 hn2 ho2 hg2 ha2; have hb2 := ho0.grewBelow hg2 hb0 hs)
  have ho3 : OwnI w2 w.heap.size a2 n2 cap2 xs := ⟨by simpa using ho2, hx.2⟩
  rcases ha2.o with rfl | rfl
  · exact H'.o _ _ _ _ hb2 ho3
  · exact H'.o _ _ _ _ hb2 ho3

/-- The orbit of a point, from whatever order of discovery. -/
theorem sortI_orb {d : Nat} {xss : List (List Int)} (hg : Gens d xss) {x : Int} (hx : 0 ≤ x ∧ x < d) {os : List Int} (h : os.Nodup ∧ ∀ y, y ∈ os ↔ Reach xss x y) : sortI os = orb d xss x := by
  obtain ⟨h1, h2, _⟩ := sortI_spec _ os rfl h.1
  exact sorted_ext h1 (orb_sorted d xss x) fun y => by rw [h2, h.2, mem_orb hg hx]
theorem found_le {d : Nat} {xss : List (List Int)} (hg : Gens d xss) {x : Int} (hx : 0 ≤ x ∧ x < d) {os : List Int} (h : os.Nodup ∧ ∀ y, y ∈ os ↔ Reach xss x y) : os.length ≤ d := by
  rw [← (sortI_spec _ os rfl h.1).2.2, sortI_orb hg hx h]; exact orb_le d xss x

theorem specPoint_c {R : Ending → World → Prop} (d : Nat) (x : Int) (w : World) (h1 : 1 ≤ d) (h2 : d ≤ 20) (H : R (.returned (.bool (decide (0 ≤ x ∧ x < d)))) w) : Calls Try.prog 92 #[.int .i64 d, .int .i64 x] w R := by
  have H' := Hd.i H; clear H
  go_enter Try.func92, Try.ntmps92
  go_wp2_with (go_at_call 81; refine inRange_c _ _ _ _ (fun h => ?_) (fun h => ?_) <;> replace h := Hd.i h)
  · exact retB H' (decide_eq_true (by have := h.o; omega))
  · exact retB H' (decide_eq_false (by have := h.o; omega))
end Go.Proofs.Ytpijnjhheikmcaa
