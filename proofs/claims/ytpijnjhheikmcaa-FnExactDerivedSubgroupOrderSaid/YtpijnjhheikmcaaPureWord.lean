/- Plain facts on words; no program in sight. -/
import Derived.RowKit
namespace Go.Proofs.Ytpijnjhheikmcaa

/-- A letter of the first 'most' generators; a valid word. -/
def OkL (most l : Int) : Prop := l ≠ 0 ∧ -most ≤ l ∧ l ≤ most
instance (most l : Int) : Decidable (OkL most l) := inferInstanceAs (Decidable (_ ∧ _))
def WordOf (g : Int) (w : List Int) : Prop := w.length ≤ 200 ∧ ∀ l ∈ w, OkL (min g 8) l
instance (g : Int) (w : List Int) : Decidable (WordOf g w) := inferInstanceAs (Decidable (_ ∧ _))
def IsWord (w : List Int) : Prop := WordOf 8 w
instance (w : List Int) : Decidable (IsWord w) := inferInstanceAs (Decidable (WordOf 8 w))
theorem IsWord.letter {w : List Int} (h : IsWord w) {k : Nat} {l : Int} (hl : w[k]? = some l) : l ≠ 0 ∧ -8 ≤ l ∧ l ≤ 8 := by
  have := h.2 l (List.mem_of_getElem? hl)
  unfold OkL at this
  omega
theorem IsWord.len {w : List Int} (h : IsWord w) : w.length ≤ 200 := h.1
theorem allTo_succ {p : Int → Prop} {w : List Int} {k : Nat} {l : Int} (h : ∀ x ∈ w.take k, p x) (hl : w[k]? = some l) (hp : p l) : ∀ x ∈ w.take (k + 1), p x := by
  intro x hx
  rw [List.take_add_one, hl] at hx
  simp only [Option.toList_some, List.mem_append, List.mem_singleton] at hx
  rcases hx with hx | rfl
  · exact h x hx
  · exact hp

/-- Free reduction, letter by letter. -/
def frStep (out : List Int) (l : Int) : List Int := if out.getLast? = some (-l) then out.dropLast else out ++ [l]
def freeRed (w : List Int) : List Int := w.foldl frStep []
theorem freeRed_take_succ {w : List Int} {k : Nat} {l : Int} (h : w[k]? = some l) : freeRed (w.take (k + 1)) = frStep (freeRed (w.take k)) l := by
  rw [List.take_add_one, h]; simp [freeRed]
theorem frStep_sub {out : List Int} {l x : Int} (h : x ∈ frStep out l) : x ∈ out ∨ x = l := by
  unfold frStep at h
  split at h
  · exact .inl ((List.dropLast_sublist _).subset h)
  · simpa using h
theorem foldl_fr_sub (w : List Int) : ∀ (out : List Int) (x : Int), x ∈ w.foldl frStep out → x ∈ out ∨ x ∈ w := by
  induction w with
  | nil => intro out x h; exact .inl h
  | cons l w ih =>
    intro out x h
    rcases ih _ x h with h | h
    · rcases frStep_sub h with h | rfl
      · exact .inl h
      · exact .inr List.mem_cons_self
    · exact .inr (List.mem_cons_of_mem _ h)
theorem freeRed_sub {w : List Int} {x : Int} (h : x ∈ freeRed w) : x ∈ w := by
  rcases foldl_fr_sub w [] x h with h | h
  · simp at h
  · exact h
theorem frStep_len (out : List Int) (l : Int) : (frStep out l).length ≤ out.length + 1 := by
  unfold frStep; split <;> simp <;> omega
theorem foldl_fr_len (w : List Int) : ∀ out : List Int, (w.foldl frStep out).length ≤ out.length + w.length := by
  induction w with
  | nil => simp
  | cons l w ih => intro out; have := ih (frStep out l); have := frStep_len out l; simp only [List.foldl_cons, List.length_cons]; omega
theorem freeRed_len (w : List Int) : (freeRed w).length ≤ w.length := by have := foldl_fr_len w []; simpa [freeRed] using this
theorem frStep_pop {out : List Int} {l y : Int} {n : Nat} (hl : out.length = n + 1) (hy : out[n]? = some y) (e : y = -l) : frStep out l = out.take n := by
  have h : out.getLast? = some (-l) := by rw [List.getLast?_eq_getElem?, hl]; simpa [← e] using hy
  rw [frStep, if_pos h, List.dropLast_eq_take, hl]; rfl
theorem frStep_push {out : List Int} {l y : Int} {n : Nat} (hl : out.length = n + 1) (hy : out[n]? = some y) (e : ¬ y = -l) : frStep out l = out ++ [l] := by
  have h : ¬ out.getLast? = some (-l) := by
    rw [List.getLast?_eq_getElem?, hl]
    intro h
    have h : out[n]? = some (-l) := by simpa using h
    rw [hy] at h
    exact e (Option.some.inj h)
  rw [frStep, if_neg h]
theorem frStep_first (l : Int) : frStep [] l = [l] := by simp [frStep]

/-- The place of a letter in the order of letters; the order of words. -/
def rank (l : Int) : Int := if l < 0 then -2 * l - 1 else 2 * l - 2
def lexRank : List Int → List Int → Bool
  | x :: p, y :: q => if x = y then lexRank p q else decide (rank x < rank y)
  | _, _ => false
def cmpRank : List Int → List Int → Int
  | x :: p, y :: q => if rank x - rank y = 0 then cmpRank p q else rank x - rank y
  | _, _ => 0
theorem rank_inj {x y : Int} (h : rank x - rank y = 0) : x = y := by
  unfold rank at h; split at h <;> split at h <;> omega
theorem cmpRank_lex : ∀ (p q : List Int), decide (cmpRank p q < 0) = lexRank p q
  | [], _ => by simp [cmpRank, lexRank]
  | _ :: _, [] => by simp [cmpRank, lexRank]
  | x :: p, y :: q => by
    have ih := cmpRank_lex p q
    unfold cmpRank lexRank
    by_cases h1 : x = y
    · subst h1; simpa using ih
    · have h2 : ¬ (rank x - rank y = 0) := fun h => h1 (rank_inj h)
      rw [if_neg h1, if_neg h2]
      congr 1
      apply propext
      omega
def pWordLess (a b : List Int) : Bool := decide (IsWord a) && (decide (IsWord b) && (if a.length = b.length then lexRank a b else decide (a.length < b.length)))
def pFreeReduce (w : List Int) : List Int := if IsWord w then freeRed w else []
def pInvertWord (w : List Int) : List Int := if IsWord w then (w.map (- ·)).reverse else []

/-- The number of runs of letters of one generator. -/
def alike (x y : Int) : Bool := decide (x = y) || decide (x = -y)
def runsTo (w : List Int) : Nat → Nat
  | 0 => 0
  | k + 1 => runsTo w k + (if k = 0 then 1 else if alike ((w[k - 1]?).getD 0) ((w[k]?).getD 0) then 0 else 1)
theorem runsTo_le (w : List Int) : ∀ k, runsTo w k ≤ k
  | 0 => Nat.le_refl _
  | k + 1 => by have := runsTo_le w k; unfold runsTo; split <;> (try split) <;> omega
theorem runsTo_pos (w : List Int) : ∀ k, 0 < k → 0 < runsTo w k
  | 0, h => by omega
  | 1, _ => by simp [runsTo]
  | k + 2, _ => by have := runsTo_pos w (k + 1) (by omega); unfold runsTo; omega
/-- The length so far, in a metric. -/
def countTo (w : List Int) (m : Int) (k : Nat) : Nat := if m = 1 then k else runsTo w k
theorem alike_symm (x y : Int) : alike x y = alike y x := by
  unfold alike
  rw [Bool.eq_iff_iff]
  simp only [Bool.or_eq_true, decide_eq_true_eq]
  omega
theorem countTo_one (w : List Int) (k : Nat) : countTo w 1 (k + 1) = countTo w 1 k + 1 := by simp [countTo]
theorem countTo_first (w : List Int) (m : Int) : countTo w m (0 + 1) = countTo w m 0 + 1 := by
  unfold countTo; split
  · rfl
  · simp [runsTo]
theorem countTo_same {w : List Int} {k : Nat} {x y : Int} (hx : w[k + 1]? = some x) (hy : w[k]? = some y) (h : alike x y = true) : countTo w 2 (k + 1 + 1) = countTo w 2 (k + 1) := by
  simp only [countTo]
  rw [runsTo, if_neg (by omega), show k + 1 - 1 = k by omega, hx, hy]
  rw [alike_symm] at h
  simp [h]
theorem countTo_new {w : List Int} {k : Nat} {x y : Int} (hx : w[k + 1]? = some x) (hy : w[k]? = some y) (h : alike x y = false) : countTo w 2 (k + 1 + 1) = countTo w 2 (k + 1) + 1 := by
  simp only [countTo]
  rw [runsTo, if_neg (by omega), show k + 1 - 1 = k by omega, hx, hy]
  rw [alike_symm] at h
  simp [h]
theorem countTo_le (w : List Int) (m : Int) (k : Nat) : countTo w m k ≤ k := by
  unfold countTo; split
  · exact Nat.le_refl _
  · exact runsTo_le w k
def pWordLength (w : List Int) (m : Int) : Int := if IsWord w ∧ (m = 1 ∨ m = 2) then (if m = 1 then ((freeRed w).length : Int) else (runsTo (freeRed w) (freeRed w).length : Int)) else -1

theorem pWordLength_count {w : List Int} {m : Int} (hw : IsWord w) (hm : m = 1 ∨ m = 2) : pWordLength w m = (countTo (freeRed w) m (freeRed w).length : Int) := by
  rcases hm with rfl | rfl <;> simp [pWordLength, hw, countTo]
end Go.Proofs.Ytpijnjhheikmcaa
