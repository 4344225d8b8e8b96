/- EvaluateWord. -/
import Derived.Test.YtkojonjcikgikaaGen
import Derived.Test.YtkojonjcikgikaaWord
import Derived.Test.YtkojonjcikgikaaPureBfs
namespace Go.Proofs.Ytkojonjcikgikaa
open Go.RowKit

def evalW (xss : List (List Int)) (d : Nat) (ls : List Int) : List Int := ls.foldl (fun p l => comp p (letP xss l)) (idl d)
theorem evalW_snoc (xss : List (List Int)) (d : Nat) (ls : List Int) (l : Int) : evalW xss d (ls ++ [l]) = comp (evalW xss d ls) (letP xss l) := by simp [evalW]
theorem letP_perm {d : Nat} {xss : List (List Int)} (h : GenSet (d : Int) xss) {l : Int} (hl : IsLet xss l) : IsPerm (letP xss l) ∧ (letP xss l).length = d := by
  unfold letP
  obtain ⟨h0, h1, h2⟩ := hl
  split
  · have e : xss[(-l - 1).toNat]? = some (xss[(-l - 1).toNat]'(by omega)) := List.getElem?_eq_getElem (by omega)
    have hp := h.perm (List.mem_of_getElem? e)
    rw [e, Option.getD_some]
    exact ⟨isPerm_inv hp.1, by rw [inv_length]; omega⟩
  · have e : xss[(l - 1).toNat]? = some (xss[(l - 1).toNat]'(by omega)) := List.getElem?_eq_getElem (by omega)
    have hp := h.perm (List.mem_of_getElem? e)
    rw [e, Option.getD_some]
    exact ⟨hp.1, by omega⟩
theorem foldW_perm {d : Nat} {xss : List (List Int)} (h : GenSet (d : Int) xss) (ls : List Int) : ∀ q, IsPerm q → q.length = d → (∀ l ∈ ls, IsLet xss l) → IsPerm (ls.foldl (fun p l => comp p (letP xss l)) q) ∧ (ls.foldl (fun p l => comp p (letP xss l)) q).length = d := by
  induction ls with
  | nil => intro q h1 h2 _; exact ⟨h1, h2⟩
  | cons l t ih =>
    intro q h1 h2 hl
    have h3 := letP_perm h (hl l List.mem_cons_self)
    exact ih _ (isPerm_comp ⟨by omega, h1, h3.1⟩) (by rw [comp_length]; exact h2) (fun x hx => hl x (List.mem_cons_of_mem _ hx))
theorem evalW_perm {d : Nat} {xss : List (List Int)} (h : GenSet (d : Int) xss) (ls : List Int) (hl : ∀ l ∈ ls, IsLet xss l) : IsPerm (evalW xss d ls) ∧ (evalW xss d ls).length = d :=
  foldW_perm h ls (idl d) (isPerm_idl' (by have := h.1; omega) (by have := h.2.1; omega)) (idl_length d) hl
theorem wordOf_let {xss : List (List Int)} {ws : List Int} (h : WordOf (xss.length : Int) ws) {l : Int} (hl : l ∈ ws) : IsLet xss l := by
  have := h.2 l hl
  unfold OkL at this
  exact ⟨this.1, by omega, by omega⟩

theorem implLetter_c {R : Ending → World → Prop} (a : Option Addr) (n cap : Nat) (xss : List (List Int)) (l : Int) (w : World) (hm : Mat w a n xss) (d : Nat) (hg : Hd (GenSet (d : Int) xss)) (hl : Hd (IsLet xss l))
    (H : ∀ a' n' c' w', Below w.heap.size w w' → Ints w' a' n' (letP xss l) → R (.returned (.slice a' n' c')) w') : Calls Try.prog 118 #[.slice a n cap, .int .i64 l] w R := by
  have H' := Hd.i H; clear H
  have hln := Hd.i hm.length
  have hn8 : n ≤ 8 := by have := hg.o.2.2.1; have := hln.o; omega
  have hr : l ≠ 0 ∧ -(n : Int) ≤ l ∧ l ≤ n := by have := hl.o; rw [IsLet, hln.o] at this; exact this
  by_cases hneg : l < 0
  · obtain ⟨j, rfl⟩ : ∃ j : Nat, l = -((j : Int) + 1) := ⟨(-l - 1).toNat, by omega⟩
    obtain ⟨b, off, a1, n1, c1, p, rfl, hbb, hcell, hy, hin, _⟩ := hm.at (k := j) (by omega)
    have e := Hd.i (show letP xss (-((j : Int) + 1)) = inv p by rw [letP, if_pos hneg, show (-(-((j : Int) + 1)) - 1).toNat = j by omega, hy.o]; rfl)
    have hjn : j < n := by omega
    have hp := (hg.o.perm (List.mem_of_getElem? hy.o)).1
    have hpos : ¬ (0 < -((j : Int) + 1)) := by omega
    clear hr
    go_enter Try.func118, Try.ntmps118
    go_wp2_with (go_at_call 64; refine implInverse_c _ _ _ p _ hin hp ?_; intro a2 n2 c2 w2 hb2 ho2)
    exact H'.o _ _ _ _ hb2 (by rw [e.o]; exact ho2.ints)
  · obtain ⟨j, rfl⟩ : ∃ j : Nat, l = (j : Int) + 1 := ⟨(l - 1).toNat, by omega⟩
    obtain ⟨b, off, a1, n1, c1, p, rfl, hbb, hcell, hy, hin, _⟩ := hm.at (k := j) (by omega)
    have e := Hd.i (show letP xss ((j : Int) + 1) = p by rw [letP, if_neg hneg, show ((j : Int) + 1 - 1).toNat = j by omega, hy.o]; rfl)
    have hpos : 0 < (j : Int) + 1 := by omega
    have hjn : j < n := by omega
    clear hr
    go_enter Try.func118, Try.ntmps118
    go_wp2
    exact H'.o _ _ _ _ (Below.refl _ _) (by rw [e.o]; exact hin)

def EvOk (z : Int) (xss : List (List Int)) (ws : List Int) : Prop := GenSet z xss ∧ WordOf (xss.length : Int) ws
instance (z : Int) (xss : List (List Int)) (ws : List Int) : Decidable (EvOk z xss ws) := inferInstanceAs (Decidable (_ ∧ _))
def pEval (z : Int) (xss : List (List Int)) (ws : List Int) : List Int := if EvOk z xss ws then evalW xss z.toNat ws else []

end Go.Proofs.Ytkojonjcikgikaa
