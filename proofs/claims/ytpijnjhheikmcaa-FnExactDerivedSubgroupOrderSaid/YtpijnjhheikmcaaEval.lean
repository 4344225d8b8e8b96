/- EvaluateWord. -/
import Derived.Test.YtpijnjhheikmcaaGen
import Derived.Test.YtpijnjhheikmcaaWord
import Derived.Test.YtpijnjhheikmcaaPureBfs
namespace Go.Proofs.Ytpijnjhheikmcaa
open Go.RowKit

def evalW (xss : List (List Int)) (d : Nat) (ls : List Int) : List Int := ls.foldl (fun p l => comp p (letP xss l)) (idl d)
theorem evalW_snoc (xss : List (List Int)) (d : Nat) (ls : List Int) (l : Int) : evalW xss d (ls ++ [l]) = comp (evalW xss d ls) (letP xss l) := by simp [evalW]
theorem letP_perm {d : Nat} {xss : List (List Int)} (h : GenSet (d : Int) xss) {l : Int} (hl : IsLet xss l) : IsPerm (letP xss l) ∧ (letP xss l).length = d := by
  unfold letP
  obtain ⟨h0, h1, h2⟩ := hl
  split
  · have e : xss[(-l - 1).toNat]? = some (xss[(-l - 1).toNat]'(by omega)) := List.getElem?_eq_getElem (by omega)
    have hp := h.perm (List.mem_of_getElem? e)
    rw [e, Option.getD_some]
    exact ⟨isPerm_inv hp.1, by rw [inv_length]; omega⟩
  · have e : xss[(l - 1).toNat]? = some (xss[(l - 1).toNat]'(by omega)) := List.getElem?_eq_getElem (by omega)
    have hp := h.perm (List.mem_of_getElem? e)
    rw [e, Option.getD_some]
    exact ⟨hp.1, by omega⟩
theorem foldW_perm {d : Nat} {xss : List (List Int)} (h : GenSet (d : Int) xss) (ls : List Int) : ∀ q, IsPerm q → q.length = d → (∀ l ∈ ls, IsLet xss l) → IsPerm (ls.foldl (fun p l => comp p (letP xss l)) q) ∧ (ls.foldl (fun p l => comp p (letP xss l)) q).length = d := by
  induction ls with
  | nil => intro q h1 h2 _; exact ⟨h1, h2⟩
  | cons l t ih =>
    intro q h1 h2 hl
    have h3 := letP_perm h (hl l List.mem_cons_self)
    exact ih _ (isPerm_comp ⟨by omega, h1, h3.1⟩) (by rw [comp_length]; exact h2) (fun x hx => hl x (List.mem_cons_of_mem _ hx))
theorem evalW_perm {d : Nat} {xss : List (List Int)} (h : GenSet (d : Int) xss) (ls : List Int) (hl : ∀ l ∈ ls, IsLet xss l) : IsPerm (evalW xss d ls) ∧ (evalW xss d ls).length = d :=
  foldW_perm h ls (idl d) (isPerm_idl' (by have := h.1; omega) (by have := h.2.1; omega)) (idl_length d) hl
theorem wordOf_let {xss : List (List Int)} {ws : List Int} (h : WordOf (xss.length : Int) ws) {l : Int} (hl : l ∈ ws) : IsLet xss l := by
  have := h.2 l hl
  unfold OkL at this
  exact ⟨this.1, by omega, by omega⟩

theorem lengthGG_c {R : Ending → World → Prop} (a : Option Addr) (len cap : Nat) (w : World) (H : R (.returned (.int .i64 len)) w) :
    Calls Try.prog 80 #[.slice a len cap] w R := by
  have H' := Hd.i H; clear H
  go_enter Try.func80, Try.ntmps80
  go_wp2
  exact H'.o


def EvOk (z : Int) (xss : List (List Int)) (ws : List Int) : Prop := GenSet z xss ∧ WordOf (xss.length : Int) ws
instance (z : Int) (xss : List (List Int)) (ws : List Int) : Decidable (EvOk z xss ws) := inferInstanceAs (Decidable (_ ∧ _))
def pEval (z : Int) (xss : List (List Int)) (ws : List Int) : List Int := if EvOk z xss ws then evalW xss z.toNat ws else []

end Go.Proofs.Ytpijnjhheikmcaa
