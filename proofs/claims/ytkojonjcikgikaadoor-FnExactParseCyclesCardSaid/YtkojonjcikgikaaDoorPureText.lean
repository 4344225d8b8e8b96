/- Texts of numbers; no program in sight. -/
import Derived.Lib.Join
import Derived.Lib.ItoaNum
import Derived.Test.YtkojonjcikgikaaDoorPureCycle
namespace Go.Proofs.YtkojonjcikgikaaDoor
open Go

def S (l : List UInt8) : ByteArray := ⟨l.toArray⟩
theorem S_append (a b : List UInt8) : S a ++ S b = S (a ++ b) := by
  unfold S
  rw [← ByteArray.append_eq]
  apply ByteArray.ext
  simp
theorem S_size (l : List UInt8) : (S l).size = l.length := rfl
theorem S_nil : S [] = ⟨#[]⟩ := rfl
theorem S_list (l : List UInt8) : (S l).data.toList = l := rfl
/-- The decimal numeral of a point. -/
def dig (x : Int) : List UInt8 := Lib.decDigits x.toNat
theorem dig_len {x : Int} (h0 : 0 ≤ x) (h1 : x < 100) : 1 ≤ (dig x).length ∧ (dig x).length ≤ 2 := by
  unfold dig
  by_cases h : x.toNat < 10
  · rw [Lib.decDigits_one h]; simp
  · rw [Lib.decDigits_two h (by omega)]; simp
def txt (xs : List Int) : List UInt8 := Lib.join (xs.map dig) [32]
theorem join_snoc (l : List (List UInt8)) (x sep : List UInt8) (h : l ≠ []) : Lib.join (l ++ [x]) sep = Lib.join l sep ++ sep ++ x := by
  cases l with
  | nil => exact absurd rfl h
  | cons y t => rw [List.cons_append, Lib.join_cons, Lib.join_cons]; simp [Lib.joinTail]
theorem join_take {l : List (List UInt8)} {k : Nat} {x sep : List UInt8} (h : l[k]? = some x) (hk : 0 < k) : Lib.join (l.take (k + 1)) sep = Lib.join (l.take k) sep ++ sep ++ x := by
  have e : l.take (k + 1) = l.take k ++ [x] := by rw [List.take_add_one, h]; rfl
  rw [e, join_snoc]
  intro e0
  have hl := (List.getElem?_eq_some_iff.1 h).1
  have : min k l.length = 0 := by rw [← List.length_take, e0]; rfl
  omega
theorem join_take0 {l : List (List UInt8)} {x sep : List UInt8} (h : l[0]? = some x) : Lib.join (l.take 1) sep = x := by
  cases l with
  | nil => simp at h
  | cons y t => simp at h; subst h; simp [Lib.join_one]
theorem join_len (l : List (List UInt8)) (sep : List UInt8) (m : Nat) (hs : sep.length = 1) (h : ∀ x ∈ l, x.length ≤ m) : (Lib.join l sep).length ≤ (m + 1) * l.length := by
  cases l with
  | nil => simp [Lib.join_nil]
  | cons y t =>
    rw [Lib.join_cons]
    have key : ∀ t : List (List UInt8), (∀ x ∈ t, x.length ≤ m) → (Lib.joinTail sep t).length ≤ (m + 1) * t.length := by
      intro t
      induction t with
      | nil => intro _; simp [Lib.joinTail]
      | cons z t ih =>
        intro h
        have h1 := h z List.mem_cons_self
        have h2 := ih fun x hx => h x (List.mem_cons_of_mem _ hx)
        simp only [Lib.joinTail, List.map_cons, List.flatten_cons, List.length_append, List.length_cons] at h2 ⊢
        rw [Nat.mul_add]
        omega
    have h1 := h y List.mem_cons_self
    have h2 := key t fun x hx => h x (List.mem_cons_of_mem _ hx)
    rw [List.length_append, List.length_cons, Nat.mul_add]
    omega
def Small100 (xs : List Int) : Prop := ∀ x ∈ xs, 0 ≤ x ∧ x < 100
theorem txt_len {xs : List Int} (h : Small100 xs) : (txt xs).length ≤ 3 * xs.length := by
  unfold txt
  have := join_len (xs.map dig) [32] 2 rfl (fun y hy => by rw [List.mem_map] at hy; obtain ⟨x, hx, rfl⟩ := hy; exact (dig_len (h x hx).1 (h x hx).2).2)
  rw [List.length_map] at this
  omega
theorem IsPerm.small {p : List Int} (h : IsPerm p) : Small100 p := fun x hx => by have := h.2.2.1 x hx; have := h.2.1; omega
def pFmtI (p : List Int) : List UInt8 := if IsPerm p then txt p else []
end Go.Proofs.YtkojonjcikgikaaDoor
