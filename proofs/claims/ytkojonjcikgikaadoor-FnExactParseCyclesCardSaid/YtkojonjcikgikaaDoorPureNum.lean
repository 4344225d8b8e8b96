/- The program's reading of a number; no program in sight. -/
import Derived.Lib.ParseIntB
import Derived.Test.YtkojonjcikgikaaDoorPureParse
namespace Go.Proofs.YtkojonjcikgikaaDoor
open Go

def numI (l : List UInt8) : Option Int :=
  match Lib.parseIntB 64 l with
  | .ok v => if Lib.itoa v = l ∧ -999999999 ≤ v ∧ v ≤ 999999999 then some v else none
  | _ => none
theorem itoa_dig {x : Int} (h0 : 0 ≤ x) : Lib.itoa x = dig x := by unfold Lib.itoa dig; rw [if_neg (by omega)]
theorem numI_back {l : List UInt8} {x : Int} (h : numI l = some x) (h0 : 0 ≤ x) : l = dig x := by
  unfold numI at h
  split at h
  · split at h
    · rename_i h1
      have := Option.some.inj h
      subst this
      rw [← itoa_dig h0, h1.1]
    · cases h
  · cases h
theorem parseIntB_dig : ∀ k : Nat, k < 20 → Lib.parseIntB 64 (Lib.decDigits k) = .ok (k : Int) := by
  intro k hk
  by_cases h : k < 10
  · rw [Lib.decDigits_one h]
    revert h
    have key : ∀ k, k < 10 → Lib.parseIntB 64 [UInt8.ofNat (48 + k)] = .ok (k : Int) := by decide
    exact key k
  · rw [Lib.decDigits_two h (by omega)]
    have key : ∀ k, k < 20 → ¬ k < 10 → Lib.parseIntB 64 [UInt8.ofNat (48 + k / 10), UInt8.ofNat (48 + k % 10)] = .ok (k : Int) := by decide
    exact key k hk h
theorem numI_dig {x : Int} (h0 : 0 ≤ x) (h1 : x < 20) : numI (dig x) = some x := by
  unfold numI
  have e : Lib.parseIntB 64 (dig x) = .ok x := by
    have := parseIntB_dig x.toNat (by omega)
    unfold dig
    rw [this]
    congr 1
    omega
  rw [e]
  simp only
  rw [if_pos ⟨itoa_dig h0, by omega, by omega⟩]
theorem map_some_inj {xs ys : List Int} (h : xs.map some = ys.map some) : xs = ys := by
  have := congrArg (List.filterMap id) h
  simpa [List.filterMap_map] using this
end Go.Proofs.YtkojonjcikgikaaDoor
