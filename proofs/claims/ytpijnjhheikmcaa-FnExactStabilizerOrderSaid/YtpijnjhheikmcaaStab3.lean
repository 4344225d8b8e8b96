/- StabilizerOrder: the value. -/
import Derived.Test.YtpijnjhheikmcaaStab2
import Derived.Test.YtpijnjhheikmcaaChainTop6
namespace Go.Proofs.Ytpijnjhheikmcaa
open Go.RowKit

/-- The generators in the new names. -/
def ren (d : Nat) (xss : List (List Int)) (ps : List Int) : List (List Int) := xss.map fun g => conj g (inv (front d ps))
theorem genSet_ren {d : Nat} {xss : List (List Int)} {ps : List Int} (hg : GenSet (d : Int) xss) (hp : PtSet d ps) : GenSet (d : Int) (ren d xss ps) := by
  have h1 : 1 ≤ d := by have := hg.1; omega
  have h2 : d ≤ 20 := by have := hg.2.1; omega
  refine ⟨hg.1, hg.2.1, by unfold ren; rw [List.length_map]; exact hg.2.2.1, fun p hm => ?_⟩
  unfold ren at hm
  obtain ⟨g, hgm, rfl⟩ := List.mem_map.1 hm
  have := (gs_of hg g hgm).conj (front_pm h1 h2 hp).inv
  exact ⟨by rw [this.2], this.1⟩
theorem ren_succ {d : Nat} {xss : List (List Int)} {ps : List Int} {k : Nat} {g : List Int} (h : xss[k]? = some g) : ren d (xss.take (k + 1)) ps = ren d (xss.take k) ps ++ [conj g (inv (front d ps))] := by
  rw [take_succ_some h]; simp [ren]
open Classical in
noncomputable def pStab (z : Int) (xss : List (List Int)) (ps : List Int) : Int := if GenSet z xss ∧ PtSet z.toNat ps then (ordF (osz z.toNat (ren z.toNat xss ps)) ps.length z.toNat : Nat) else 0
end Go.Proofs.Ytpijnjhheikmcaa
