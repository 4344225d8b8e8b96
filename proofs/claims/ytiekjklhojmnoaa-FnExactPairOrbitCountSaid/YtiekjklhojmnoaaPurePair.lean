/- Orbits on pairs of points: what both sides count; no program in sight. -/
import Derived.Test.YtiekjklhojmnoaaPureBfs
import Derived.Test.YtiekjklhojmnoaaGen
import Derived.Test.YtiekjklhojmnoaaOrbitOf
namespace Go.Proofs.Ytiekjklhojmnoaa
open Go

/-- The pair of the number v, moved by g. -/
def stP (d : Nat) (g : List Int) (v : Int) : Int := at0 g (v / d) * d + at0 g (v % d)
inductive Rch (d : Nat) (gens : List (List Int)) (v : Int) : Int → Prop
  | refl : Rch d gens v v
  | step {u : Int} {g : List Int} : Rch d gens v u → g ∈ gens → Rch d gens v (stP d g u)
/-- What has been seen when the pairs of numbers below k have been gone through. -/
def SeenT (d : Nat) (gens : List (List Int)) : Nat → Int → Prop
  | 0, _ => False
  | k + 1, v => SeenT d gens k v ∨ ((k / d ≠ k % d ∧ ¬ SeenT d gens k k) ∧ Rch d gens k v)
open Classical in
noncomputable def cntT (d : Nat) (gens : List (List Int)) : Nat → Nat
  | 0 => 0
  | k + 1 => cntT d gens k + if k / d ≠ k % d ∧ ¬ SeenT d gens k k then 1 else 0
theorem cntT_le (d : Nat) (gens : List (List Int)) : ∀ k, cntT d gens k ≤ k
  | 0 => Nat.le_refl _
  | k + 1 => by
    have := cntT_le d gens k
    rw [cntT]
    split <;> omega
theorem cntT_yes {d k : Nat} {gens : List (List Int)} (h : k / d ≠ k % d ∧ ¬ SeenT d gens k k) : cntT d gens (k + 1) = cntT d gens k + 1 := by rw [cntT, if_pos h]
theorem cntT_no {d k : Nat} {gens : List (List Int)} (h : ¬ (k / d ≠ k % d ∧ ¬ SeenT d gens k k)) : cntT d gens (k + 1) = cntT d gens k := by rw [cntT, if_neg h]; rfl
theorem seenT_no {d k : Nat} {gens : List (List Int)} (h : ¬ (k / d ≠ k % d ∧ ¬ SeenT d gens k k)) (v : Int) : SeenT d gens (k + 1) v ↔ SeenT d gens k v :=
  ⟨fun e => e.elim id fun e => absurd e.1 h, .inl⟩
theorem seenT_closed {d : Nat} {gens : List (List Int)} : ∀ (k : Nat) {v : Int} {g : List Int}, SeenT d gens k v → g ∈ gens → SeenT d gens k (stP d g v)
  | 0, _, _, h, _ => h.elim
  | k + 1, v, g, h, hg => by
    rcases h with h | ⟨h1, h2⟩
    · exact .inl (seenT_closed k h hg)
    · exact .inr ⟨h1, h2.step hg⟩
def RngP (d : Nat) (v : Int) : Prop := 0 ≤ v ∧ v < ((d * d : Nat) : Int)
theorem pair_nat {d v : Nat} (hv : v < d * d) : 0 < d ∧ v / d < d ∧ v % d < d := by
  have hd : 0 < d := Nat.pos_of_ne_zero fun e => by subst e; simp at hv
  exact ⟨hd, Nat.div_lt_of_lt_mul hv, Nat.mod_lt _ hd⟩
theorem pair_lt2 {d a b : Nat} (ha : a < d) (hb : b < d) : a * d + b < d * d := by
  have h1 : (a + 1) * d ≤ d * d := Nat.mul_le_mul_right _ ha
  rw [Nat.add_mul, Nat.one_mul] at h1
  omega
theorem stP_nat {d v a b : Nat} {g : List Int} (ha : at0 g ((v / d : Nat) : Int) = a) (hb : at0 g ((v % d : Nat) : Int) = b) : stP d g (v : Int) = ((a * d + b : Nat) : Int) := by
  unfold stP
  have e1 : ((v : Int) / (d : Int)) = ((v / d : Nat) : Int) := by simp
  have e2 : ((v : Int) % (d : Int)) = ((v % d : Nat) : Int) := by simp
  rw [e1, e2, ha, hb]
  simp
theorem gens_at {d : Nat} {gens : List (List Int)} (hg : Gens d gens) {g : List Int} (hm : g ∈ gens) {x : Nat} (hx : x < d) : ∃ a : Nat, a < d ∧ at0 g (x : Int) = a := by
  obtain ⟨h1, h2⟩ := hg g hm
  have hmem : at0 g (x : Int) ∈ g := by
    unfold at0
    rw [Int.toNat_natCast, List.getElem?_eq_getElem (by omega)]
    exact List.getElem_mem _
  have := h1.2.2.1 _ hmem
  exact ⟨(at0 g (x : Int)).toNat, by omega, by omega⟩
theorem stP_range {d : Nat} {gens : List (List Int)} (hg : Gens d gens) {g : List Int} (hm : g ∈ gens) {v : Int} (hv : RngP d v) : RngP d (stP d g v) := by
  obtain ⟨n, rfl⟩ : ∃ n : Nat, v = n := ⟨v.toNat, by have := hv.1; omega⟩
  have hn : n < d * d := by have := hv.2; omega
  obtain ⟨_, h1, h2⟩ := pair_nat hn
  obtain ⟨a, ha, ea⟩ := gens_at hg hm h1
  obtain ⟨b, hb, eb⟩ := gens_at hg hm h2
  rw [stP_nat ea eb]
  have := pair_lt2 ha hb
  exact ⟨by omega, by omega⟩

/-- The search from the pair k: Q has been found, the first i of Q have been gone through, of the next one's images the first j. -/
structure BfsP (d : Nat) (gens : List (List Int)) (k : Nat) (S : Int → Prop) (Q : List Int) (i j : Nat) : Prop where
  seen : ∀ v, S v ↔ SeenT d gens k v ∨ v ∈ Q
  start : (k : Int) ∈ Q
  reach : ∀ v ∈ Q, Rch d gens k v
  nodup : Q.Nodup
  range : ∀ v ∈ Q, RngP d v
  done : ∀ q ∈ Q.take i, ∀ g ∈ gens, S (stP d g q)
  part : ∀ q, Q[i]? = some q → ∀ g ∈ gens.take j, S (stP d g q)
section
variable {d k i j : Nat} {gens : List (List Int)} {S : Int → Prop} {Q : List Int}
theorem BfsP.begin (hk : k < d * d) : BfsP d gens k (fun v => SeenT d gens k v ∨ v = (k : Int)) [(k : Int)] 0 0 :=
  ⟨fun v => by simp, by simp, fun v hv => by rw [List.mem_singleton] at hv; rw [hv]; exact .refl, by simp, fun v hv => by rw [List.mem_singleton] at hv; rw [hv]; exact ⟨by omega, by omega⟩, by simp, by simp⟩
theorem BfsP.len (h : BfsP d gens k S Q i j) : Q.length ≤ d * d := by
  have hs : Q ⊆ idl (d * d) := fun y hy => mem_idl.2 (h.range y hy)
  have := h.nodup.length_le_of_subset hs
  rwa [idl_length] at this
theorem BfsP.old (h : BfsP d gens k S Q i j) {q : Int} (hq : Q[i]? = some q) {g : List Int} (hg : gens[j]? = some g) (hs : S (stP d g q)) : BfsP d gens k S Q i (j + 1) :=
  ⟨h.seen, h.start, h.reach, h.nodup, h.range, h.done, fun q' hq' g' hg' => by
    obtain rfl := Option.some.inj (hq.symm.trans hq')
    rw [take_succ_some hg, List.mem_append, List.mem_singleton] at hg'
    rcases hg' with hg' | rfl
    · exact h.part q hq g' hg'
    · exact hs⟩
theorem BfsP.new (h : BfsP d gens k S Q i j) (hgens : Gens d gens) {q : Int} (hq : Q[i]? = some q) {g : List Int} (hg : gens[j]? = some g) (hs : ¬ S (stP d g q)) : BfsP d gens k (fun v => S v ∨ v = stP d g q) (Q ++ [stP d g q]) i (j + 1) := by
  have hi := (List.getElem?_eq_some_iff.1 hq).1
  have hqm := List.mem_of_getElem? hq
  have hgm := List.mem_of_getElem? hg
  have hnq : stP d g q ∉ Q := fun hm => hs ((h.seen _).2 (.inr hm))
  refine ⟨fun v => ?_, List.mem_append_left _ h.start, fun v hv => ?_, ?_, fun v hv => ?_, fun q' hq' g' hg' => ?_, fun q' hq' g' hg' => ?_⟩
  · rw [h.seen, List.mem_append, List.mem_singleton]
    constructor
    · rintro ((h | h) | h)
      · exact .inl h
      · exact .inr (.inl h)
      · exact .inr (.inr h)
    · rintro (h | h | h)
      · exact .inl (.inl h)
      · exact .inl (.inr h)
      · exact .inr h
  · rcases List.mem_append.1 hv with hv | hv
    · exact h.reach v hv
    · rw [List.mem_singleton] at hv; rw [hv]; exact (h.reach q hqm).step hgm
  · refine List.nodup_append.2 ⟨h.nodup, List.pairwise_singleton _ _, fun a ha b hb => ?_⟩
    rw [List.mem_singleton] at hb
    intro e
    exact hnq (by rw [← hb, ← e]; exact ha)
  · rcases List.mem_append.1 hv with hv | hv
    · exact h.range v hv
    · rw [List.mem_singleton] at hv; rw [hv]; exact stP_range hgens hgm (h.range q hqm)
  · rw [List.take_append_of_le_length (by omega)] at hq'
    exact .inl (h.done q' hq' g' hg')
  · rw [List.getElem?_append_left hi] at hq'
    obtain rfl := Option.some.inj (hq.symm.trans hq')
    rw [take_succ_some hg, List.mem_append, List.mem_singleton] at hg'
    rcases hg' with hg' | rfl
    · exact .inl (h.part q hq g' hg')
    · exact .inr rfl
theorem BfsP.next (h : BfsP d gens k S Q i gens.length) {q : Int} (hq : Q[i]? = some q) : BfsP d gens k S Q (i + 1) 0 :=
  ⟨h.seen, h.start, h.reach, h.nodup, h.range, fun q' hq' g hg => by
    rw [take_succ_some hq, List.mem_append, List.mem_singleton] at hq'
    rcases hq' with hq' | rfl
    · exact h.done q' hq' g hg
    · exact h.part q' hq g (by rw [List.take_length]; exact hg), fun q' _ g hg => by simp at hg⟩
theorem BfsP.full (h : BfsP d gens k S Q Q.length 0) (hc : k / d ≠ k % d ∧ ¬ SeenT d gens k k) : ∀ v, S v ↔ SeenT d gens (k + 1) v := by
  intro v
  have hcl : ∀ u, Rch d gens k u → S u := by
    intro u hu
    induction hu with
    | refl => exact (h.seen _).2 (.inr h.start)
    | step _ hg ih =>
      rcases (h.seen _).1 ih with h1 | h1
      · exact (h.seen _).2 (.inl (seenT_closed k h1 hg))
      · exact h.done _ (by rw [List.take_length]; exact h1) _ hg
  constructor
  · intro hv
    rcases (h.seen v).1 hv with h1 | h1
    · exact .inl h1
    · exact .inr ⟨hc, h.reach v h1⟩
  · rintro (h1 | ⟨_, h1⟩)
    · exact (h.seen v).2 (.inl h1)
    · exact hcl v h1
end
noncomputable def pPairs (z : Int) (xss : List (List Int)) : Int := if GenSet z xss then (cntT z.toNat xss (z.toNat * z.toNat) : Int) else 0
end Go.Proofs.Ytiekjklhojmnoaa
