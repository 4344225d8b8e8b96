/- Plain facts on lists of integers that are permutations; no program in sight. -/
import Derived.RowKit
import Derived.Laws.Bits
import Derived.Laws.BitsAllLaws
namespace Go.Proofs.Ytpijnjhheikmcaa

/-- xs is a permutation of 0 .. n-1, 1 ≤ n ≤ 20. -/
def IsPerm (xs : List Int) : Prop := 1 ≤ xs.length ∧ xs.length ≤ 20 ∧ (∀ x ∈ xs, 0 ≤ x ∧ x < xs.length) ∧ xs.Nodup
instance (xs : List Int) : Decidable (IsPerm xs) := inferInstanceAs (Decidable (_ ∧ _))

/-- The numbers 0 .. n-1. -/
def idl (n : Nat) : List Int := (List.range n).map fun (j : Nat) => (j : Int)
theorem idl_length (n : Nat) : (idl n).length = n := by simp [idl]
theorem mem_idl {n : Nat} {x : Int} : x ∈ idl n ↔ 0 ≤ x ∧ x < n := by
  simp only [idl, List.mem_map, List.mem_range]
  constructor
  · rintro ⟨j, h1, rfl⟩; omega
  · intro h; exact ⟨x.toNat, by omega, by omega⟩
theorem idl_nodup (n : Nat) : (idl n).Nodup := by
  unfold idl List.Nodup
  rw [List.pairwise_map]
  exact List.nodup_range.imp fun h => by omega
theorem idl_succ (n : Nat) : idl (n + 1) = idl n ++ [(n : Int)] := by simp [idl, List.range_succ]
theorem idl_get {n j : Nat} (h : j < n) : (idl n)[j]? = some (j : Int) := by simp [idl, h]

theorem dup_of_not_nodup {l : List Int} (h : ¬ l.Nodup) : ∃ a, a ∈ l ∧ a ∈ l.erase a := by
  induction l with
  | nil => exact absurd List.nodup_nil h
  | cons x t ih =>
    rw [List.nodup_cons] at h
    by_cases hx : x ∈ t
    · exact ⟨x, List.mem_cons_self, by simpa using hx⟩
    · obtain ⟨a, h1, h2⟩ := ih (fun ht => h ⟨hx, ht⟩)
      refine ⟨a, List.mem_cons_of_mem _ h1, ?_⟩
      rw [List.erase_cons]
      split
      · exact h1
      · exact List.mem_cons_of_mem _ h2

/-- Pigeonholes: n numbers below n are pairwise different if and only if each number below n is one of them. -/
theorem nodup_iff_surj {l : List Int} {n : Nat} (hl : l.length = n) (hr : ∀ x ∈ l, 0 ≤ x ∧ x < n) : l.Nodup ↔ ∀ i : Int, 0 ≤ i → i < n → i ∈ l := by
  constructor
  · intro hd i h0 h1
    apply Classical.byContradiction
    intro hi
    have hsub : l ⊆ (idl n).erase i := by
      intro x hx
      exact (List.mem_erase_of_ne (fun e => hi (by rw [← e]; exact hx))).2 (mem_idl.2 (hr x hx))
    have h := hd.length_le_of_subset hsub
    rw [List.length_erase_of_mem (mem_idl.2 ⟨h0, h1⟩), idl_length] at h
    omega
  · intro hs
    apply Classical.byContradiction
    intro hd
    obtain ⟨a, ha, hae⟩ := dup_of_not_nodup hd
    have hsub : idl n ⊆ l.erase a := by
      intro x hx
      have hx' := mem_idl.1 hx
      by_cases e : x = a
      · rw [e]; exact hae
      · exact (List.mem_erase_of_ne e).2 (hs x hx'.1 hx'.2)
    have h := (idl_nodup n).length_le_of_subset hsub
    have hp := List.length_pos_of_mem ha
    rw [List.length_erase_of_mem ha, idl_length] at h
    omega

/-- The bits of the numbers of a list. -/
def mask (l : List Int) : Nat := l.foldl (fun s x => s ||| 2 ^ x.toNat) 0
theorem mask_snoc (l : List Int) (x : Int) : mask (l ++ [x]) = mask l ||| 2 ^ x.toNat := by simp [mask]
theorem foldl_mask_testBit (l : List Int) : ∀ (s i : Nat), (l.foldl (fun s x => s ||| 2 ^ x.toNat) s).testBit i = (s.testBit i || l.any fun x => x.toNat == i) := by
  induction l with
  | nil => simp
  | cons x t ih =>
    intro s i
    rw [List.foldl_cons, ih, Nat.testBit_or, List.any_cons, Bool.or_assoc]
    congr 2
    rw [Nat.testBit_two_pow]
    rfl
theorem mask_testBit (l : List Int) (i : Nat) : (mask l).testBit i = l.any fun x => x.toNat == i := by
  rw [mask, foldl_mask_testBit]; simp
theorem mask_lt {l : List Int} {n : Nat} (hr : ∀ x ∈ l, 0 ≤ x ∧ x < n) : mask l < 2 ^ n := by
  apply Nat.lt_pow_two_of_testBit
  intro i hi
  rw [mask_testBit, List.any_eq_false]
  intro x hx
  have := hr x hx
  simp; omega
theorem mask_full {l : List Int} {n : Nat} (hr : ∀ x ∈ l, 0 ≤ x ∧ x < n) : mask l = 2 ^ n - 1 ↔ ∀ i : Int, 0 ≤ i → i < n → i ∈ l := by
  constructor
  · intro h i h0 h1
    have hb := mask_testBit l i.toNat
    rw [h, Nat.testBit_two_pow_sub_one, decide_eq_true (by omega)] at hb
    have hb := hb.symm
    rw [List.any_eq_true] at hb
    obtain ⟨x, hx, e⟩ := hb
    have := hr x hx
    have e : x = i := by simp at e; omega
    exact e ▸ hx
  · intro h
    apply Nat.eq_of_testBit_eq
    intro i
    rw [mask_testBit, Nat.testBit_two_pow_sub_one]
    by_cases hi : i < n
    · rw [decide_eq_true hi, List.any_eq_true]
      exact ⟨i, h i (by omega) (by omega), by simp⟩
    · rw [decide_eq_false hi, List.any_eq_false]
      intro x hx
      have := hr x hx
      simp; omega

theorem isPerm_mask {l : List Int} {n : Nat} (hl : l.length = n) (h1 : 1 ≤ n) (h2 : n ≤ 20) (hr : ∀ x ∈ l, 0 ≤ x ∧ x < n) : IsPerm l ↔ mask l = 2 ^ n - 1 := by
  rw [mask_full hr, ← nodup_iff_surj hl hr]
  subst hl
  exact ⟨fun h => h.2.2.2, fun h => ⟨h1, h2, hr, h⟩⟩

theorem i64_or_nat (a b : Nat) (ha : a < 9223372036854775808) (hb : b < 9223372036854775808) : bits .or .i64 (a : Int) (b : Int) = ((a ||| b : Nat) : Int) := by
  have h : a ||| b < 2 ^ 63 := Nat.or_lt_two_pow (by simpa using ha) (by simpa using hb)
  have e1 : (BitVec.ofInt 64 (a : Int)).toNat = a := by simp; omega
  have e2 : (BitVec.ofInt 64 (b : Int)).toNat = b := by simp; omega
  unfold bits
  show IntKind.i64.wrap ((BitVec.ofInt 64 (a : Int) ||| BitVec.ofInt 64 (b : Int)).toNat : Int) = _
  rw [BitVec.toNat_or, e1, e2, IntKind.wrap_i64]
  omega

/-- seen |= 1 << y, on numbers below 20. -/
theorem bits_step (m : Nat) (y : Int) (hm : m < 1048576) (h0 : 0 ≤ y) (h1 : y < 20) : bits .or .i64 (m : Int) (RowKit.wrap64 (2 ^ y.toNat)) = ((m ||| 2 ^ y.toNat : Nat) : Int) := by
  have hp : 2 ^ y.toNat ≤ 2 ^ 19 := Nat.pow_le_pow_right (by omega) (by omega)
  have e : RowKit.wrap64 (2 ^ y.toNat) = ((2 ^ y.toNat : Nat) : Int) := by
    rw [show (2 : Int) ^ y.toNat = ((2 ^ y.toNat : Nat) : Int) from by simp]
    have key : ∀ p : Nat, p ≤ 524288 → RowKit.wrap64 (p : Int) = p := by intro p hp; unfold RowKit.wrap64; omega
    exact key _ hp
  rw [e]
  exact i64_or_nat _ _ (by omega) (by omega)

/-- seen == 1 << n - 1. -/
theorem isPerm_bits {l : List Int} {n : Nat} (hl : l.length = n) (h1 : 1 ≤ n) (h2 : n ≤ 20) (hr : ∀ x ∈ l, 0 ≤ x ∧ x < n) :
    decide (IsPerm l) = (((mask l : Nat) : Int) == RowKit.wrap64 (RowKit.wrap64 (2 ^ n) - 1)) := by
  have hp : 2 ^ n ≤ 2 ^ 20 := Nat.pow_le_pow_right (by omega) h2
  have hp0 : 0 < 2 ^ n := Nat.pow_pos (by omega)
  have key : ∀ p : Nat, 0 < p → p ≤ 1048576 → RowKit.wrap64 (RowKit.wrap64 (p : Int) - 1) = ((p - 1 : Nat) : Int) := by intro p h0 hp; unfold RowKit.wrap64; omega
  rw [show (2 : Int) ^ n = ((2 ^ n : Nat) : Int) from by simp, key _ hp0 hp, Bool.eq_iff_iff, decide_eq_true_iff, beq_iff_eq, isPerm_mask hl h1 h2 hr]
  omega

/-- So far: the first k numbers are in range and pairwise different. -/
def GoodTo (xs : List Int) (n k : Nat) : Prop := (∀ x ∈ xs.take k, 0 ≤ x ∧ x < (n : Int)) ∧ (xs.take k).Nodup
theorem goodTo_zero (xs : List Int) (n : Nat) : GoodTo xs n 0 := by simp [GoodTo]
theorem goodTo_succ {xs : List Int} {n k : Nat} {x : Int} (h : GoodTo xs n k) (hx : xs[k]? = some x) (h0 : 0 ≤ x) (h1 : x < n) (hc : (xs.take k).contains x = false) : GoodTo xs n (k + 1) := by
  have e : xs.take (k + 1) = xs.take k ++ [x] := by rw [List.take_add_one, hx]; rfl
  have hc : x ∉ xs.take k := by simpa using hc
  refine ⟨?_, ?_⟩
  · intro y hy
    rw [e, List.mem_append, List.mem_singleton] at hy
    rcases hy with hy | rfl
    · exact h.1 y hy
    · exact ⟨h0, h1⟩
  · rw [e, List.nodup_append]
    refine ⟨h.2, by simp, ?_⟩
    intro a ha b hb
    rw [List.mem_singleton] at hb
    subst hb
    intro e
    exact hc (e ▸ ha)
theorem not_isPerm_range {xs : List Int} {n k : Nat} {x : Int} (hl : xs.length = n) (hx : xs[k]? = some x) (h : ¬ (0 ≤ x ∧ x ≤ (n : Int) - 1)) : ¬ IsPerm xs := by
  intro hp
  have := hp.2.2.1 x (List.mem_of_getElem? hx)
  omega
theorem not_isPerm_dup {xs : List Int} {k : Nat} {x : Int} (hx : xs[k]? = some x) (hc : (xs.take k).contains x = true) : ¬ IsPerm xs := by
  intro hp
  have hd := hp.2.2.2
  have e : xs = xs.take k ++ xs.drop k := (List.take_append_drop k xs).symm
  rw [e, List.nodup_append] at hd
  obtain ⟨hk, rfl⟩ := List.getElem?_eq_some_iff.1 hx
  exact hd.2.2 xs[k] (by simpa using hc) xs[k] (by rw [List.drop_eq_getElem_cons hk]; exact List.mem_cons_self) rfl
theorem isPerm_good {xs : List Int} {n : Nat} (hl : xs.length = n) (h1 : 1 ≤ n) (h2 : n ≤ 20) (h : GoodTo xs n n) : IsPerm xs := by
  unfold GoodTo at h
  rw [List.take_of_length_le (by omega)] at h
  subst hl
  exact ⟨h1, h2, h.1, h.2⟩

/-- The image of a point; composition (p first); the inverse. -/
def at0 (q : List Int) (x : Int) : Int := q[x.toNat]?.getD 0
def comp (p q : List Int) : List Int := p.map (at0 q)
def inv (p : List Int) : List Int := (idl p.length).map fun i => ((p.idxOf i : Nat) : Int)
theorem comp_length (p q : List Int) : (comp p q).length = p.length := by simp [comp]
theorem inv_length (p : List Int) : (inv p).length = p.length := by simp [inv, idl_length]
theorem at0_of {q : List Int} {x y : Int} (h : q[x.toNat]? = some y) : at0 q x = y := by simp [at0, h]
theorem comp_take_succ {p q : List Int} {k : Nat} {x y : Int} (hx : p[k]? = some x) (hy : q[x.toNat]? = some y) : comp (p.take (k + 1)) q = comp (p.take k) q ++ [y] := by
  rw [List.take_add_one, hx]
  simp [comp, at0_of hy]

theorem IsPerm.lt {p : List Int} (h : IsPerm p) {i : Nat} {x : Int} (hx : p[i]? = some x) : 0 ≤ x ∧ x < p.length := h.2.2.1 x (List.mem_of_getElem? hx)
theorem IsPerm.inj {p : List Int} (h : IsPerm p) {i j : Nat} {x : Int} (hi : p[i]? = some x) (hj : p[j]? = some x) : i = j := by
  exact (List.getElem?_inj (List.getElem?_eq_some_iff.1 hi).1 h.2.2.2).1 (hi.trans hj.symm)
theorem IsPerm.surj {p : List Int} (h : IsPerm p) {x : Int} (h0 : 0 ≤ x) (h1 : x < p.length) : ∃ i : Nat, p[i]? = some x :=
  List.getElem?_of_mem ((nodup_iff_surj rfl h.2.2.1).1 h.2.2.2 x h0 h1)
theorem IsPerm.idxOf {p : List Int} (h : IsPerm p) {i : Nat} {x : Int} (hi : p[i]? = some x) : p.idxOf x = i := by
  have hm := List.mem_of_getElem? hi
  have h2 : p[p.idxOf x]? = some x := by
    have hl := List.idxOf_lt_length_of_mem hm
    rw [List.getElem?_eq_getElem hl, List.getElem_idxOf]
  exact h.inj h2 hi
theorem inv_get {p : List Int} (h : IsPerm p) {i : Nat} {x : Int} (hi : p[i]? = some x) : (inv p)[x.toNat]? = some (i : Int) := by
  have hx := h.lt hi
  rw [inv, List.getElem?_map, idl_get (by omega)]
  simp only [Option.map_some, Option.some.injEq]
  rw [show ((x.toNat : Nat) : Int) = x by omega, h.idxOf hi]
theorem inv_unique {p out : List Int} (hp : IsPerm p) (hl : out.length = p.length) (h : ∀ (i : Nat) (x : Int), p[i]? = some x → out[x.toNat]? = some (i : Int)) : out = inv p := by
  apply List.ext_getElem?
  intro j
  by_cases hj : j < p.length
  · obtain ⟨i, hi⟩ := hp.surj (x := (j : Int)) (by omega) (by omega)
    have h1 := h i _ hi
    have h2 := inv_get hp hi
    simp only [Int.toNat_natCast] at h1 h2
    rw [h1, h2]
  · rw [List.getElem?_eq_none (by omega), List.getElem?_eq_none (by rw [inv_length]; omega)]

/-- So far the inverse stands at the images of the first k points. -/
def InvTo (p out : List Int) (k : Nat) : Prop := out.length = p.length ∧ (∀ y ∈ out, 0 ≤ y ∧ y ≤ 20) ∧ ∀ (i : Nat) (x : Int), i < k → p[i]? = some x → out[x.toNat]? = some (i : Int)
theorem invTo_zero (p : List Int) (n : Nat) (h : n = p.length) : InvTo p (List.replicate n 0) 0 :=
  ⟨by simp [h], by intro y hy; have := List.eq_of_mem_replicate hy; omega, by intro i x hi; omega⟩
theorem invTo_succ {p out : List Int} {k : Nat} {x : Int} (hp : IsPerm p) (h : InvTo p out k) (hx : p[k]? = some x) : InvTo p (out.set x.toNat (k : Int)) (k + 1) := by
  have hk := (List.getElem?_eq_some_iff.1 hx).1
  have h20 := hp.2.1
  refine ⟨by simpa using h.1, ?_, ?_⟩
  · intro y hy
    rcases List.mem_or_eq_of_mem_set hy with hy | rfl
    · exact h.2.1 y hy
    · omega
  · intro i z hi hz
    have hzl := hp.lt hz
    have hxl := hp.lt hx
    have hl := h.1
    by_cases e : i = k
    · subst e
      rw [hx] at hz
      cases hz
      rw [List.getElem?_set_self (by omega)]
    · have hne : x.toNat ≠ z.toNat := by
        intro e2
        have : z = x := by omega
        subst this
        exact e (hp.inj hz hx)
      rw [List.getElem?_set_ne hne]
      exact h.2.2 i z (by omega) hz
theorem invTo_full {p out : List Int} {n : Nat} (hp : IsPerm p) (hn : n = p.length) (h : InvTo p out n) : out = inv p :=
  inv_unique hp h.1 fun i x hx => h.2.2 i x (by have := (List.getElem?_eq_some_iff.1 hx).1; omega) hx

/-- Two permutations of one degree. -/
def PermPair (p q : List Int) : Prop := p.length = q.length ∧ IsPerm p ∧ IsPerm q
instance (p q : List Int) : Decidable (PermPair p q) := inferInstanceAs (Decidable (_ ∧ _))

/-- The first difference decides. -/
def lexLess : List Int → List Int → Bool
  | x :: p, y :: q => if x = y then lexLess p q else decide (x < y)
  | _, _ => false
def cmpL : List Int → List Int → Int
  | [], [] => 0
  | [], _ :: _ => -1
  | _ :: _, [] => 1
  | x :: p, y :: q => if x < y then -1 else if x > y then 1 else cmpL p q
theorem cmpL_lex : ∀ (p q : List Int), p.length = q.length → decide (cmpL p q < 0) = lexLess p q
  | [], [], _ => by simp [cmpL, lexLess]
  | [], _ :: _, h => by simp at h
  | _ :: _, [], h => by simp at h
  | x :: p, y :: q, h => by
    have ih := cmpL_lex p q (by simpa using h)
    unfold cmpL lexLess
    by_cases h1 : x = y
    · subst h1; simpa using ih
    · by_cases h2 : x < y
      · simp [h1, h2]
      · have h3 : x > y := by omega
        simp [h1, h2, h3]
theorem cmpL_range : ∀ (p q : List Int), -1 ≤ cmpL p q ∧ cmpL p q ≤ 1
  | [], [] => by simp [cmpL]
  | [], _ :: _ => by simp [cmpL]
  | _ :: _, [] => by simp [cmpL]
  | x :: p, y :: q => by
    have ih := cmpL_range p q
    unfold cmpL
    split
    · omega
    · split <;> omega

def pCompose (p q : List Int) : List Int := if PermPair p q then comp p q else []
def pInverse (p : List Int) : List Int := if IsPerm p then inv p else []
def pIdentity (n : Int) : List Int := if 1 ≤ n ∧ n ≤ 20 then idl n.toNat else []
def pLess (p q : List Int) : Bool := decide (PermPair p q) && lexLess p q
theorem PermPair.range {p q : List Int} (h : PermPair p q) : ∀ x ∈ p, 0 ≤ x ∧ x < q.length := by
  intro x hx
  have := h.2.1.2.2.1 x hx
  have := h.1
  omega

end Go.Proofs.Ytpijnjhheikmcaa
