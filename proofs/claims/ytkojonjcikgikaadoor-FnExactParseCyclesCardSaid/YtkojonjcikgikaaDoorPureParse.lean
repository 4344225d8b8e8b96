/- Texts cut into words; numerals read back; no program in sight. -/
import Derived.Lib.Split
import Derived.Lib.CountLaws
import Derived.Lib.SplitLaws
import Derived.Test.YtkojonjcikgikaaDoorPureText
namespace Go.Proofs.YtkojonjcikgikaaDoor
open Go

def wsplit (c : UInt8) : List UInt8 → List (List UInt8)
  | [] => [[]]
  | x :: t => if x = c then [] :: wsplit c t else (match wsplit c t with | [] => [[x]] | h :: r => (x :: h) :: r)
theorem wsplit_none {c : UInt8} : ∀ {l : List UInt8}, c ∉ l → wsplit c l = [l]
  | [], _ => rfl
  | x :: t, h => by
    have h1 : x ≠ c := fun e => h (e ▸ List.mem_cons_self)
    have h2 := wsplit_none (c := c) (l := t) fun hm => h (List.mem_cons_of_mem _ hm)
    rw [wsplit, if_neg h1, h2]
theorem wsplit_hit {c : UInt8} : ∀ {a b : List UInt8}, c ∉ a → wsplit c (a ++ c :: b) = a :: wsplit c b
  | [], b, _ => by rw [List.nil_append, wsplit, if_pos rfl]
  | x :: t, b, h => by
    have h1 : x ≠ c := fun e => h (e ▸ List.mem_cons_self)
    have h2 := wsplit_hit (c := c) (a := t) (b := b) fun hm => h (List.mem_cons_of_mem _ hm)
    rw [List.cons_append, wsplit, if_neg h1, h2]
theorem wsplit_join {c : UInt8} : ∀ {ws : List (List UInt8)}, ws ≠ [] → (∀ w ∈ ws, c ∉ w) → wsplit c (Lib.join ws [c]) = ws
  | [], h, _ => absurd rfl h
  | [w], _, h => by rw [Lib.join_one, wsplit_none (h w List.mem_cons_self)]
  | w :: w' :: ws, _, h => by
    have e : Lib.join (w :: w' :: ws) [c] = w ++ c :: Lib.join (w' :: ws) [c] := by
      rw [Lib.join_cons, Lib.join_cons]; simp [Lib.joinTail]
    rw [e, wsplit_hit (h w List.mem_cons_self), wsplit_join (by simp) fun x hx => h x (List.mem_cons_of_mem _ hx)]
theorem index_hit {c : UInt8} : ∀ {a b : List UInt8}, c ∉ a → Lib.index (a ++ c :: b) [c] = (a.length : Int)
  | [], b, _ => by simp [Lib.index]
  | x :: t, b, h => by
    have h1 : c ≠ x := fun e => h (e ▸ List.mem_cons_self)
    have h2 := index_hit (c := c) (a := t) (b := b) fun hm => h (List.mem_cons_of_mem _ hm)
    rw [List.cons_append, Lib.index, h2]
    have h3 : ([c].isPrefixOf (x :: (t ++ c :: b))) = false := by show (c == x && List.isPrefixOf [] _) = false; rw [beq_eq_false_iff_ne.2 h1]; rfl
    have h4 : (((t.length : Nat) : Int) == -1) = false := by rw [beq_eq_false_iff_ne]; omega
    rw [h3, h4]
    simp
theorem index_miss {c : UInt8} : ∀ {l : List UInt8}, c ∉ l → Lib.index l [c] = -1
  | [], _ => by simp [Lib.index]
  | x :: t, h => by
    have h1 : c ≠ x := fun e => h (e ▸ List.mem_cons_self)
    have h2 := index_miss (c := c) (l := t) fun hm => h (List.mem_cons_of_mem _ hm)
    rw [Lib.index, h2]
    have h3 : ([c].isPrefixOf (x :: t)) = false := by show (c == x && List.isPrefixOf [] _) = false; rw [beq_eq_false_iff_ne.2 h1]; rfl
    rw [h3]
    simp
theorem countFrom_eq {c : UInt8} : ∀ (fuel : Nat) (l : List UInt8), l.length < fuel → Lib.splitK [c] 0 (Lib.countFrom [c] fuel l) l = wsplit c l
  | 0, l, h => by omega
  | fuel + 1, l, h => by
    by_cases hm : c ∈ l
    · obtain ⟨a, b, rfl, ha⟩ := List.eq_append_cons_of_mem hm
      have e := index_hit (b := b) ha
      have hne : ((Lib.index (a ++ c :: b) [c]) == -1) = false := by rw [e, beq_eq_false_iff_ne]; omega
      rw [Lib.countFrom, hne, if_neg (by simp), Nat.add_comm, Lib.splitK, hne, if_neg (by simp), e]
      have e1 : (a ++ c :: b).drop ((a.length : Int).toNat + [c].length) = b := by simp
      have e2 : (a ++ c :: b).take ((a.length : Int).toNat + 0) = a := by simp
      rw [e1, e2, wsplit_hit ha, countFrom_eq fuel b (by simp at h; omega)]
    · have e := index_miss hm
      rw [Lib.countFrom, e, wsplit_none hm]
      rfl
theorem split_wsplit (c : UInt8) (l : List UInt8) : Lib.split l [c] = wsplit c l := countFrom_eq _ _ (by omega)

/-- The value of a row of digits. -/
def valD (n : Int) (w : List UInt8) : Int := w.foldl (fun n b => n * 10 + ((b.toNat : Int) - 48)) n
def isDig (b : UInt8) : Prop := 48 ≤ b.toNat ∧ b.toNat ≤ 57
instance (b : UInt8) : Decidable (isDig b) := inferInstanceAs (Decidable (_ ∧ _))
def numOk (w : List UInt8) : Prop := (1 ≤ w.length ∧ w.length ≤ 9) ∧ ¬ (w.head? = some 48 ∧ 1 < w.length) ∧ ∀ b ∈ w, isDig b
instance (w : List UInt8) : Decidable (numOk w) := inferInstanceAs (Decidable (_ ∧ _ ∧ _))
theorem valD_ge : ∀ (w : List UInt8) (n : Int), 0 ≤ n → (∀ b ∈ w, isDig b) → n ≤ valD n w ∧ (w ≠ [] → n * 10 ≤ valD n w)
  | [], n, _, _ => by simp [valD]
  | b :: t, n, h0, h => by
    have hb := h b List.mem_cons_self
    unfold isDig at hb
    have h1 := (valD_ge t (n * 10 + ((b.toNat : Int) - 48)) (by omega) fun x hx => h x (List.mem_cons_of_mem _ hx)).1
    have e : valD n (b :: t) = valD (n * 10 + ((b.toNat : Int) - 48)) t := rfl
    rw [e]
    exact ⟨by omega, fun _ => by omega⟩
theorem ofNat_toNat {b : UInt8} {k : Nat} (h : k = b.toNat) : UInt8.ofNat k = b := by rw [h]; simp
theorem num_dig {x : Int} (h0 : 0 ≤ x) (h1 : x < 100) : numOk (dig x) ∧ valD 0 (dig x) = x := by
  unfold dig
  by_cases h : x.toNat < 10
  · rw [Lib.decDigits_one h]
    have hb : (UInt8.ofNat (48 + x.toNat)).toNat = 48 + x.toNat := by simp; omega
    refine ⟨⟨by simp, by simp, fun b hb' => ?_⟩, ?_⟩
    · rw [List.mem_singleton] at hb'; subst hb'; unfold isDig; rw [hb]; omega
    · simp only [valD, List.foldl_cons, List.foldl_nil, hb]; omega
  · rw [Lib.decDigits_two h (by omega)]
    have hb1 : (UInt8.ofNat (48 + x.toNat / 10)).toNat = 48 + x.toNat / 10 := by simp; omega
    have hb2 : (UInt8.ofNat (48 + x.toNat % 10)).toNat = 48 + x.toNat % 10 := by simp; omega
    refine ⟨⟨by simp, fun hh => ?_, fun b hb' => ?_⟩, ?_⟩
    · have h2 := hh.1
      rw [List.head?_cons, Option.some.injEq] at h2
      have h3 := congrArg UInt8.toNat h2
      rw [hb1] at h3
      have : (48 : UInt8).toNat = 48 := rfl
      omega
    · rcases List.mem_cons.1 hb' with rfl | hb'
      · unfold isDig; rw [hb1]; omega
      · rw [List.mem_singleton] at hb'; subst hb'; unfold isDig; rw [hb2]; omega
    · simp only [valD, List.foldl_cons, List.foldl_nil, hb1, hb2]; omega
theorem dig_num {w : List UInt8} {x : Int} (h : numOk w) (hv : valD 0 w = x) (hx : x < 100) : w = dig x := by
  obtain ⟨⟨h1, _⟩, h2, h3⟩ := h
  match w, h1, h2, h3, hv with
  | [a], _, _, h3, hv =>
    have ha := h3 a List.mem_cons_self
    unfold isDig at ha
    have e : x = (a.toNat : Int) - 48 := by rw [← hv]; simp [valD]
    unfold dig
    rw [Lib.decDigits_one (by omega), ofNat_toNat (b := a) (by omega)]
  | [a, b], _, h2, h3, hv =>
    have ha := h3 a List.mem_cons_self
    have hb := h3 b (by simp)
    unfold isDig at ha hb
    have hne : a.toNat ≠ 48 := fun e => h2 ⟨by rw [List.head?_cons]; congr 1; exact UInt8.toNat_inj.1 e, by simp⟩
    have e : x = ((a.toNat : Int) - 48) * 10 + ((b.toNat : Int) - 48) := by rw [← hv]; simp [valD]
    unfold dig
    rw [Lib.decDigits_two (by omega) (by omega), ofNat_toNat (b := a) (by omega), ofNat_toNat (b := b) (by omega)]
  | a :: b :: c :: t, _, h2, h3, hv =>
    exfalso
    have ha := h3 a List.mem_cons_self
    have hb := h3 b (by simp)
    unfold isDig at ha hb
    have hne : a.toNat ≠ 48 := fun e => h2 ⟨by rw [List.head?_cons]; congr 1; exact UInt8.toNat_inj.1 e, by simp⟩
    have e : valD 0 (a :: b :: c :: t) = valD (((a.toNat : Int) - 48) * 10 + ((b.toNat : Int) - 48)) (c :: t) := by simp [valD]
    have h4 := (valD_ge (c :: t) (((a.toNat : Int) - 48) * 10 + ((b.toNat : Int) - 48)) (by omega) fun x hx => h3 x (by simp at hx ⊢; rcases hx with h | h <;> simp [h])).2 (by simp)
    rw [e] at hv
    omega
end Go.Proofs.YtkojonjcikgikaaDoor
