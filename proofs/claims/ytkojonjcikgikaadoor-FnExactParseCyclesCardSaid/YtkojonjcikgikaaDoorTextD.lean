/- Texts of numbers: the reference's numerals. -/
import Derived.Test.YtkojonjcikgikaaDoorTextF
namespace Go.Proofs.YtkojonjcikgikaaDoor
open Go.RowKit

/-- What is still to come of a numeral: the rest y ahead of the digits t. -/
def rest (y : Nat) (t : List UInt8) : List UInt8 := if y = 0 then t else Lib.decDigits y ++ t
theorem rest_step {y : Nat} (h1 : y < 100) (t : List UInt8) : rest (y / 10) (UInt8.ofNat (48 + y % 10) :: t) = Lib.decDigits y ++ t := by
  unfold rest
  by_cases h2 : y < 10
  · rw [if_pos (by omega), Lib.decDigits_one h2, show y % 10 = y by omega]; rfl
  · rw [if_neg (by omega), Lib.decDigits_two h2 h1, Lib.decDigits_one (by omega)]; simp
theorem S_toList (t : List UInt8) : (S t).toList = t := by rw [ByteArray.toList_eq]; rfl
def sEmpty : Value → Nat
  | .string b => if b.size = 0 then 1 else 0
  | _ => 0
theorem u8_small {d : Nat} (h : d < 10) : ((UInt8.ofNat (48 + d)).toNat : Int) = 48 + d := by
  have : (UInt8.ofNat (48 + d)).toNat = 48 + d := by simp; omega
  rw [this]; omega

set_option maxHeartbeats 1000000 in
set_option maxRecDepth 100000 in
theorem formatInt_c {R : Ending → World → Prop} (x : Int) (w : World) (h0 : 0 ≤ x) (h1 : x < 100) (H : Gives R w (.string (S (dig x)))) :
    Calls Tryd.prog 46 #[.int .i64 x] w R := by
  have H' := Hd.i H; clear H
  obtain ⟨n0, rfl⟩ : ∃ n0 : Nat, x = n0 := ⟨x.toNat, by omega⟩
  have hn0 : n0 < 100 := by omega
  have h1' := h1
  have hneg : decide ((n0 : Int) < 0) = false := decide_eq_false (by omega)
  go_enter Tryd.func46, Tryd.ntmps46
  go_wp2
  go_loopw [0, 3] (fun nv sv wr => ∃ (y : Nat) (t : List UInt8), y < 100 ∧ t.length ≤ 2 ∧ nv = .int .i64 y ∧ sv = .string (S t) ∧ Hd ((t = [] ∧ y = n0) ∨ (t ≠ [] ∧ (y = 0 ∨ t.length = 1) ∧ rest y t = dig n0)) ∧ Below w.heap.size w wr) (fun nv sv _ => (intOf nv).toNat + sEmpty sv)
  case atStart => exact ⟨n0, [], hn0, by simp, rfl, rfl, .inl ⟨rfl, rfl⟩, Below.refl _ _⟩
  case round =>
    obtain ⟨y, t, hy, htl, rfl, rfl, hst, hb⟩ := hrel
    have hsz := hb.size
    have hcont : ∀ (_ : Hd (t = [] ∨ y ≠ 0)), True := fun _ => trivial
    clear hcont
    by_cases hgo : t = [] ∨ y ≠ 0
    · obtain ⟨d, hd⟩ : ∃ d, d = y % 10 := ⟨_, rfl⟩
      have hd10 : d < 10 := by omega
      obtain ⟨ch, hch⟩ : ∃ ch, ch = UInt8.ofNat (48 + d) := ⟨_, rfl⟩
      have hchn : (ch.toNat : Int) = 48 + d := by rw [hch]; exact u8_small hd10
      replace hch := Hd.i hch
      replace hchn := Hd.i hchn
      have hmod : Int.tmod (y : Int) 10 = (d : Int) := by rw [Int.tmod_eq_emod_of_nonneg (by omega)]; omega
      have hdiv' := Hd.i (show (y : Int) / 10 = ((y / 10 : Nat) : Int) by omega)
      have hcv : Sem.run Tryd.prog (convert 62 9 (.slice (some ⟨wr.heap.size, 0, none⟩) 1 1)) (wr.alloc (.cells #[.int .u8 (48 + (d : Int))] 5)) = .ok (.string (S [ch])) (wr.alloc (.cells #[.int .u8 (48 + (d : Int))] 5)) := run_convert_bytes_back (P := Tryd.prog) (wr.alloc (.cells #[.int .u8 (48 + (d : Int))] 5)) 62 9 5 ⟨wr.heap.size, 0, none⟩ 1 [ch] Tryd.underlying62 Tryd.underlying5 Tryd.underlying9 (by
        intro j hj
        have : j = 0 := by simp at hj; omega
        subst this
        simp only [List.getElem_cons_zero, hchn.o]
        simp [Addr.add])
      have hd0 : decide ((d : Int) < 0) = false := decide_eq_false (by omega)
      have hz1 : (S [ch]).size = 1 := S_size _
      have hz2 := S_size t
      have hst' : Hd ((ch :: t ≠ []) ∧ (y / 10 = 0 ∨ (ch :: t).length = 1) ∧ rest (y / 10) (ch :: t) = dig n0) := by
        refine ⟨by simp, ?_, ?_⟩
        · rcases hst.o with ⟨h1, h2⟩ | ⟨h1, h2, h3⟩
          · subst h1; right; rfl
          · left
            rcases hgo with h4 | h4
            · exact absurd h4 h1
            · unfold rest at h3
              rw [if_neg h4] at h3
              have e1 := congrArg List.length h3
              have e2 := (dig_len h0 h1').2
              rw [List.length_append] at e1
              have e3 : t.length ≥ 1 := by cases t with | nil => exact absurd rfl h1 | cons _ _ => simp
              by_cases h5 : y < 10
              · omega
              · rw [Lib.decDigits_two h5 hy] at e1
                simp at e1
                omega
        · rw [hch.o, hd, rest_step hy]
          rcases hst.o with ⟨h1, h2⟩ | ⟨h1, h2, h3⟩
          · subst h1; rw [h2, List.append_nil]; unfold dig; simp
          · rcases hgo with h4 | h4
            · exact absurd h4 h1
            · rw [← h3]; unfold rest; rw [if_neg h4]
      have htl' : (ch :: t).length ≤ 2 := by
        rcases hst.o with ⟨h1, h2⟩ | ⟨h1, h2, h3⟩
        · subst h1; simp
        · rcases hst'.o.2.1 with h4 | h4
          · unfold rest at h3
            have e2 := (dig_len h0 h1').2
            have h6 : y ≠ 0 := by
              rcases hgo with h7 | h7
              · exact absurd h7 h1
              · exact h7
            rw [if_neg h6] at h3
            have e1 := congrArg List.length h3
            rw [List.length_append] at e1
            have e4 : 1 ≤ (Lib.decDigits y).length := by
              by_cases h5 : y < 10
              · rw [Lib.decDigits_one h5]; simp
              · rw [Lib.decDigits_two h5 hy]; simp
            simp; omega
          · omega
      clear hst
      have hy10 : y / 10 < 100 := by omega
      replace hd := Hd.i hd
      have hbw := hb.alloc hsz (.cells #[.int .u8 (48 + (d : Int))] 5)
      by_cases ht : t = []
      · have hs : (S t).toList.isEmpty = true := by rw [S_toList, ht]; rfl
        replace ht := Hd.i ht
        clear hgo
        go_wp2
        refine ⟨⟨y / 10, ch :: t, hy10, htl', by rw [hdiv'.o], by rw [S_append]; rfl, .inr hst'.o, hbw⟩, ?_⟩
        have e1 := S_size t
        rw [ht.o] at e1
        simp [intOf, sEmpty, S_append, S_size, ht.o]
        omega
      · have hs : (S t).toList.isEmpty = false := by rw [S_toList]; cases t with | nil => exact absurd rfl ht | cons _ _ => rfl
        have hy0 : ((y : Int) != 0) = true := by
          rcases hgo with h4 | h4
          · exact absurd h4 ht
          · simp; omega
        have hyp : 0 < y := by
          rcases hgo with h4 | h4
          · exact absurd h4 ht
          · omega
        clear hgo
        replace ht := Hd.i ht
        go_wp2
        refine ⟨⟨y / 10, ch :: t, hy10, htl', by rw [hdiv'.o], by rw [S_append]; rfl, .inr hst'.o, hbw⟩, ?_⟩
        simp [intOf, sEmpty, S_append, S_size]
        omega
    · have hs : (S t).toList.isEmpty = false := by rw [S_toList]; cases t with | nil => exact absurd (.inl rfl) hgo | cons _ _ => rfl
      obtain rfl : y = 0 := by
        apply Classical.byContradiction
        exact fun h => hgo (.inr h)
      have hres : Hd (t = dig n0) := by
        rcases hst.o with ⟨h1, h2⟩ | ⟨h1, h2, h3⟩
        · exact absurd (.inl h1) hgo
        · unfold rest at h3; rw [if_pos rfl] at h3; exact h3
      clear hgo hst
      go_wp2
      rw [hres.o]
      exact H'.o _ hb
end Go.Proofs.YtkojonjcikgikaaDoor
