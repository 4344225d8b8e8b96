/- parseInt of the reference. -/
import Derived.Test.YtkojonjcikgikaaDoorSplitS
namespace Go.Proofs.YtkojonjcikgikaaDoor
open Go.RowKit

theorem valD_snoc (w : List UInt8) (n : Int) (b : UInt8) : valD n (w ++ [b]) = valD n w * 10 + ((b.toNat : Int) - 48) := by simp [valD]
theorem valD_lt : ∀ (k : Nat) (w : List UInt8), w.length = k → (∀ b ∈ w, isDig b) → 0 ≤ valD 0 w ∧ valD 0 w < 10 ^ k
  | 0, w, h, _ => by rw [List.eq_nil_of_length_eq_zero h]; simp [valD]
  | k + 1, w, h, hd => by
    have hne : w ≠ [] := by intro e; rw [e] at h; simp at h
    have e := (List.dropLast_concat_getLast hne).symm
    obtain ⟨t, b, rfl⟩ : ∃ t b, w = t ++ [b] := ⟨_, _, e⟩
    have hl : t.length = k := by simp at h; omega
    have ih := valD_lt k t hl fun x hx => hd x (List.mem_append_left _ hx)
    have hb := hd b (by simp)
    unfold isDig at hb
    rw [valD_snoc, Int.pow_succ]
    omega
theorem S_at {l : List UInt8} {k : Nat} {b : UInt8} (h : l[k]? = some b) (hk : k < (S l).size) : (S l)[k]'hk = b := by
  have := (List.getElem?_eq_some_iff.1 h).2
  rw [← this]; rfl

set_option maxHeartbeats 1000000 in
set_option maxRecDepth 100000 in
theorem parseInt_c {R : Ending → World → Prop} (l : List UInt8) (w : World) (hl : l.length ≤ 200)
    (H : R (.returned (.tuple #[.int .i64 (if numOk l then valD 0 l else 0), .bool (decide (numOk l))])) w) :
    Calls Tryd.prog 20 #[.string (S l)] w R := by
  have H' := Hd.i H; clear H
  obtain ⟨n, hln⟩ : ∃ n, n = l.length := ⟨_, rfl⟩
  have hz : (S l).size = n := by rw [hln]; rfl
  have hn2 : n ≤ 200 := by omega
  have bad : ∀ (_ : Hd (¬ numOk l)), R (.returned (.tuple #[.int .i64 0, .bool false])) w := fun h => by
    have h1 := H'.o
    rw [if_neg h.o, decide_eq_false h.o] at h1
    exact h1
  replace bad := Hd.i bad
  replace hln := Hd.i hln
  by_cases h1 : 1 ≤ n
  · obtain ⟨b0, hb0⟩ : ∃ b, l[0]? = some b := ⟨l[0]'(by have := hln.o; omega), List.getElem?_eq_getElem (by have := hln.o; omega)⟩
    have hat0 : (S l)[0]'(by rw [hz]; exact h1) = b0 := S_at hb0 _
    by_cases h9 : n ≤ 9
    · by_cases hz0 : b0 = 48 ∧ 1 < n
      · have hno : Hd (¬ numOk l) := fun h => h.2.1 ⟨by rw [List.head?_eq_getElem?, hb0, hz0.1], by have := hln.o; have := hz0.2; omega⟩
        have t1 : ((b0.toNat : Int) == 48) = true := by rw [hz0.1]; rfl
        have t2 := hz0.2
        replace hb0 := Hd.i hb0
        replace hz0 := Hd.i hz0
        go_enter Tryd.func20, Tryd.ntmps20
        go_wp2
        exact bad.o hno
      · have hlead : Hd (¬ (l.head? = some 48 ∧ 1 < l.length)) := fun h => hz0 ⟨by have h2 := h.1; rw [List.head?_eq_getElem?, hb0] at h2; exact Option.some.inj h2, by have := hln.o; have := h.2; omega⟩
        have key : (((b0.toNat : Int) == 48) = true ∧ n ≤ 1) ∨ ((b0.toNat : Int) == 48) = false := by
          by_cases e : ((b0.toNat : Int) == 48) = true
          · left
            refine ⟨e, ?_⟩
            rw [beq_iff_eq] at e
            have h48 : b0 = 48 := UInt8.toNat_inj.1 (by have : (48 : UInt8).toNat = 48 := rfl; omega)
            apply Classical.byContradiction
            intro hne
            exact hz0 ⟨h48, by omega⟩
          · right; simpa using e
        replace hb0 := Hd.i hb0
        replace hz0 := Hd.i hz0
        rcases key with ⟨t1, t2⟩ | t1
        all_goals
          go_enter Tryd.func20, Tryd.ntmps20
          go_wp2
          go_loop [4, 5] (fun nv iv => ∃ (k : Nat) (v : Int), k ≤ n ∧ iv = .int .i64 k ∧ nv = .int .i64 v ∧ 0 ≤ v ∧ v < 1000000000 ∧ Hd (v = valD 0 (l.take k)) ∧ Hd (∀ b ∈ l.take k, isDig b)) (fun _ iv => n - (intOf iv).toNat)
          case atStart => exact ⟨0, 0, Nat.zero_le _, rfl, rfl, by omega, by omega, by simp [Hd, valD], by simp [Hd]⟩
          case round =>
            obtain ⟨k, v, hk, rfl, rfl, hv0, hv1, hv, hds⟩ := hrel
            by_cases hlt : k < n
            · obtain ⟨b, hb⟩ : ∃ b, l[k]? = some b := ⟨l[k]'(by have := hln.o; omega), List.getElem?_eq_getElem (by have := hln.o; omega)⟩
              have hat : (S l)[k]'(by rw [hz]; exact hlt) = b := S_at hb _
              have etk := Hd.i (show l.take (k + 1) = l.take k ++ [b] from take_succ_some hb)
              have hmem := Hd.i (List.mem_of_getElem? hb)
              have hlk := Hd.i (show (l.take (k + 1)).length = k + 1 by rw [List.length_take]; have := hln.o; omega)
              replace hb := Hd.i hb
              by_cases hd : isDig b
              · obtain ⟨hd1, hd2⟩ := hd
                have hds' : Hd (∀ b ∈ l.take (k + 1), isDig b) := by
                  intro x hx
                  rw [etk.o, List.mem_append] at hx
                  rcases hx with hx | hx
                  · exact hds.o x hx
                  · rw [List.mem_singleton] at hx; rw [hx]; exact ⟨hd1, hd2⟩
                have hv' := Hd.i (show v * 10 + ((b.toNat : Int) - 48) = valD 0 (l.take (k + 1)) by rw [etk.o, valD_snoc, ← hv.o])
                have hb9 : v * 10 + ((b.toNat : Int) - 48) < 1000000000 := by
                  rw [hv'.o]
                  have h5 := (valD_lt (k + 1) _ hlk.o hds'.o).2
                  have h6 : (10 : Int) ^ (k + 1) ≤ 10 ^ 9 := by
                    have : (10 : Nat) ^ (k + 1) ≤ 10 ^ 9 := Nat.pow_le_pow_right (by omega) (by omega)
                    exact_mod_cast this
                  omega
                have s1 : decide ((b.toNat : Int) < 48) = false := decide_eq_false (by omega)
                have s2 : decide ((b.toNat : Int) > 57) = false := decide_eq_false (by omega)
                go_wp2
                go_round
                case rel => exact ⟨k + 1, v * 10 + ((b.toNat : Int) - 48), by omega, by go_num, by go_num, by omega, hb9, hv'.o, hds'.o⟩
                case measure => simp [intOf]; omega
              · have hno : Hd (¬ numOk l) := fun h => hd (h.2.2 b hmem.o)
                by_cases hlo : b.toNat < 48
                · have s1 : decide ((b.toNat : Int) < 48) = true := decide_eq_true (by omega)
                  clear hd
                  go_wp2
                  exact bad.o hno
                · have s1 : decide ((b.toNat : Int) < 48) = false := decide_eq_false (by omega)
                  have s2 : decide ((b.toNat : Int) > 57) = true := decide_eq_true (by unfold isDig at hd; omega)
                  clear hd
                  go_wp2
                  exact bad.o hno
            · obtain rfl : k = n := by omega
              have etk : l.take k = l := List.take_of_length_le (by have := hln.o; omega)
              have hok : numOk l := ⟨⟨by have := hln.o; omega, by have := hln.o; omega⟩, hlead.o, by rw [← etk]; exact hds.o⟩
              have hr := H'.o
              rw [if_pos hok, decide_eq_true hok] at hr
              have ev : v = valD 0 l := by rw [hv.o, etk]
              replace ev := Hd.i ev
              replace hr := Hd.i hr
              clear hok etk
              go_wp2
              rw [ev.o]
              exact hr.o
    · have hno : Hd (¬ numOk l) := fun h => by have := h.1.2; have := hln.o; omega
      replace hb0 := Hd.i hb0
      go_enter Tryd.func20, Tryd.ntmps20
      go_wp2
      exact bad.o hno
  · have hno : Hd (¬ numOk l) := fun h => by have := h.1.1; have := hln.o; omega
    go_enter Tryd.func20, Tryd.ntmps20
    go_wp2
    exact bad.o hno
end Go.Proofs.YtkojonjcikgikaaDoor
