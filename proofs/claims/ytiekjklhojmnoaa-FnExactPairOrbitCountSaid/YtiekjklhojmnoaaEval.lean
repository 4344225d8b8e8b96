/- EvaluateWord. -/
import Derived.Test.YtiekjklhojmnoaaGen
import Derived.Test.YtiekjklhojmnoaaWord
import Derived.Test.YtiekjklhojmnoaaPureBfs
namespace Go.Proofs.Ytiekjklhojmnoaa
open Go.RowKit

def evalW (xss : List (List Int)) (d : Nat) (ls : List Int) : List Int := ls.foldl (fun p l => comp p (letP xss l)) (idl d)
theorem evalW_snoc (xss : List (List Int)) (d : Nat) (ls : List Int) (l : Int) : evalW xss d (ls ++ [l]) = comp (evalW xss d ls) (letP xss l) := by simp [evalW]
theorem letP_perm {d : Nat} {xss : List (List Int)} (h : GenSet (d : Int) xss) {l : Int} (hl : IsLet xss l) : IsPerm (letP xss l) ∧ (letP xss l).length = d := by
  unfold letP
  obtain ⟨h0, h1, h2⟩ := hl
  split
  · have e : xss[(-l - 1).toNat]? = some (xss[(-l - 1).toNat]'(by omega)) := List.getElem?_eq_getElem (by omega)
    have hp := h.perm (List.mem_of_getElem? e)
    rw [e, Option.getD_some]
    exact ⟨isPerm_inv hp.1, by rw [inv_length]; omega⟩
  · have e : xss[(l - 1).toNat]? = some (xss[(l - 1).toNat]'(by omega)) := List.getElem?_eq_getElem (by omega)
    have hp := h.perm (List.mem_of_getElem? e)
    rw [e, Option.getD_some]
    exact ⟨hp.1, by omega⟩
theorem foldW_perm {d : Nat} {xss : List (List Int)} (h : GenSet (d : Int) xss) (ls : List Int) : ∀ q, IsPerm q → q.length = d → (∀ l ∈ ls, IsLet xss l) → IsPerm (ls.foldl (fun p l => comp p (letP xss l)) q) ∧ (ls.foldl (fun p l => comp p (letP xss l)) q).length = d := by
  induction ls with
  | nil => intro q h1 h2 _; exact ⟨h1, h2⟩
  | cons l t ih =>
    intro q h1 h2 hl
    have h3 := letP_perm h (hl l List.mem_cons_self)
    exact ih _ (isPerm_comp ⟨by omega, h1, h3.1⟩) (by rw [comp_length]; exact h2) (fun x hx => hl x (List.mem_cons_of_mem _ hx))
theorem evalW_perm {d : Nat} {xss : List (List Int)} (h : GenSet (d : Int) xss) (ls : List Int) (hl : ∀ l ∈ ls, IsLet xss l) : IsPerm (evalW xss d ls) ∧ (evalW xss d ls).length = d :=
  foldW_perm h ls (idl d) (isPerm_idl' (by have := h.1; omega) (by have := h.2.1; omega)) (idl_length d) hl
theorem wordOf_let {xss : List (List Int)} {ws : List Int} (h : WordOf (xss.length : Int) ws) {l : Int} (hl : l ∈ ws) : IsLet xss l := by
  have := h.2 l hl
  unfold OkL at this
  exact ⟨this.1, by omega, by omega⟩

theorem lengthGG_c {R : Ending → World → Prop} (a : Option Addr) (len cap : Nat) (w : World) (H : R (.returned (.int .i64 len)) w) :
    Calls Try.prog 57 #[.slice a len cap] w R := by
  have H' := Hd.i H; clear H
  go_enter Try.func57, Try.ntmps57
  go_wp2
  exact H'.o


theorem specLetter_c {R : Ending → World → Prop} (a : Option Addr) (n cap : Nat) (xss : List (List Int)) (l : Int) (w : World) (hm : Mat w a n xss) (d : Nat) (hg : Hd (GenSet (d : Int) xss)) (hl : Hd (IsLet xss l))
    (H : ∀ a' n' c' w', Below w.heap.size w w' → Ints w' a' n' (letP xss l) → R (.returned (.slice a' n' c')) w') : Calls Try.prog 60 #[.slice a n cap, .int .i64 l] w R := by
  have H' := Hd.i H; clear H
  have hln := Hd.i hm.length
  have hn8 : n ≤ 8 := by have := hg.o.2.2.1; have := hln.o; omega
  have hr : l ≠ 0 ∧ -(n : Int) ≤ l ∧ l ≤ n := by have := hl.o; rw [IsLet, hln.o] at this; exact this
  by_cases hneg : l < 0
  · obtain ⟨j, rfl⟩ : ∃ j : Nat, l = -((j : Int) + 1) := ⟨(-l - 1).toNat, by omega⟩
    obtain ⟨b, off, a1, n1, c1, p, rfl, hbb, hcell, hy, hin, _⟩ := hm.at (k := j) (by omega)
    have e := Hd.i (show letP xss (-((j : Int) + 1)) = inv p by rw [letP, if_pos hneg, show (-(-((j : Int) + 1)) - 1).toNat = j by omega, hy.o]; rfl)
    have hjn : j < n := by omega
    have hp := (hg.o.perm (List.mem_of_getElem? hy.o)).1
    have hpos : ¬ (0 < -((j : Int) + 1)) := by omega
    clear hr
    go_enter Try.func60, Try.ntmps60
    go_wp2_with (go_at_call 76; refine specInverse_c _ _ _ p _ hin hp ?_; intro a2 n2 c2 w2 hb2 ho2)
    exact H'.o _ _ _ _ hb2 (by rw [e.o]; exact ho2.ints)
  · obtain ⟨j, rfl⟩ : ∃ j : Nat, l = (j : Int) + 1 := ⟨(l - 1).toNat, by omega⟩
    obtain ⟨b, off, a1, n1, c1, p, rfl, hbb, hcell, hy, hin, _⟩ := hm.at (k := j) (by omega)
    have e := Hd.i (show letP xss ((j : Int) + 1) = p by rw [letP, if_neg hneg, show ((j : Int) + 1 - 1).toNat = j by omega, hy.o]; rfl)
    have hpos : 0 < (j : Int) + 1 := by omega
    have hjn : j < n := by omega
    clear hr
    go_enter Try.func60, Try.ntmps60
    go_wp2
    exact H'.o _ _ _ _ (Below.refl _ _) (by rw [e.o]; exact hin)

theorem implLetter_c {R : Ending → World → Prop} (a : Option Addr) (n cap : Nat) (xss : List (List Int)) (l : Int) (w : World) (hm : Mat w a n xss) (d : Nat) (hg : Hd (GenSet (d : Int) xss)) (hl : Hd (IsLet xss l))
    (H : ∀ a' n' c' w', Below w.heap.size w w' → Ints w' a' n' (letP xss l) → R (.returned (.slice a' n' c')) w') : Calls Try.prog 102 #[.slice a n cap, .int .i64 l] w R := by
  have H' := Hd.i H; clear H
  have hln := Hd.i hm.length
  have hn8 : n ≤ 8 := by have := hg.o.2.2.1; have := hln.o; omega
  have hr : l ≠ 0 ∧ -(n : Int) ≤ l ∧ l ≤ n := by have := hl.o; rw [IsLet, hln.o] at this; exact this
  by_cases hneg : l < 0
  · obtain ⟨j, rfl⟩ : ∃ j : Nat, l = -((j : Int) + 1) := ⟨(-l - 1).toNat, by omega⟩
    obtain ⟨b, off, a1, n1, c1, p, rfl, hbb, hcell, hy, hin, _⟩ := hm.at (k := j) (by omega)
    have e := Hd.i (show letP xss (-((j : Int) + 1)) = inv p by rw [letP, if_pos hneg, show (-(-((j : Int) + 1)) - 1).toNat = j by omega, hy.o]; rfl)
    have hjn : j < n := by omega
    have hp := (hg.o.perm (List.mem_of_getElem? hy.o)).1
    have hpos : ¬ (0 < -((j : Int) + 1)) := by omega
    clear hr
    go_enter Try.func102, Try.ntmps102
    go_wp2_with (go_at_call 117; refine implInverse_c _ _ _ p _ hin hp ?_; intro a2 n2 c2 w2 hb2 ho2)
    exact H'.o _ _ _ _ hb2 (by rw [e.o]; exact ho2.ints)
  · obtain ⟨j, rfl⟩ : ∃ j : Nat, l = (j : Int) + 1 := ⟨(l - 1).toNat, by omega⟩
    obtain ⟨b, off, a1, n1, c1, p, rfl, hbb, hcell, hy, hin, _⟩ := hm.at (k := j) (by omega)
    have e := Hd.i (show letP xss ((j : Int) + 1) = p by rw [letP, if_neg hneg, show ((j : Int) + 1 - 1).toNat = j by omega, hy.o]; rfl)
    have hpos : 0 < (j : Int) + 1 := by omega
    have hjn : j < n := by omega
    clear hr
    go_enter Try.func102, Try.ntmps102
    go_wp2
    exact H'.o _ _ _ _ (Below.refl _ _) (by rw [e.o]; exact hin)

set_option maxHeartbeats 1000000 in
theorem specEvaluate_c {R : Ending → World → Prop} (d : Nat) (a : Option Addr) (n cap : Nat) (xss : List (List Int)) (a' : Option Addr) (n' cap' : Nat) (ws : List Int) (w : World) (hm : Mat w a n xss) (hw : Ints w a' n' ws) (hg : Hd (GenSet (d : Int) xss)) (hl : Hd (∀ l ∈ ws, IsLet xss l))
    (H : MakesI R w (evalW xss d ws)) : Calls Try.prog 54 #[.int .i64 d, .slice a n cap, .slice a' n' cap'] w R := by
  have H' := Hd.i H; clear H
  have hln := Hd.i hw.length
  have hle := hw.le
  have hd20 : d ≤ 20 := by have := hg.o.2.1; omega
  go_enter Try.func54, Try.ntmps54
  go_wp2_with fail
  refine specIdentity_c d _ (by omega) ?_
  intro b0 m0 d0 w0 hb0 ho0
  go_wp2
  go_loopw  [7, 8] (fun v i wr => ∃ (k : Nat) (c : Option Addr) (m capc : Nat), k ≤ n' ∧ i = .int .i64 k ∧ v = .slice c m capc ∧ OwnI wr w.heap.size c m capc (evalW xss d (ws.take k)) ∧ Below w.heap.size w wr) (fun _ i _ => n' - (intOf i).toNat)
  case atStart => exact ⟨0, _, _, _, Nat.zero_le _, rfl, rfl, ho0, hb0⟩
  case round =>
    obtain ⟨k, c, m, capc, hk, rfl, rfl, ho, hb⟩ := hrel
    by_cases hlt : k < n'
    · obtain ⟨b, off, l, rfl, hbb, hcell, hy, hy1, hy2⟩ := (hw.up hb).at hlt
      have hle1 := Hd.i (hl.o l (List.mem_of_getElem? hy.o))
      have hev := Hd.i (evalW_perm hg.o (ws.take k) (fun x hx => hl.o x (List.mem_of_mem_take hx)))
      have hlp := Hd.i (letP_perm hg.o hle1.o)
      have hm2 : m ≤ 1000000 := by have := ho.length; have := hev.o.2; omega
      go_wp2_with fail
      refine specLetter_c _ _ _ xss l _ (hm.up hb) d hg hle1 ?_
      intro a3 n3 c3 w3 hb3 hi3
      have hb4 := below_ups hb hb3 hb.size
      have ho4 := ho.up hb3
      have hrg : Hd (∀ x ∈ evalW xss d (ws.take k), 0 ≤ x ∧ x < n3) := by
        have h1 := hev.o.1.range
        rw [hev.o.2] at h1
        have h2 := hi3.length
        rw [hlp.o.2] at h2
        rw [← h2]
        exact h1
      go_wp2_with fail
      refine specCompose_c _ _ _ (evalW xss d (ws.take k)) _ _ _ (letP xss l) _ ho4.ints hi3 hm2 hrg ?_
      intro a5 n5 c5 w5 hb5 ho5
      have hb6 := below_ups hb4 hb5 hb4.size
      go_wp2_with fail
      refine ⟨⟨k + 1, _, _, _, by omega, by go_num, rfl, ?_, hb6⟩, by simp [intOf]; omega⟩
      rw [take_succ_some hy.o, evalW_snoc]
      exact ho5.mono hb4.size
    · obtain rfl : k = n' := by omega
      go_wp2
      rw [List.take_of_length_le (by have := hln.o; omega)] at ho
      exact H'.o _ _ _ _ hb ho

set_option maxHeartbeats 1000000 in
theorem implEvaluate_c {R : Ending → World → Prop} (d : Nat) (a : Option Addr) (n cap : Nat) (xss : List (List Int)) (a' : Option Addr) (n' cap' : Nat) (ws : List Int) (w : World) (hm : Mat w a n xss) (hw : Ints w a' n' ws) (hg : Hd (GenSet (d : Int) xss)) (hl : Hd (∀ l ∈ ws, IsLet xss l))
    (H : MakesI R w (evalW xss d ws)) : Calls Try.prog 58 #[.int .i64 d, .slice a n cap, .slice a' n' cap'] w R := by
  have H' := Hd.i H; clear H
  have hln := Hd.i hw.length
  have hle := hw.le
  have hd20 : d ≤ 20 := by have := hg.o.2.1; omega
  go_enter Try.func58, Try.ntmps58
  go_wp2_with fail
  refine implIdentity_c d _ (by omega) ?_
  intro b0 m0 d0 w0 hb0 ho0
  go_wp2
  go_loopw [7, 14] (fun v i wr => ∃ (k : Nat) (c : Option Addr) (m capc : Nat), k ≤ n' ∧ i = .int .i64 k ∧ v = .slice c m capc ∧ OwnI wr w.heap.size c m capc (evalW xss d (ws.take k)) ∧ Below w.heap.size w wr) (fun _ i _ => n' - (intOf i).toNat)
  case atStart => exact ⟨0, _, _, _, Nat.zero_le _, rfl, rfl, ho0, hb0⟩
  case round =>
    obtain ⟨k, c, m, capc, hk, rfl, rfl, ho, hb⟩ := hrel
    by_cases hlt : k < n'
    · obtain ⟨b, off, l, rfl, hbb, hcell, hy, hy1, hy2⟩ := (hw.up hb).at hlt
      have hle1 := Hd.i (hl.o l (List.mem_of_getElem? hy.o))
      have hev := Hd.i (evalW_perm hg.o (ws.take k) (fun x hx => hl.o x (List.mem_of_mem_take hx)))
      have hlp := Hd.i (letP_perm hg.o hle1.o)
      have hm2 : m ≤ 1000000 := by have := ho.length; have := hev.o.2; omega
      go_wp2_with fail
      refine implLetter_c _ _ _ xss l _ (hm.up hb) d hg hle1 ?_
      intro a3 n3 c3 w3 hb3 hi3
      have hb4 := below_ups hb hb3 hb.size
      have ho4 := ho.up hb3
      have hrg : Hd (∀ x ∈ evalW xss d (ws.take k), 0 ≤ x ∧ x < n3) := by
        have h1 := hev.o.1.range
        rw [hev.o.2] at h1
        have h2 := hi3.length
        rw [hlp.o.2] at h2
        rw [← h2]
        exact h1
      go_wp2_with fail
      refine implCompose_c _ _ _ (evalW xss d (ws.take k)) _ _ _ (letP xss l) _ ho4.ints hi3 hm2 hrg ?_
      intro a5 n5 c5 w5 hb5 ho5
      have hb6 := below_ups hb4 hb5 hb4.size
      go_wp2_with fail
      refine ⟨⟨k + 1, _, _, _, by omega, by go_num, rfl, ?_, hb6⟩, by simp [intOf]; omega⟩
      rw [take_succ_some hy.o, evalW_snoc]
      exact ho5.mono hb4.size
    · obtain rfl : k = n' := by omega
      go_wp2
      rw [List.take_of_length_le (by have := hln.o; omega)] at ho
      exact H'.o _ _ _ _ hb ho

def EvOk (z : Int) (xss : List (List Int)) (ws : List Int) : Prop := GenSet z xss ∧ WordOf (xss.length : Int) ws
instance (z : Int) (xss : List (List Int)) (ws : List Int) : Decidable (EvOk z xss ws) := inferInstanceAs (Decidable (_ ∧ _))
def pEval (z : Int) (xss : List (List Int)) (ws : List Int) : List Int := if EvOk z xss ws then evalW xss z.toNat ws else []

theorem topSpecEvaluateWord {R : Ending → World → Prop} {B B' : Nat} (z : Int) (a : Option Addr) (n cap : Nat) (hs : List Hdr) (xss : List (List Int)) (a' : Option Addr) (n' cap' : Nat) (ws : List Int) (w : World) (_ : -9223372036854775808 ≤ z ∧ z ≤ 9223372036854775807) (hx : OwnH w B a n cap hs xss) (hw : OwnI w B' a' n' cap' ws)
    (H : MakesIB R w (pEval z xss ws) (decide (EvOk z xss ws))) : Calls Try.prog 16 #[.int .i64 z, .slice a n cap, .slice a' n' cap'] w R := by
  have H' := Hd.i H; clear H
  have hm := hx.rows
  have hln := Hd.i hm.length
  have hle := hx.le
  by_cases hg : GenSet z xss
  · have hdec := Hd.i (decide_eq_true hg)
    have hn8 : n ≤ 8 := by have := hg.2.2.1; have := hln.o; omega
    by_cases ho : WordOf (xss.length : Int) ws
    · have hd2 := Hd.i (show decide (WordOf (n : Int) ws) = true by rw [← hln.o]; exact decide_eq_true ho)
      have hok := Hd.i (decide_eq_true (show EvOk z xss ws from ⟨hg, ho⟩))
      have e := Hd.i (show pEval z xss ws = evalW xss z.toNat ws from if_pos ⟨hg, ho⟩)
      have hl : Hd (∀ l ∈ ws, IsLet xss l) := fun l h => wordOf_let ho h
      obtain ⟨d, rfl⟩ : ∃ d : Nat, z = d := ⟨z.toNat, by have := hg.1; omega⟩
      replace hg := Hd.i hg
      replace ho := Hd.i ho
      go_enter Try.func16, Try.ntmps16
      go_wp2_with fail
      refine specGenSet_c (d : Int) _ _ _ xss _ hm ?_
      intro w1 hd1
      rw [hdec.o]
      have hb1 := hd1.below w.heap.size
      replace hw := hw.up (hd1.below _)
      go_wp2_with fail
      refine specIsWordOf_c _ _ _ _ ws _ hw.ints (by omega) ?_
      rw [hd2.o]
      have hw2 := hw
      have hb2' := hb1
      go_wp2_with fail
      refine specEvaluate_c d _ _ _ xss _ _ _ ws _ (hm.up hb2') (hw2.ints) hg hl ?_
      intro a5 n5 c5 w5 hb5 ho5
      go_wp2_with fail
      have := H'.o _ _ _ _ (below_ups hb2' hb5 hb2'.size) (by rw [e.o]; exact ho5.mono hb2'.size)
      rw [hok.o] at this
      exact this
    · have hd2 := Hd.i (show decide (WordOf (n : Int) ws) = false by rw [← hln.o]; exact decide_eq_false ho)
      have hok := Hd.i (decide_eq_false (show ¬ EvOk z xss ws from fun h => ho h.2))
      have e := Hd.i (show pEval z xss ws = [] from if_neg (fun h => ho h.2))
      replace ho := Hd.i ho
      go_enter Try.func16, Try.ntmps16
      go_wp2_with fail
      refine specGenSet_c z _ _ _ xss _ hm ?_
      intro w1 hd1
      rw [hdec.o]
      have hb1 := hd1.below w.heap.size
      replace hw := hw.up (hd1.below _)
      go_wp2_with fail
      refine specIsWordOf_c _ _ _ _ ws _ hw.ints (by omega) ?_
      rw [hd2.o]
      have hw2 := hw
      have hb2' := hb1
      go_wp2_with fail
      have := H'.o _ _ _ _ (hb2'.alloc hb2'.size _) (by rw [e.o]; exact OwnI.emptyLit _ hb2'.size)
      rw [hok.o] at this
      exact this
  · have hdec := Hd.i (decide_eq_false hg)
    have hok := Hd.i (decide_eq_false (show ¬ EvOk z xss ws from fun h => hg h.1))
    have e := Hd.i (show pEval z xss ws = [] from if_neg (fun h => hg h.1))
    go_enter Try.func16, Try.ntmps16
    go_wp2_with fail
    refine specGenSet_c z _ _ _ xss _ hm ?_
    intro w1 hd1
    rw [hdec.o]
    have hb1 := hd1.below w.heap.size
    go_wp2_with fail
    have := H'.o _ _ _ _ (hb1.alloc hb1.size _) (by rw [e.o]; exact OwnI.emptyLit _ hb1.size)
    rw [hok.o] at this
    exact this

theorem topImplEvaluateWord {R : Ending → World → Prop} {B B' : Nat} (z : Int) (a : Option Addr) (n cap : Nat) (hs : List Hdr) (xss : List (List Int)) (a' : Option Addr) (n' cap' : Nat) (ws : List Int) (w : World) (_ : -9223372036854775808 ≤ z ∧ z ≤ 9223372036854775807) (hx : OwnH w B a n cap hs xss) (hw : OwnI w B' a' n' cap' ws)
    (H : MakesIB R w (pEval z xss ws) (decide (EvOk z xss ws))) : Calls Try.prog 19 #[.int .i64 z, .slice a n cap, .slice a' n' cap'] w R := by
  have H' := Hd.i H; clear H
  have hm := hx.rows
  have hln := Hd.i hm.length
  have hle := hx.le
  by_cases hg : GenSet z xss
  · have hdec := Hd.i (decide_eq_true hg)
    have hn8 : n ≤ 8 := by have := hg.2.2.1; have := hln.o; omega
    by_cases ho : WordOf (xss.length : Int) ws
    · have hd2 := Hd.i (show decide (WordOf (n : Int) ws) = true by rw [← hln.o]; exact decide_eq_true ho)
      have hok := Hd.i (decide_eq_true (show EvOk z xss ws from ⟨hg, ho⟩))
      have e := Hd.i (show pEval z xss ws = evalW xss z.toNat ws from if_pos ⟨hg, ho⟩)
      have hl : Hd (∀ l ∈ ws, IsLet xss l) := fun l h => wordOf_let ho h
      obtain ⟨d, rfl⟩ : ∃ d : Nat, z = d := ⟨z.toNat, by have := hg.1; omega⟩
      replace hg := Hd.i hg
      replace ho := Hd.i ho
      go_enter Try.func19, Try.ntmps19
      go_wp2_with fail
      refine implGenSet_c (d : Int) _ _ _ xss _ hm ?_
      intro w1 hd1
      rw [hdec.o]
      have hb1 := hd1
      replace hw := hw.up hd1
      go_wp2_with fail
      refine lengthGG_c _ _ _ _ ?_
      go_wp2_with fail
      refine implIsValidWord_c _ _ _ _ ws _ hw.ints (by omega) ?_
      intro w2 hb2
      rw [hd2.o]
      have hw2 := hw.up hb2
      have hb2' := below_ups hb1 hb2 hb1.size
      go_wp2_with fail
      refine implEvaluate_c d _ _ _ xss _ _ _ ws _ (hm.up hb2') (hw2.ints) hg hl ?_
      intro a5 n5 c5 w5 hb5 ho5
      go_wp2_with fail
      have := H'.o _ _ _ _ (below_ups hb2' hb5 hb2'.size) (by rw [e.o]; exact ho5.mono hb2'.size)
      rw [hok.o] at this
      exact this
    · have hd2 := Hd.i (show decide (WordOf (n : Int) ws) = false by rw [← hln.o]; exact decide_eq_false ho)
      have hok := Hd.i (decide_eq_false (show ¬ EvOk z xss ws from fun h => ho h.2))
      have e := Hd.i (show pEval z xss ws = [] from if_neg (fun h => ho h.2))
      replace ho := Hd.i ho
      go_enter Try.func19, Try.ntmps19
      go_wp2_with fail
      refine implGenSet_c z _ _ _ xss _ hm ?_
      intro w1 hd1
      rw [hdec.o]
      have hb1 := hd1
      replace hw := hw.up hd1
      go_wp2_with fail
      refine lengthGG_c _ _ _ _ ?_
      go_wp2_with fail
      refine implIsValidWord_c _ _ _ _ ws _ hw.ints (by omega) ?_
      intro w2 hb2
      rw [hd2.o]
      have hw2 := hw.up hb2
      have hb2' := below_ups hb1 hb2 hb1.size
      go_wp2_with fail
      have := H'.o _ _ _ _ hb2' (by rw [e.o]; exact OwnI.nil _ _)
      rw [hok.o] at this
      exact this
  · have hdec := Hd.i (decide_eq_false hg)
    have hok := Hd.i (decide_eq_false (show ¬ EvOk z xss ws from fun h => hg h.1))
    have e := Hd.i (show pEval z xss ws = [] from if_neg (fun h => hg h.1))
    go_enter Try.func19, Try.ntmps19
    go_wp2_with fail
    refine implGenSet_c z _ _ _ xss _ hm ?_
    intro w1 hd1
    rw [hdec.o]
    have hb1 := hd1
    go_wp2_with fail
    have := H'.o _ _ _ _ hb1 (by rw [e.o]; exact OwnI.nil _ _)
    rw [hok.o] at this
    exact this
end Go.Proofs.Ytiekjklhojmnoaa
