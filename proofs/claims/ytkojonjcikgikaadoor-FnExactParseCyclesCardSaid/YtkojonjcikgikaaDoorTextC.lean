/- FormatCycles. -/
import Derived.Test.YtkojonjcikgikaaDoorTextS
import Derived.Test.YtkojonjcikgikaaDoorCycle3
import Derived.Test.YtkojonjcikgikaaDoorPureOrder
namespace Go.Proofs.YtkojonjcikgikaaDoor
open Go.RowKit

def piece (c : List Int) : List UInt8 := [40] ++ txt c ++ [41]
def pieces (l : List (List Int)) : List UInt8 := (l.map piece).flatten
noncomputable def fmtC (p : List Int) : List UInt8 := if longC p = [] then [40, 41] else pieces (longC p)
noncomputable def pFmtC (p : List Int) : List UInt8 := if IsPerm p then fmtC p else []
theorem longC_small {p c : List Int} (hp : IsPerm p) (hc : c ∈ longC p) : Small100 c := by
  obtain ⟨x, h0, h1, _, _, rfl⟩ := mem_longC.1 hc
  intro y hy
  have := mem_cyc_range hp ⟨h0, h1⟩ hy
  have := hp.2.1
  omega
theorem piece_len {p c : List Int} (hp : IsPerm p) (hc : c ∈ longC p) : (piece c).length ≤ 62 ∧ 1 ≤ (piece c).length := by
  have h1 := txt_len (longC_small hp hc)
  have h2 := (longC_len hp hc).2
  unfold piece
  simp
  omega
theorem pieces_len {p : List Int} (hp : IsPerm p) : ∀ k, k ≤ (longC p).length → (pieces ((longC p).take k)).length ≤ 62 * k := by
  intro k
  induction k with
  | zero => intro _; simp [pieces]
  | succ k ih =>
    intro hk
    have h1 := ih (by omega)
    have e : (longC p)[k]? = some (longC p)[k] := List.getElem?_eq_getElem (by omega)
    have h2 := (piece_len hp (List.mem_of_getElem? e)).1
    rw [take_succ_some e]
    simp only [pieces, List.map_append, List.flatten_append, List.length_append, List.map_cons, List.map_nil, List.flatten_cons, List.flatten_nil, List.append_nil] at h1 ⊢
    omega
theorem pieces_succ {L : List (List Int)} {k : Nat} {c : List Int} (h : L[k]? = some c) : pieces (L.take (k + 1)) = pieces (L.take k) ++ piece c := by
  rw [take_succ_some h]; simp [pieces]
theorem pieces_empty {p : List Int} (hp : IsPerm p) : pieces (longC p) = [] ↔ longC p = [] := by
  constructor
  · intro h
    cases hL : longC p with
    | nil => rfl
    | cons c t =>
      have := (piece_len hp (c := c) (by rw [hL]; exact List.mem_cons_self)).2
      rw [hL] at h
      simp [pieces] at h
      rw [h.1] at this
      simp at this
  · intro h; rw [h]; rfl
theorem longC_le20 {p : List Int} (hp : IsPerm p) : (longC p).length ≤ 20 := by
  rw [← longTo_full]
  have := longTo_le p p.length
  have := hp.2.1
  omega

set_option maxHeartbeats 1000000 in
set_option maxRecDepth 100000 in
theorem implFmtC_c {R : Ending → World → Prop} (a : Option Addr) (n cap : Nat) (p : List Int) (w : World) (h : Ints w a n p) (hp : Hd (IsPerm p)) (H : Gives R w (.string (S (fmtC p)))) :
    Calls Tryd.prog 34 #[.slice a n cap] w R := by
  have H' := Hd.i H; clear H
  go_enter Tryd.func34, Tryd.ntmps34
  go_wp2_with (first | (go_at_call 45; refine implCycles_c _ _ _ p _ h hp ?_; intro b1 m1 d1 hs w1 hb1 ho1))
  have hml := Hd.i ho1.length
  have hm20 : m1 ≤ 20 := by have := longC_le20 hp.o; have := hml.o; omega
  have hs0 := hb1.size
  go_loopw [3, 9] (fun sv i wr => ∃ (k : Nat) (t : List UInt8), k ≤ m1 ∧ i = .int .i64 k ∧ sv = .string (S t) ∧ Hd (t = pieces ((longC p).take k)) ∧ Below w1.heap.size w1 wr) (fun _ i _ => m1 - (intOf i).toNat)
  case atStart => exact ⟨0, [], Nat.zero_le _, rfl, rfl, by simp [Hd, pieces], Below.refl _ _⟩
  case round =>
    obtain ⟨k, t, hk, rfl, rfl, ht, hb⟩ := hrel
    have htl : t.length ≤ 1240 := by rw [ht.o]; have := pieces_len hp.o k (by have := hml.o; omega); omega
    by_cases hlt : k < m1
    · have ho1' := ho1.up hb
      obtain ⟨b, off, a', n', c', ys, rfl, hbl, hcell, hyk, hin, _⟩ := ho1'.rows.at hlt
      have hyl := Hd.i hin.length
      have hmem := Hd.i (List.mem_of_getElem? hyk.o)
      have hl := longC_len hp.o hmem.o
      have hn1 : 1 ≤ n' := by have := hyl.o; omega
      have hn2 : n' ≤ 20 := by have := hyl.o; omega
      have hsm := Hd.i (longC_small hp.o hmem.o)
      have hxl := txt_len hsm.o
      have hz1 := S_size t
      have hz2 := S_size (txt ys)
      have hz3 : ((⟨#[40]⟩ : ByteArray) ++ S (txt ys)).size = 1 + (txt ys).length := by rw [show (⟨#[40]⟩ : ByteArray) = S [40] from rfl, S_append, S_size]; simp; omega
      have hz4 : ((⟨#[40]⟩ : ByteArray) ++ S (txt ys) ++ (⟨#[41]⟩ : ByteArray)).size = 2 + (txt ys).length := by rw [show (⟨#[40]⟩ : ByteArray) = S [40] from rfl, show (⟨#[41]⟩ : ByteArray) = S [41] from rfl, S_append, S_append, S_size]; simp; omega
      have hxb : (txt ys).length ≤ 60 := by have := hyl.o; omega
      have hsz := hb.size
      clear hl hxl
      go_wp2_with (first | (go_at_call 36; refine joinNumbers_c _ _ _ ys _ hin hsm hn1 hn2 ?_; intro w2 hb2))
      refine ⟨⟨k + 1, t ++ piece ys, by omega, by go_num, ?_, ?_, below_ups hb hb2 hsz⟩, by simp [intOf]; omega⟩
      · rw [show (⟨#[40]⟩ : ByteArray) = S [40] from rfl, show (⟨#[41]⟩ : ByteArray) = S [41] from rfl, S_append, S_append, S_append]; rfl
      · show _ = _
        rw [pieces_succ hyk.o, ht.o]
    · obtain rfl : k = m1 := by omega
      have et := Hd.i (show t = pieces (longC p) by rw [ht.o, List.take_of_length_le (by have := hml.o; omega)])
      have hbb := below_ups hb1 hb hs0
      by_cases he : longC p = []
      · have hs : (S t).toList.isEmpty = true := by rw [S_toList, et.o, (pieces_empty hp.o).2 he]; rfl
        have ef := Hd.i (show fmtC p = [40, 41] by unfold fmtC; rw [if_pos he])
        replace he := Hd.i he
        go_wp2
        have hf := H'.o _ hbb
        rw [ef.o] at hf
        exact hf
      · have hne : pieces (longC p) ≠ [] := fun e => he ((pieces_empty hp.o).1 e)
        have hs : (S t).toList.isEmpty = false := by rw [S_toList, et.o]; cases hq : pieces (longC p) with | nil => exact absurd hq hne | cons _ _ => rfl
        have ef := Hd.i (show fmtC p = t by unfold fmtC; rw [if_neg he, et.o])
        clear hne he
        go_wp2
        have hf := H'.o _ hbb
        rw [ef.o] at hf
        exact hf

theorem topImplFormatCycles {R : Ending → World → Prop} {B : Nat} (a : Option Addr) (n cap : Nat) (p : List Int) (w : World) (h : OwnI w B a n cap p) (H : Gives R w (.string (S (pFmtC p)))) :
    Calls Tryd.prog 18 #[.slice a n cap] w R := by
  have H' := Hd.i H; clear H
  by_cases hp : IsPerm p
  · have e := Hd.i (show pFmtC p = fmtC p by simp [pFmtC, hp])
    have hdec := Hd.i (decide_eq_true hp)
    replace hp := Hd.i hp
    go_enter Tryd.func18, Tryd.ntmps18
    go_wp2_with (first | (go_at_call 24; refine implIsPerm_c _ _ _ p _ h.ints ?_; rw [hdec.o]) | (go_at_call 34; refine implFmtC_c _ _ _ p _ h.ints hp ?_; intro w2 hb2))
    rw [← e.o]
    exact H'.o _ hb2
  · have e := Hd.i (show pFmtC p = [] by simp [pFmtC, hp])
    have hdec := Hd.i (decide_eq_false hp)
    go_enter Tryd.func18, Tryd.ntmps18
    go_wp2_with (first | (go_at_call 24; refine implIsPerm_c _ _ _ p _ h.ints ?_; rw [hdec.o]))
    have hf := H'.o _ (Below.refl _ _)
    rw [e.o] at hf
    exact hf

set_option maxHeartbeats 1000000 in
set_option maxRecDepth 100000 in
theorem specFmtC_c {R : Ending → World → Prop} {B : Nat} (a : Option Addr) (n cap : Nat) (p : List Int) (w : World) (h : OwnI w B a n cap p) (H : Gives R w (.string (S (pFmtC p)))) :
    Calls Tryd.prog 17 #[.slice a n cap] w R := by
  have H' := Hd.i H; clear H
  by_cases hp : IsPerm p
  · have e := Hd.i (show pFmtC p = fmtC p by simp [pFmtC, hp])
    have hdec := Hd.i (decide_eq_true hp)
    have epc := Hd.i (show pCycles p = longC p by simp [pCycles, hp])
    replace hp := Hd.i hp
    go_enter Tryd.func17, Tryd.ntmps17
    go_wp2_with (first | (go_at_call 21; refine specIsPerm_c _ _ _ p _ h.ints h.cap ?_; intro w0 hd0; rw [hdec.o]; have hb0 := hd0.below w.heap.size) | (go_at_call 37; refine topSpecCycles _ _ _ p _ (h.up hb0) ?_; rw [epc.o]; intro b1 m1 d1 hs w1 hb1 ho1))
    have hml := Hd.i ho1.length
    have hm20 : m1 ≤ 20 := by have := longC_le20 hp.o; have := hml.o; omega
    have hbb1 := below_ups hb0 hb1 hb0.size
    have hs0 := hbb1.size
    clear hb1 hb0
    go_loopw [4, 5] (fun sv i wr => ∃ (k : Nat) (t : List UInt8), k ≤ m1 ∧ i = .int .i64 k ∧ sv = .string (S t) ∧ Hd (t = pieces ((longC p).take k)) ∧ Below w1.heap.size w1 wr) (fun _ i _ => m1 - (intOf i).toNat)
    case atStart => exact ⟨0, [], Nat.zero_le _, rfl, rfl, by simp [Hd, pieces], Below.refl _ _⟩
    case round =>
      obtain ⟨k, t, hk, rfl, rfl, ht, hb⟩ := hrel
      have htl : t.length ≤ 1240 := by rw [ht.o]; have := pieces_len hp.o k (by have := hml.o; omega); omega
      by_cases hlt : k < m1
      · have ho1' := ho1.up hb
        obtain ⟨b, off, a', n', c', ys, rfl, hbl, hcell, hyk, hin, _⟩ := ho1'.rows.at hlt
        have hyl := Hd.i hin.length
        have hmem := Hd.i (List.mem_of_getElem? hyk.o)
        have hl := longC_len hp.o hmem.o
        have hn2 : n' ≤ 20 := by have := hyl.o; omega
        have hsm := Hd.i (longC_small hp.o hmem.o)
        have hxl := txt_len hsm.o
        have hz1 := S_size t
        have hz2 := S_size (txt ys)
        have hz3 : (S t ++ (⟨#[40]⟩ : ByteArray)).size = t.length + 1 := by rw [show (⟨#[40]⟩ : ByteArray) = S [40] from rfl, S_append, S_size]; simp
        have hz4 : (S t ++ (⟨#[40]⟩ : ByteArray) ++ S (txt ys)).size = t.length + 1 + (txt ys).length := by rw [show (⟨#[40]⟩ : ByteArray) = S [40] from rfl, S_append, S_append, S_size]; simp; omega
        have hxb : (txt ys).length ≤ 60 := by have := hyl.o; omega
        have hsz := hb.size
        clear hl hxl
        go_wp2_with (first | (go_at_call 35; refine formatInts_c _ _ _ ys _ hin hsm hn2 ?_; intro w2 hb2))
        refine ⟨⟨k + 1, t ++ piece ys, by omega, by go_num, ?_, ?_, below_ups hb hb2 hsz⟩, by simp [intOf]; omega⟩
        · rw [show (⟨#[40]⟩ : ByteArray) = S [40] from rfl, show (⟨#[41]⟩ : ByteArray) = S [41] from rfl, S_append, S_append, S_append]; simp [piece]
        · show _ = _
          rw [pieces_succ hyk.o, ht.o]
      · obtain rfl : k = m1 := by omega
        have et := Hd.i (show t = pieces (longC p) by rw [ht.o, List.take_of_length_le (by have := hml.o; omega)])
        have hbb := below_ups hbb1 hb hs0
        by_cases he : longC p = []
        · have hs : (S t).toList.isEmpty = true := by rw [S_toList, et.o, (pieces_empty hp.o).2 he]; rfl
          have ef := Hd.i (show pFmtC p = [40, 41] by rw [e.o]; unfold fmtC; rw [if_pos he])
          replace he := Hd.i he
          go_wp2
          have hf := H'.o _ hbb
          rw [ef.o] at hf
          exact hf
        · have hne : pieces (longC p) ≠ [] := fun e => he ((pieces_empty hp.o).1 e)
          have hs : (S t).toList.isEmpty = false := by rw [S_toList, et.o]; cases hq : pieces (longC p) with | nil => exact absurd hq hne | cons _ _ => rfl
          have ef := Hd.i (show pFmtC p = t by rw [e.o]; unfold fmtC; rw [if_neg he, et.o])
          clear hne he
          go_wp2
          have hf := H'.o _ hbb
          rw [ef.o] at hf
          exact hf
  · have e := Hd.i (show pFmtC p = [] by simp [pFmtC, hp])
    have hdec := Hd.i (decide_eq_false hp)
    go_enter Tryd.func17, Tryd.ntmps17
    go_wp2_with (first | (go_at_call 21; refine specIsPerm_c _ _ _ p _ h.ints h.cap ?_; intro w1 hd1; rw [hdec.o]; have hb1 := hd1.below w.heap.size))
    have hf := H'.o _ hb1
    rw [e.o] at hf
    exact hf
theorem topSpecFormatCycles {R : Ending → World → Prop} {B : Nat} (a : Option Addr) (n cap : Nat) (p : List Int) (w : World) (h : OwnI w B a n cap p) (H : Gives R w (.string (S (pFmtC p)))) :
    Calls Tryd.prog 17 #[.slice a n cap] w R := specFmtC_c _ _ _ _ _ h H
end Go.Proofs.YtkojonjcikgikaaDoor
