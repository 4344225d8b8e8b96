/- Texts of numbers: joinNumbers; formatInts, joinText. -/
import Derived.Test.YtkojonjcikgikaaDoorShelfF
import Derived.Test.YtkojonjcikgikaaDoorPureText
import Derived.Test.YtkojonjcikgikaaDoorPermTop
import Derived.Laws.IdiomStrings
namespace Go.Proofs.YtkojonjcikgikaaDoor
open Go.RowKit

theorem infoStr : (Tryd.prog.info? 9).map (fun i => (i.zero, i.size, i.bytes)) = some (some (.string ⟨#[]⟩), 1, 16) := by kernel_rfl
def strs (l : List (List UInt8)) : List Value := l.map fun x => .string (S x)

theorem decimal_c {R : Ending → World → Prop} (x : Int) (w : World) (h0 : 0 ≤ x) (h1 : x < 100) (H : R (.returned (.string (S (dig x)))) w) :
    Calls Tryd.prog 48 #[.int .i64 x] w R := by
  have H' := Hd.i H; clear H
  obtain ⟨i, rfl⟩ : ∃ i : Nat, x = i := ⟨x.toNat, by omega⟩
  have hc := Tryd.strconv_FormatInt_10_small i (by omega) w
  have hc' : Calls Tryd.prog 57 #[.int .i64 (i : Int), .int .i64 10] w fun e w' => e = .returned (.string (S (dig i))) ∧ w' = w := hc
  clear hc
  go_enter Tryd.func48, Tryd.ntmps48
  go_wp2_with (first | (go_at_call 57; refine hc'.mono ?_; rintro e w1 ⟨rfl, rfl⟩))
  exact H'.o

set_option maxHeartbeats 1000000 in
theorem joinNumbers_c {R : Ending → World → Prop} (a : Option Addr) (n cap : Nat) (xs : List Int) (w : World) (h : Ints w a n xs) (hs : Hd (Small100 xs)) (h1 : 1 ≤ n) (h2 : n ≤ 20) (H : Gives R w (.string (S (txt xs)))) :
    Calls Tryd.prog 36 #[.slice a n cap, .string ⟨#[32]⟩] w R := by
  have H' := Hd.i H; clear H
  have hln := Hd.i h.length
  obtain ⟨w1, hmk, hs1, hb1, how1⟩ := make_own w 33 9 (.string ⟨#[]⟩) 16 Tryd.underlying33 infoStr rfl n (by omega) (by omega)
  go_enter Tryd.func36, Tryd.ntmps36
  go_wp2
  go_loopw [13] (fun i wr => ∃ (k : Nat) (vs : List Value), k ≤ n ∧ i = .int .i64 k ∧ Own wr w.heap.size 9 (some ⟨w.heap.size, 0, none⟩) n n vs ∧ Hd (vs.take k = (strs (xs.map dig)).take k) ∧ Below w.heap.size w wr) (fun i _ => n - (intOf i).toNat)
  case atStart => exact ⟨0, _, Nat.zero_le _, rfl, how1, by simp [Hd], hb1⟩
  case round =>
    obtain ⟨k, vs, hk, rfl, ho, hvs, hb⟩ := hrel
    by_cases hlt : k < n
    · obtain ⟨b, off, x, rfl, hbl, hcell, hx, _, _⟩ := (h.up hb).at hlt
      have hxs := hs.o x (List.mem_of_getElem? hx.o)
      obtain ⟨hx0, hx1⟩ := hxs
      obtain ⟨v, hc2, hf2, _⟩ := ho.at' (k := k) hlt
      have hst := ho.store (k := k) (.string (S (dig x)))
      have hb' := hb.setCell (p := ⟨w.heap.size, k, none⟩) (Nat.le_refl _) (.string (S (dig x)))
      go_wp2_with (first | (go_at_call 48; refine decimal_c x _ hx0 hx1 ?_))
      refine ⟨⟨k + 1, vs.set k (.string (S (dig x))), by omega, by go_num, hst, ?_, hb'⟩, by simp [intOf]; omega⟩
      have hkl : k < vs.length := by have := ho.1; omega
      have e2 : (strs (xs.map dig))[k]? = some (.string (S (dig x))) := by simp [strs, hx.o]
      show _ = _
      rw [take_succ_some e2, ← hvs.o, take_succ_some (x := .string (S (dig x))) (by simp [hkl]), List.take_set_of_le (Nat.le_refl _)]
    · obtain rfl : k = n := by omega
      have e1 : vs = strs (xs.map dig) := by
        have h1 := hvs.o
        rw [List.take_of_length_le (by have := ho.1; omega), List.take_of_length_le (by simp [strs]; have := hln.o; omega)] at h1
        exact h1
      subst e1
      have hv := ho.vals
      have hbl : w.heap.size < wr.heap.size := (ho.lt rfl).2
      have hj := Tryd.strings_Join w.heap.size 0 k ((xs.map dig).map S) ⟨#[32]⟩ wr (fun j y hy => by
        obtain ⟨_, h2, h3⟩ := hv
        rcases h3 with h3 | ⟨b, off, e, hc⟩
        · omega
        · cases e
          refine hc j _ ?_
          rw [List.getElem?_map, Option.map_eq_some_iff] at hy
          obtain ⟨z, hz, rfl⟩ := hy
          rw [strs, List.getElem?_map, hz]; rfl) hbl (by simp; have := hln.o; omega) (by simp; have := hln.o; omega) (by
        have e3 : ((xs.map dig).map S).map (fun x => x.data.toList) = xs.map dig := by rw [List.map_map]; exact List.map_id' _ |>.symm ▸ rfl
        rw [e3]
        have := txt_len hs.o
        unfold txt at this
        have := hln.o
        show (Lib.join (xs.map dig) [32]).length ≤ _
        omega)
      have hlen : ((xs.map dig).map S).length = k := by simp; exact hln.o
      have e3 : ((xs.map dig).map S).map (fun x => x.data.toList) = xs.map dig := by rw [List.map_map]; exact List.map_id' _ |>.symm ▸ rfl
      have hj' : Calls Tryd.prog 49 #[.slice (some ⟨w.heap.size, 0, none⟩) k k, .string ⟨#[32]⟩] wr fun e w' => e = .returned (.string (S (txt xs))) ∧ Below wr.heap.size wr w' := by
        rw [hlen, e3] at hj
        exact hj
      clear hj e3 hlen hv hvs
      replace hbl := Hd.i hbl
      go_wp2_with (first | (go_at_call 49; refine hj'.mono ?_; rintro e w5 ⟨rfl, hb5⟩))
      exact H'.o _ (below_ups hb hb5 hb.size)

theorem topImplFormatImages {R : Ending → World → Prop} {B : Nat} (a : Option Addr) (n cap : Nat) (p : List Int) (w : World) (h : OwnI w B a n cap p) (H : Gives R w (.string (S (pFmtI p)))) :
    Calls Tryd.prog 16 #[.slice a n cap] w R := by
  have H' := Hd.i H; clear H
  by_cases hp : IsPerm p
  · have e := Hd.i (show pFmtI p = txt p by simp [pFmtI, hp])
    have hdec := Hd.i (decide_eq_true hp)
    have hn1 : 1 ≤ n := by have := hp.1; have := h.length; omega
    have hn2 : n ≤ 20 := by have := hp.2.1; have := h.length; omega
    have hs := Hd.i hp.small
    go_enter Tryd.func16, Tryd.ntmps16
    go_wp2_with (first | (go_at_call 24; refine implIsPerm_c _ _ _ p _ h.ints ?_; rw [hdec.o]) | (go_at_call 36; refine joinNumbers_c _ _ _ p _ h.ints hs hn1 hn2 ?_; intro w2 hb2))
    rw [← e.o]
    exact H'.o _ hb2
  · have e := Hd.i (show pFmtI p = [] by simp [pFmtI, hp])
    have hdec := Hd.i (decide_eq_false hp)
    go_enter Tryd.func16, Tryd.ntmps16
    go_wp2_with (first | (go_at_call 24; refine implIsPerm_c _ _ _ p _ h.ints ?_; rw [hdec.o]))
    have hf := H'.o _ (Below.refl _ _)
    rw [e.o] at hf
    exact hf

set_option maxHeartbeats 1000000 in
theorem joinText_c {R : Ending → World → Prop} (a : Option Addr) (n cap : Nat) (l : List (List UInt8)) (w : World) (h : Vals w a n (strs l)) (hl : Hd (∀ x ∈ l, x.length ≤ 2)) (hn : n ≤ 20) (H : R (.returned (.string (S (Lib.join l [32])))) w) :
    Calls Tryd.prog 47 #[.slice a n cap, .string ⟨#[32]⟩] w R := by
  have H' := Hd.i H; clear H
  have hln := Hd.i (show l.length = n by have := h.length; simpa [strs] using this)
  go_enter Tryd.func47, Tryd.ntmps47
  go_wp2
  go_loop [5, 6] (fun sv i => ∃ (k : Nat) (t : List UInt8), k ≤ n ∧ i = .int .i64 k ∧ sv = .string (S t) ∧ Hd (t = Lib.join (l.take k) [32])) (fun _ i => n - (intOf i).toNat)
  case atStart => exact ⟨0, [], Nat.zero_le _, rfl, rfl, by simp [Hd, Lib.join_nil]⟩
  case round =>
    obtain ⟨k, t, hk, rfl, rfl, ht⟩ := hrel
    have htl : t.length ≤ 60 := by
      rw [ht.o]
      have := join_len (l.take k) [32] 2 rfl fun x hx => hl.o x (List.mem_of_mem_take hx)
      rw [List.length_take] at this
      omega
    by_cases hlt : k < n
    · obtain ⟨b, off, v, rfl, hbl, hcell, hv⟩ := h.at hlt
      have hv' := hv.o
      rw [strs, List.getElem?_map, Option.map_eq_some_iff] at hv'
      obtain ⟨x, hx, rfl⟩ := hv'
      have hxl := hl.o x (List.mem_of_getElem? hx)
      replace hx := Hd.i hx
      have hz1 := S_size t
      have hz2 := S_size x
      clear hv
      by_cases h0 : k = 0
      · subst h0
        have et := Hd.i (show t = [] by rw [ht.o]; simp [Lib.join_nil])
        have ej := Hd.i (join_take0 (sep := [32]) hx.o)
        rw [Nat.add_zero] at hcell
        go_wp2
        go_round
        case rel =>
          refine ⟨1, x, by omega, rfl, ?_, ej.o.symm⟩
          rw [et.o, S_append, List.nil_append]
        case measure => simp [intOf]; omega
      · have ej := Hd.i (join_take (sep := [32]) hx.o (by omega))
        have hk0 : 0 < k := by omega
        clear h0
        have hz3 : (S t ++ (⟨#[32]⟩ : ByteArray)).size = t.length + 1 := by rw [show (⟨#[32]⟩ : ByteArray) = S [32] from rfl, S_append, S_size]; simp
        go_wp2
        go_round
        case rel =>
          refine ⟨k + 1, t ++ [32] ++ x, by omega, by go_num, ?_, ?_⟩
          · rw [show (⟨#[32]⟩ : ByteArray) = S [32] from rfl, S_append, S_append]
          · show _ = _
            rw [ej.o, ← ht.o]
        case measure => simp [intOf]; omega
    · obtain rfl : k = n := by omega
      go_wp2
      rw [show t = Lib.join l [32] by rw [ht.o, List.take_of_length_le (by have := hln.o; omega)]]
      exact H'.o
end Go.Proofs.YtkojonjcikgikaaDoor
