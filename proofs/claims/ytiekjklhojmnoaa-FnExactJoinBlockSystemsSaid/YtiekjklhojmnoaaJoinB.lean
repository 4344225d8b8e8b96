/- JoinBlockSystems. -/
import Derived.Test.YtiekjklhojmnoaaMinJ
import Derived.Test.YtiekjklhojmnoaaBlkJ
import Derived.Lib.AppendZeros
import Derived.Lib.Walk
import Derived.Lib.SliceRun
namespace Go.Proofs.Ytiekjklhojmnoaa
open Go.RowKit

/-- A new row of heads with room, nothing in it. -/
theorem Own.roomR (w : World) {B G : Nat} (cs : Array Value) (hB : B ≤ w.heap.size) (hm : G ≤ maxLen) (hcs : cs.size = G) : Own ((w.alloc (.cells cs 23)).drew) B 23 (some ⟨w.heap.size, 0, none⟩) 0 G [] :=
  ⟨rfl, by omega, by simp, .inr ⟨w.heap.size, G, cs, rfl, hB, heap_alloc_new w _, Nat.zero_le _, hm, by simpa using hcs, by simp⟩⟩
def MakesH (K : Ending → World → Prop) (w : World) (vs : List Value) : Prop := ∀ a n cap w', Below w.heap.size w w' → Own w' w.heap.size 23 a n cap vs → K (.returned (.slice a n cap)) w'
set_option maxRecDepth 100000 in
theorem growR_c {R : Ending → World → Prop} (n : Nat) (w : World) (hn : n ≤ 1000000) (H : MakesH R w []) :
    Calls Try.prog 109 #[.slice none 0 0, .int .i64 n] w R := by
  have H' := Hd.i H; clear H
  by_cases h0 : 0 < n
  · obtain ⟨i0, hi, hz0, hz1, hz2⟩ := info_parts infoSl
    have hr := Go.Lib.run_append_nil_zeros (P := Try.prog) w 22 3 22 23 i0 (.slice none 0 0) .i64 .i64 Try.underlying22 undI hi hz0 n h0 (by rw [hz1]; exact Nat.one_pos) (by omega) (by rw [hz2]; omega)
    have hG1 := grownCap_ge w n 0 23
    have hG2 := grownCap_le_maxLen w n 0 23 (by rw [maxLen_eq]; omega)
    obtain ⟨G, hG⟩ : ∃ G, G = grownCap w n 0 23 := ⟨_, rfl⟩
    rw [← hG] at hr hG1 hG2
    obtain ⟨cs, hcs, hsz⟩ : ∃ cs, cs = Builtin.zeroCells (Value.slice none 0 0).cells n ++ Builtin.zeroCells (Value.slice none 0 0).cells (G - n) ∧ Hd (cs.size = G) := ⟨_, rfl, by show _ = _; simp [Builtin.zeroCells, Value.cells]; omega⟩
    rw [← hcs] at hr
    have hG3 : G ≤ 9223372036854775807 := hG2
    clear hG hcs
    replace hG2 := Hd.i hG2
    go_enter Try.func109, Try.ntmps109
    go_wp2_with (at_builtin; refine Go.Lib.wpList_append_run _ rfl _ _ _ _ rfl _ _ rfl rfl _ _ hr ?_)
    exact H'.o _ _ _ _ (((Below.refl _ w).alloc (Nat.le_refl _) _).trans ((Drew.refl _).one.below _)) (Own.roomR w cs (Nat.le_refl _) hG2.o hsz.o)
  · obtain rfl : n = 0 := by omega
    go_enter Try.func109, Try.ntmps109
    go_wp2
    exact H'.o _ _ _ _ (Below.refl _ _) (Own.nil _ _ _)

theorem oneHvv {hs : List Hdr} : ∀ u ∈ hs.map hvv, u.oneCell' = true := by intro u hu; obtain ⟨h, _, rfl⟩ := List.mem_map.1 hu; rfl
set_option maxHeartbeats 2000000 in
/-- slices.Concat of two. -/
theorem concatR_c {R : Ending → World → Prop} (b : Nat) (a1 : Option Addr) (n1 c1 : Nat) (h1 : List Hdr) (a2 : Option Addr) (n2 c2 : Nat) (h2 : List Hdr) (w : World) (hc0 : w.cell? ⟨b, 0, none⟩ = some (.slice a1 n1 c1)) (hc1 : w.cell? ⟨b, 1, none⟩ = some (.slice a2 n2 c2))
    (hv1 : Vals w a1 n1 (h1.map hvv)) (hv2 : Vals w a2 n2 (h2.map hvv)) (hn1 : n1 ≤ 100000) (hn2 : n2 ≤ 100000) (H : MakesH R w (h1.map hvv ++ h2.map hvv)) :
    Calls Try.prog 85 #[.slice (some ⟨b, 0, none⟩) 2 2] w R := by
  have H' := Hd.i H; clear H
  go_enter Try.func85, Try.ntmps85
  go_wp2
  go_loop [3, 11] (fun s i => (i = .int .i64 0 ∧ s = .int .i64 0) ∨ (i = .int .i64 1 ∧ s = .int .i64 (n1 : Nat)) ∨ (i = .int .i64 2 ∧ s = .int .i64 ((n1 + n2 : Nat) : Int))) (fun _ i => 2 - (intOf i).toNat)
  case atStart => exact .inl ⟨rfl, rfl⟩
  case round =>
    rcases hrel with ⟨rfl, rfl⟩ | ⟨rfl, rfl⟩ | ⟨rfl, rfl⟩
    · have q : ¬ ((n1 : Int) < 0) := by omega
      go_wp2
      exact ⟨.inr (.inl ⟨rfl, by first | rfl | go_num⟩), by simp [intOf]⟩
    · have q : ¬ ((n1 : Int) + (n2 : Int) < 0) := by omega
      go_wp2
      exact ⟨.inr (.inr ⟨rfl, by first | rfl | go_num⟩), by simp [intOf]⟩
    · have hle : n1 + n2 ≤ 1000000 := by omega
      go_wp2_with (go_at_call 109; refine growR_c (n1 + n2) _ hle ?_; intro b3 m3 d3 w3 hb3 ho3)
      go_loopw [6, 27] (fun v i wr => ∃ (c : Option Addr) (m capc : Nat) (vs : List Value), v = .slice c m capc ∧ Own wr w.heap.size 23 c m capc vs ∧ Below w.heap.size w wr ∧ ((i = .int .i64 0 ∧ Hd (vs = [])) ∨ (i = .int .i64 1 ∧ Hd (vs = h1.map hvv)) ∨ (i = .int .i64 2 ∧ Hd (vs = h1.map hvv ++ h2.map hvv)))) (fun _ i _ => 2 - (intOf i).toNat)
      case atStart => exact ⟨_, _, _, _, rfl, ho3, hb3, .inl ⟨rfl, rfl⟩⟩
      case round =>
        clear ho3 hb3
        obtain ⟨c, m, capc, vs, rfl, ho, hb, hrel⟩ := hrel
        have hs := hb.size
        have hml := ho.length
        have hl1 := hv1.length
        have hl2 := hv2.length
        rcases hrel with ⟨rfl, hvs⟩ | ⟨rfl, hvs⟩ | ⟨rfl, hvs⟩
        · have f0 := keep1 hc0 hb
          have hsrc := hv1.up hb
          have hm0 : m = 0 := by rw [← hml, hvs.o]; rfl
          have k1 : (m + n1) * 24 ≤ 140737488355328 := by omega
          have k2 : m + n1 ≤ 281474976710656 := by omega
          replace hml := Hd.i hml
          replace hl1 := Hd.i hl1
          replace hl2 := Hd.i hl2
          replace hm0 := Hd.i hm0
          go_wp2_with (at_builtin; refine append_c rfl _ _ _ rfl w.heap.size 23 (.slice none 0 0) 24 Try.underlying22 infoSl rfl _ _ _ _ rfl ho _ _ _ (h1.map hvv) rfl hsrc oneHvv k1 k2 hs ?_; intro a3 n3 cap3 w4 hn3 ho3 hg3 ha3)
          exact ⟨⟨a3, n3, cap3, _, rfl, ho3, hb.trans (hg3.below hs fun b o s e => (ho.lt e).1), .inr (.inl ⟨rfl, by show _ = _; rw [hvs.o]; rfl⟩)⟩, by simp [intOf]⟩
        · have f0 := keep1 hc1 hb
          have hsrc := hv2.up hb
          have hm0 : m = n1 := by rw [← hml, hvs.o]; exact hl1
          have k1 : (m + n2) * 24 ≤ 140737488355328 := by omega
          have k2 : m + n2 ≤ 281474976710656 := by omega
          replace hml := Hd.i hml
          replace hl1 := Hd.i hl1
          replace hl2 := Hd.i hl2
          replace hm0 := Hd.i hm0
          go_wp2_with (at_builtin; refine append_c rfl _ _ _ rfl w.heap.size 23 (.slice none 0 0) 24 Try.underlying22 infoSl rfl _ _ _ _ rfl ho _ _ _ (h2.map hvv) rfl hsrc oneHvv k1 k2 hs ?_; intro a3 n3 cap3 w4 hn3 ho3 hg3 ha3)
          exact ⟨⟨a3, n3, cap3, _, rfl, ho3, hb.trans (hg3.below hs fun b o s e => (ho.lt e).1), .inr (.inr ⟨rfl, by show _ = _; rw [hvs.o]⟩)⟩, by simp [intOf]⟩
        · rw [hvs.o] at ho
          replace hml := Hd.i hml
          replace hl1 := Hd.i hl1
          replace hl2 := Hd.i hl2
          go_wp2
          exact H'.o _ _ _ _ hb ho

/-- Two lists of rows read behind one another. -/
theorem matJoin {w : World} {B : Nat} {c : Option Addr} {m capc : Nat} {h1 h2 : List Hdr} {xs ys : List (List Int)} (ho : Own w B 23 c m capc (h1.map hvv ++ h2.map hvv)) (l1 : h1.length = xs.length) (l2 : h2.length = ys.length)
    (r1 : ∀ (j : Nat) (h : Hdr) (x : List Int), h1[j]? = some h → xs[j]? = some x → Ints w h.1 h.2.1 x ∧ h.2.1 ≤ h.2.2) (r2 : ∀ (j : Nat) (h : Hdr) (x : List Int), h2[j]? = some h → ys[j]? = some x → Ints w h.1 h.2.1 x ∧ h.2.1 ≤ h.2.2) : Mat w c m (xs ++ ys) := by
  refine ⟨h1 ++ h2, by rw [List.map_append]; exact ho.vals, ?_, fun j h x e e' => ?_⟩
  · have := ho.length
    rw [List.length_append, List.length_map, List.length_map] at this
    rw [List.length_append]; omega
  · by_cases hj : j < h1.length
    · rw [List.getElem?_append_left hj] at e
      rw [List.getElem?_append_left (by omega)] at e'
      exact r1 j h x e e'
    · rw [List.getElem?_append_right (by omega)] at e
      rw [List.getElem?_append_right (by omega)] at e'
      rw [← l1] at e'
      exact r2 _ h x e e'

set_option maxHeartbeats 2000000 in
theorem specCopyLists_c {R : Ending → World → Prop} (a : Option Addr) (n cap : Nat) (xss : List (List Int)) (w : World) (hm : Mat w a n xss) (hn : n ≤ 100) (hrow : Hd (∀ x ∈ xss, x.length ≤ 1000)) (H : MakesR R w xss) : Calls Try.prog 79 #[.slice a n cap] w R := by
  have H' := Hd.i H; clear H
  have hl := Hd.i hm.length
  go_enter Try.func79, Try.ntmps79
  go_wp2
  go_loopw [3, 4] (fun v i wr => ∃ (k : Nat) (c : Option Addr) (m capc : Nat) (hs : List Hdr), k ≤ n ∧ i = .int .i64 k ∧ v = .slice c m capc ∧ OwnH wr w.heap.size c m capc hs (xss.take k) ∧ Below w.heap.size w wr) (fun _ i _ => n - (intOf i).toNat)
  case atStart => exact ⟨0, _, 0, 0, [], Nat.zero_le _, rfl, rfl, OwnH.emptyLit w (Nat.le_refl _), (Below.refl _ _).alloc (Nat.le_refl _) _⟩
  case round =>
    obtain ⟨k, c, m, capc, hs, hk, rfl, rfl, ho, hb⟩ := hrel
    by_cases hlt : k < n
    · obtain ⟨b, off, a1, n1, c1, p, rfl, hbb, hcell, hy, hin, _⟩ := (hm.up hb).at hlt
      have hp := hrow.o p (List.mem_of_getElem? hy.o)
      have hn1 : n1 ≤ 1000000 := by rw [← hin.length]; omega
      have hmk : m ≤ k := by have := ho.length; simp at this; omega
      have c1' : (m + 1) * 24 ≤ 140737488355328 := by omega
      have c2' : m + 1 ≤ 281474976710656 := by omega
      have hs0 := hb.size
      replace hp := Hd.i hp
      go_wp2_with fail
      refine copyInts_c _ _ _ p _ hin hn1 ?_
      intro b1 m1 d1 w1 hb1 ho1
      have hs1 : w.heap.size ≤ w1.heap.size := Nat.le_trans hs0 hb1.size
      have hown := (ho.1.up hb1)
      have hbw := below_ups hb hb1 hs0
      go_wp2_with (at_builtin; refine appendL_c rfl _ _ _ rfl w.heap.size 23 (.slice none 0 0) 24 Try.underlying22 infoSl rfl _ _ _ _ rfl hown [.slice (some ⟨b1, 0, none⟩) m1 d1] 1 rfl rfl oneSlice c1' c2' hs1 ?_; intro a2 n2 cap2 w2 hn2 ho2 hg2 ha2)
      refine ⟨⟨k + 1, a2, n2, cap2, hs ++ [(some ⟨b1, 0, none⟩, m1, d1)], by omega, by go_num, rfl, ?_, ho.grewBelow hg2 hbw hs1⟩, by simp [intOf]; omega⟩
      rw [take_succ_some hy.o]
      exact ho.snoc hb1 ho1 hs0 hg2 ho2 ha2.o
    · obtain rfl : k = n := by omega
      go_wp2
      rw [List.take_of_length_le (by have := hl.o; omega)] at ho
      exact H'.o _ _ _ _ _ hb ho

/-- Labels while the blocks of two partitions are joined: the first i blocks are done with. -/
structure LabJ (d : Nat) (bs : List (List Int)) (L : List Int) (i : Nat) : Prop where
  lab : Lab d L
  sub : SubE d L (Cg d [] (JoinS bs))
  to : ∀ (i' : Nat) (b : List Int), i' < i → bs[i']? = some b → ∀ x ∈ b, at0 L (at0 b 0) = at0 L x
def BsOk (d : Nat) (bs : List (List Int)) : Prop := ∀ b ∈ bs, b ≠ [] ∧ ∀ x ∈ b, 0 ≤ x ∧ x < (d : Int)
def JIn (L b : List Int) (k : Nat) : Prop := ∀ (j : Nat) (x : Int), j < k → b[j]? = some x → at0 L (at0 b 0) = at0 L x
section
variable {d : Nat} {bs : List (List Int)} {L : List Int} {i : Nat}
theorem LabJ.start : LabJ d bs (idl d) 0 := ⟨Lab.idl d, SubE.idl, fun i' b h => by omega⟩
theorem LabJ.row (h : LabJ d bs L i) {b : List Int} (hb : bs[i]? = some b) (hin : JIn L b b.length) : LabJ d bs L (i + 1) := ⟨h.lab, h.sub, fun i' c hi e x hx => by
  by_cases hii : i' = i
  · subst hii; rw [hb] at e; cases e
    obtain ⟨j, hj, ej⟩ := List.mem_iff_getElem.1 hx
    exact hin j x hj (by rw [List.getElem?_eq_getElem hj, ej])
  · exact h.to i' c (by omega) e x hx⟩
theorem LabJ.turn (hbs : BsOk d bs) (h : LabJ d bs L i) {b : List Int} (hb : bs[i]? = some b) {k : Nat} {x : Int} (hx : b[k]? = some x) (hin : JIn L b k) {lo hi : Int} (hlh : (lo = at0 L (at0 b 0) ∧ hi = at0 L x) ∨ (lo = at0 L x ∧ hi = at0 L (at0 b 0))) :
    LabJ d bs (mrg L lo hi) i ∧ JIn (mrg L lo hi) b (k + 1) := by
  have hbm := List.mem_of_getElem? hb
  have hxm := List.mem_of_getElem? hx
  have hr0 := (hbs b hbm).2 _ (head_mem (hbs b hbm).1)
  have hrx := (hbs b hbm).2 x hxm
  have hcg : Cg d [] (JoinS bs) (at0 b 0) x := .base ⟨b, hbm, rfl, hxm⟩
  have hlab : Lab d (mrg L lo hi) := by
    rcases hlh with ⟨rfl, rfl⟩ | ⟨rfl, rfl⟩
    · exact h.lab.mrg (h.lab.at hr0.1 hr0.2)
    · exact h.lab.mrg (h.lab.at hrx.1 hrx.2)
  have hsub : SubE d (mrg L lo hi) (Cg d [] (JoinS bs)) := by
    rcases hlh with ⟨rfl, rfl⟩ | ⟨rfl, rfl⟩
    · exact h.sub.mrg h.lab hr0 hrx hcg
    · exact h.sub.mrg h.lab hrx hr0 hcg.symm
  have hj : at0 (mrg L lo hi) (at0 b 0) = at0 (mrg L lo hi) x := by
    rcases hlh with ⟨rfl, rfl⟩ | ⟨rfl, rfl⟩
    · exact mrg_joins h.lab hr0 hrx
    · exact mrg_joins' h.lab hr0 hrx
  refine ⟨⟨hlab, hsub, fun i' c hi' e y hy => ?_⟩, fun j y hj' e => ?_⟩
  · have hcm := List.mem_of_getElem? e
    exact mrg_keeps h.lab ((hbs c hcm).2 _ (head_mem (hbs c hcm).1)) ((hbs c hcm).2 y hy) (h.to i' c hi' e y hy)
  · by_cases hjk : j = k
    · subst hjk; rw [hx] at e; cases e; exact hj
    · exact mrg_keeps h.lab hr0 ((hbs b hbm).2 y (List.mem_of_getElem? e)) (hin j y (by omega) e)
theorem LabJ.blks (hbs : BsOk d bs) (h : LabJ d bs L bs.length) : blks (KerL L) d d = pJoinB d bs :=
  blks_congr fun _ _ hi hj => ker_iff (gens := []) (by intro g hg; cases hg) (fun p q ⟨b, hb, e, hq⟩ => ⟨by rw [e]; exact (hbs b hb).2 _ (head_mem (hbs b hb).1), (hbs b hb).2 q hq⟩) h.sub
    (fun p q ⟨b, hb, e, hq⟩ => by
      obtain ⟨k, hk, ek⟩ := List.mem_iff_getElem.1 hb
      rw [e]
      exact h.to k b hk (by rw [List.getElem?_eq_getElem hk, ek]) q hq) (by intro g hg; cases hg) hi hj
end
theorem Part.bsOk {d : Nat} {bs : List (List Int)} (h : Part d bs) : BsOk d bs := fun b hb => ⟨h.ne b hb, (h.set b hb).2⟩
theorem BsOk.append {d : Nat} {xs ys : List (List Int)} (h : BsOk d xs) (k : BsOk d ys) : BsOk d (xs ++ ys) := fun b hb => (List.mem_append.1 hb).elim (h b) (k b)
theorem JIn.zero (L b : List Int) : JIn L b 0 := fun j x hj => by omega
theorem JIn.one {L b : List Int} {x : Int} (hx : b[0]? = some x) (he : at0 b 0 = x) : JIn L b 1 := fun j y hj e => by
  obtain rfl : j = 0 := by omega
  rw [hx] at e; cases e; rw [he]
def JoinOkB (z : Int) (xs ys : List (List Int)) : Prop := (1 ≤ z ∧ z ≤ 20) ∧ Part z.toNat xs ∧ Part z.toNat ys
open Classical in
noncomputable def pJoinS (z : Int) (xs ys : List (List Int)) : List (List Int) := if JoinOkB z xs ys then pJoinB z.toNat (xs ++ ys) else []
end Go.Proofs.Ytiekjklhojmnoaa
