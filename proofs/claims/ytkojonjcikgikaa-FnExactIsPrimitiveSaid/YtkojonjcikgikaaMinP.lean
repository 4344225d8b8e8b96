/- Minimal block systems: the program's partition: a map from labels to blocks. -/
import Derived.Test.YtkojonjcikgikaaMinS
import Derived.Test.YtkojonjcikgikaaSeen
import Derived.Maps.OwnSet
import Derived.Maps.Views
import Derived.Test.YtkojonjcikgikaaRegA
namespace Go.Proofs.Ytkojonjcikgikaa
open Go.RowKit Go.Maps

theorem undI : Try.prog.underlying 3 = some (.int .i64) := by kernel_rfl
theorem undK : Try.prog.underlying 2 = some (.int .i64) := by kernel_rfl
theorem undMap : Try.prog.underlying 92 = some (.map 2 3) := by kernel_rfl
theorem keyLaw : Keyed Try.prog 2 := int_keyed undK
theorem zeroInt (w : World) : (zeroValue 3).run Try.prog w = .ok (.int .i64 0) w := by kernel_rfl
theorem wf64 {x : Int} (h : -9223372036854775808 ≤ x ∧ x ≤ 9223372036854775807) : (Lit.int .i64 x).wf = true := by simp [Lit.wf, IntKind.min, IntKind.max, IntKind.signed, IntKind.bits]; omega
theorem key64 {x : Int} (h : -9223372036854775808 ≤ x ∧ x ≤ 9223372036854775807) : keyOf Try.prog 2 (.int .i64 x) = some (.int .i64 x) := keyOf_int_mk undK (wf64 h)
theorem ownsMap_heap {H : Type} {P : Program} {w w' : World} {k : TypeId} {R : Value → Option (DataW H × List MemPlace)} {b n : Nat} {D : DataW H} (h : w.ownsMap P k R b n D) (hb : w'.heap[b]? = w.heap[b]?) : w'.ownsMap P k R b n D := by
  obtain ⟨es, clock, h1, h2⟩ := h
  exact ⟨es, clock, hb.trans h1, h2⟩
theorem ownsMap_lt {H : Type} {P : Program} {w : World} {k : TypeId} {R : Value → Option (DataW H × List MemPlace)} {b n : Nat} {D : DataW H} (h : w.ownsMap P k R b n D) : b < w.heap.size := by
  obtain ⟨es, clock, h1, _⟩ := h
  exact (Array.getElem?_eq_some_iff.1 h1).1
theorem grew_map {w w' : World} {b : Nat} (h : w.grownBy w' (some b)) : Grew (some ⟨b, 0, none⟩) w w' :=
  ⟨h.os, h.tape, h.output, h.size, fun k hk hne => h.block k hk fun e => by cases e; exact hne 0 none rfl⟩

theorem mem_fstP {K : Int → Int → Prop} {k : Nat} {x : Int} : x ∈ fstP K k ↔ (0 ≤ x ∧ x < k) ∧ ∀ y : Int, 0 ≤ y → y < x → ¬ K y x := by
  unfold fstP
  rw [List.mem_filter, mem_idl]
  simp
theorem fst_unique {L : List Int} {k : Nat} {x y : Int} (hx : x ∈ fstP (KerL L) k) (hy : y ∈ fstP (KerL L) k) (e : at0 L x = at0 L y) : x = y := by
  obtain ⟨⟨x0, _⟩, h1⟩ := mem_fstP.1 hx
  obtain ⟨⟨y0, _⟩, h2⟩ := mem_fstP.1 hy
  by_cases hxy : x < y
  · exact absurd e (h2 x x0 hxy)
  · by_cases hyx : y < x
    · exact absurd e.symm (h1 y y0 hyx)
    · omega
theorem blks_get {K : Int → Int → Prop} {i k p : Nat} {x : Int} (h : (fstP K i)[p]? = some x) : (blks K i k)[p]? = some (blkP K k x) := by unfold blks; rw [List.getElem?_map, h]; rfl
theorem fstP_nodup (K : Int → Int → Prop) (k : Nat) : (fstP K k).Nodup := by unfold fstP; exact (idl_nodup k).filter _
/-- A point joins the block of its label. -/
theorem blks_join {L : List Int} {k p : Nat} {x : Int} (hp : (fstP (KerL L) (k + 1))[p]? = some x) (he : at0 L x = at0 L k) :
    blks (KerL L) (k + 1) (k + 1) = ((fstP (KerL L) (k + 1)).map (blkP (KerL L) k)).set p (blkP (KerL L) k x ++ [(k : Int)]) := by
  refine List.ext_getElem? fun j => ?_
  have hpl := (List.getElem?_eq_some_iff.1 hp).1
  unfold blks
  rw [List.getElem?_set, List.getElem?_map, List.getElem?_map, List.length_map]
  by_cases hjp : p = j
  · subst hjp
    rw [if_pos rfl, if_pos hpl, hp, Option.map_some, blkP_in (show KerL L x k from he)]
  · rw [if_neg hjp]
    cases hj : (fstP (KerL L) (k + 1))[j]? with
    | none => rfl
    | some y =>
      rw [Option.map_some, Option.map_some, blkP_out]
      intro hK
      have hK : at0 L y = at0 L k := hK
      have := fst_unique (List.mem_of_getElem? hj) (List.mem_of_getElem? hp) (hK.trans he.symm)
      subst this
      obtain ⟨h1, e1⟩ := List.getElem?_eq_some_iff.1 hj
      obtain ⟨h2, e2⟩ := List.getElem?_eq_some_iff.1 hp
      exact hjp ((List.getElem_inj (fstP_nodup _ _)).1 (e2.trans e1.symm))
/-- What the map says when the first k points have been passed. -/
structure MapOk (L : List Int) (k : Nat) (D : DataW Unit) : Prop where
  isMap : IsMap D
  has : ∀ v : Int, v ∈ L.take k → Maps.has D (.int .i64 v) = true ∧ ∃ (p : Nat) (x : Int), D.atKey (.int .i64 v) (.lit (.int .i64 0)) = .lit (.int .i64 p) ∧ (fstP (KerL L) k)[p]? = some x ∧ at0 L x = v
  no : ∀ v : Int, v ∉ L.take k → Maps.has D (.int .i64 v) = false
theorem MapOk.start (L : List Int) : MapOk L 0 (.map []) := ⟨isMap_empty, by simp, fun v _ => rfl⟩
theorem MapOk.old {L : List Int} {k : Nat} {D : DataW Unit} {v : Int} (h : MapOk L k D) (hk : L[k]? = some v) (hm : v ∈ L.take k) : MapOk L (k + 1) D := by
  have hf : fstP (KerL L) (k + 1) = fstP (KerL L) k := fstP_old ((kerL_mem hk).1 (by rw [List.contains_iff_mem]; exact hm))
  have ht : ∀ u, u ∈ L.take (k + 1) ↔ u ∈ L.take k := fun u => by
    rw [take_succ_some hk, List.mem_append, List.mem_singleton]
    exact ⟨fun h => h.elim id fun e => e ▸ hm, .inl⟩
  exact ⟨h.isMap, fun u hu => by rw [hf]; exact h.has u ((ht u).1 hu), fun u hu => h.no u fun h' => hu ((ht u).2 h')⟩
theorem keyLit (v : Int) : WideAt.IsKeyLit (.int .i64 v) := by constructor
theorem MapOk.new {L : List Int} {k m : Nat} {D : DataW Unit} {v : Int} (h : MapOk L k D) (hk : L[k]? = some v) (hm : v ∉ L.take k) (hl : (fstP (KerL L) k).length = m) : MapOk L (k + 1) (D.put (.int .i64 v) (.lit (.int .i64 m))) := by
  have hnew : ∀ y : Int, 0 ≤ y → y < (k : Int) → ¬ KerL L y k := fun y y0 hy hK => hm (by rw [← List.contains_iff_mem]; exact (kerL_mem hk).2 ⟨y, y0, hy, hK⟩)
  have hf := fstP_new hnew
  have hkv : at0 L k = v := by unfold at0; rw [Int.toNat_natCast, hk]; rfl
  have ht : ∀ u, u ∈ L.take (k + 1) ↔ u ∈ L.take k ∨ u = v := fun u => by rw [take_succ_some hk, List.mem_append, List.mem_singleton]
  refine ⟨h.isMap.put _ _, fun u hu => ?_, fun u hu => ?_⟩
  · by_cases huv : u = v
    · subst huv
      refine ⟨has_put_same h.isMap (keyLit _) _, m, (k : Int), atKey_put_same h.isMap (keyLit _) _ _, ?_, hkv⟩
      rw [hf, List.getElem?_append_right (by omega), hl, Nat.sub_self]; rfl
    · have hne : (Lit.int .i64 u) ≠ Lit.int .i64 v := fun e => huv (by cases e; rfl)
      obtain ⟨h1, p, x, h2, h3, h4⟩ := h.has u (((ht u).1 hu).resolve_right huv)
      refine ⟨by rw [has_put_other hne]; exact h1, p, x, by rw [atKey_put_other hne]; exact h2, ?_, h4⟩
      rw [hf, List.getElem?_append_left (List.getElem?_eq_some_iff.1 h3).1]; exact h3
  · have huv : u ≠ v := fun e => hu ((ht u).2 (.inr e))
    have hne : (Lit.int .i64 u) ≠ Lit.int .i64 v := fun e => huv (by cases e; rfl)
    rw [has_put_other hne]
    exact h.no u fun h' => hu ((ht u).2 (.inl h'))

theorem blks_oldrow {L : List Int} {k p : Nat} {v x : Int} (hk : L[k]? = some v) (hm : v ∈ L.take k) (hp : (fstP (KerL L) k)[p]? = some x) (hx : at0 L x = v) : blks (KerL L) (k + 1) (k + 1) = (blks (KerL L) k k).set p (blkP (KerL L) k x ++ [(k : Int)]) := by
  have hf : fstP (KerL L) (k + 1) = fstP (KerL L) k := fstP_old ((kerL_mem hk).1 (by rw [List.contains_iff_mem]; exact hm))
  have hkv : at0 L k = v := by unfold at0; rw [Int.toNat_natCast, hk]; rfl
  rw [blks_join (p := p) (x := x) (by rw [hf]; exact hp) (by rw [hx, hkv]), hf]
  rfl
theorem blks_newrow {L : List Int} {k m : Nat} {v : Int} (hk : L[k]? = some v) (hm : v ∉ L.take k) (hl : (fstP (KerL L) k).length = m) : blks (KerL L) (k + 1) (k + 1) = (blks (KerL L) k k ++ [[]]).set m [(k : Int)] := by
  have hnew : ∀ y : Int, 0 ≤ y → y < (k : Int) → ¬ KerL L y k := fun y y0 hy hK => hm (by rw [← List.contains_iff_mem]; exact (kerL_mem hk).2 ⟨y, y0, hy, hK⟩)
  have hf := fstP_new hnew
  have hbk := blkP_none (K := KerL L) (k := k) (x := (k : Int)) fun y y0 hy hK => hnew y y0 hy hK.symm
  rw [blks_join (p := m) (x := (k : Int)) (by rw [hf, List.getElem?_append_right (by omega), hl, Nat.sub_self]; rfl) rfl, hf, List.map_append, List.map_singleton, hbk]
  rfl
/-- A number is appended to one of the rows, its head stored. -/
theorem OwnH.put {w w2 : World} {B g n cap i : Nat} {hs : List Hdr} {xss : List (List Int)} (h : OwnH w B (some ⟨g, 0, none⟩) n cap hs xss) {hd : Hdr} {ys : List Int} (hi : hs[i]? = some hd) (hy : xss[i]? = some ys) {a2 : Option Addr} {n2 c2 j : Nat} {zs : List Int}
    (hg : Grew hd.1 w w2) (ho : OwnI w2 B a2 n2 c2 zs) (ha : a2 = hd.1 ∨ a2 = some ⟨w.heap.size + j, 0, none⟩) :
    OwnH (w2.setCell ⟨g, i, none⟩ (.slice a2 n2 c2)) B (some ⟨g, 0, none⟩) n cap (hs.set i (a2, n2, c2)) (xss.set i zs) := by
  have hil := (List.getElem?_eq_some_iff.1 hi).1
  have hdm := List.mem_of_getElem? hi
  have hga : Apart (some (⟨g, 0, none⟩ : Addr)) hd.1 := (h.2.off hd hdm).symm
  have ho1 := hg.own h.1 hga
  have hgl : g < w.heap.size := (h.1.lt rfl).2
  have hoff2 : Apart a2 (some (⟨g, 0, none⟩ : Addr)) := by
    rcases ha with rfl | rfl
    · exact h.2.off hd hdm
    · intro b o s o' s' e e'; cases e; cases e'; omega
  have hfar : ∀ (k : Nat) (x : Hdr), hs[k]? = some x → k ≠ i → Apart x.1 hd.1 := fun k x hx hk => by
    by_cases hlt : k < i
    · exact pair_lt h.2.two hlt hx hi
    · exact (pair_lt h.2.two (show i < k by omega) hi hx).symm
  have hfar2 : ∀ (k : Nat) (x : Hdr), hs[k]? = some x → k ≠ i → Apart x.1 a2 := fun k x hx hk => by
    rcases ha with rfl | rfl
    · exact hfar k x hx hk
    · intro b o s o' s' e e'
      obtain ⟨xs, hr⟩ := h.2.at (List.mem_of_getElem? hx)
      have := (hr.1.lt e).2
      cases e'; omega
  have hget : ∀ (k : Nat) (x : Hdr), (hs.set i (a2, n2, c2))[k]? = some x → (k = i ∧ x = (a2, n2, c2)) ∨ (k ≠ i ∧ hs[k]? = some x) := fun k x hx => by
    rw [List.getElem?_set] at hx
    by_cases hk : i = k
    · subst hk
      rw [if_pos rfl, if_pos hil] at hx
      exact .inl ⟨rfl, (Option.some.inj hx).symm⟩
    · rw [if_neg hk] at hx
      exact .inr ⟨fun e => hk e.symm, hx⟩
  refine ⟨?_, by rw [List.length_set, List.length_set]; exact h.2.len, fun k x xs hx hxs => ?_, fun x hx => ?_, ?_⟩
  · have := ho1.store (k := i) (.slice a2 n2 c2)
    rw [List.map_set]
    exact this
  · rcases hget k x hx with ⟨rfl, rfl⟩ | ⟨hk, hx⟩
    · rw [List.getElem?_set, if_pos rfl, if_pos (List.getElem?_eq_some_iff.1 hy).1] at hxs
      cases hxs
      exact ho.store_other _ _ hoff2.symm
    · rw [List.getElem?_set, if_neg (fun e => hk e.symm)] at hxs
      exact (hg.ownI (h.2.row k x xs hx hxs) (hfar k x hx hk)).store_other i _ (h.2.off x (List.mem_of_getElem? hx)).symm
  · obtain ⟨k, hk⟩ := List.getElem?_of_mem hx
    rcases hget k x hk with ⟨rfl, rfl⟩ | ⟨_, hk⟩
    · exact hoff2
    · exact h.2.off x (List.mem_of_getElem? hk)
  · rw [List.pairwise_iff_getElem]
    intro k l hk hl hkl
    have e1 := List.getElem?_eq_getElem hk
    have e2 := List.getElem?_eq_getElem hl
    rcases hget k _ e1 with ⟨h1, h2⟩ | ⟨h1, h2⟩
    · rcases hget l _ e2 with ⟨h3, _⟩ | ⟨h3, h4⟩
      · omega
      · rw [h2]; exact (hfar2 l _ h4 h3).symm
    · rcases hget l _ e2 with ⟨h3, h4⟩ | ⟨_, h4⟩
      · rw [h4]; exact hfar2 k _ h2 h1
      · exact pair_lt h.2.two hkl h2 h4

set_option maxRecDepth 100000 in
set_option maxHeartbeats 8000000 in
theorem implPartition_c {K : Ending → World → Prop} (al : Option Addr) (n cap : Nat) (L : List Int) (w : World) (hx : Ints w al n L) (hn : n ≤ 20) (H : MakesR K w (blks (KerL L) n n)) :
    Calls Try.prog 104 #[.slice al n cap] w K := by
  have H' := Hd.i H; clear H
  have hln := Hd.i hx.length
  have hmm := @run_makeMap Try.prog
  have hmap := World.ownsMap_made (H := Unit) w Try.prog 2 (plainElem Try.prog 3)
  obtain ⟨mb, hmb⟩ : ∃ mb, w.heap.size = mb := ⟨_, rfl⟩
  have hb0 := (Below.refl w.heap.size w).alloc (Nat.le_refl _) (.map #[] 0)
  go_enter Try.func104, Try.ntmps104
  go_wp2
  rw [hmb] at hmap
  replace hmb := Hd.i hmb
  go_loopw [3, 12] (fun v iv wr => ∃ (k : Nat) (c : Option Addr) (m capc : Nat) (hs : List Hdr) (D : DataW Unit), k ≤ n ∧ iv = .int .i64 k ∧ v = .slice c m capc ∧ OwnH wr w.heap.size c m capc hs (blks (KerL L) k k) ∧ Below w.heap.size w wr ∧ wr.ownsMap Try.prog 2 (plainElem Try.prog 3) mb k D ∧ Hd (MapOk L k D) ∧ Hd (Apart c (some ⟨mb, 0, none⟩)) ∧ Hd (∀ x ∈ hs, Apart x.1 (some ⟨mb, 0, none⟩))) (fun _ iv _ => n - (intOf iv).toNat)
  case atStart => exact ⟨0, none, 0, 0, [], _, Nat.zero_le _, rfl, rfl, OwnH.nil _ _, hb0, hmap, MapOk.start L, (fun b o s o' s' e => by cases e), (fun x hx => by cases hx)⟩
  case round =>
    clear hmap hb0 hmm
    obtain ⟨k, c, m, capc, hs, D, hk, rfl, rfl, ho, hb, hmap, hmo, hac, hax⟩ := hrel
    by_cases hlt : k < n
    · obtain ⟨b, off, v, rfl, hbb, hcell0, hv, hv1, hv2⟩ := hx.at hlt
      have hcell := keep1 hcell0 hb
      have hkey := key64 ⟨hv1, hv2⟩
      have hsz := hb.size
      have hml : m = (fstP (KerL L) k).length := by rw [← ho.length]; unfold blks; rw [List.length_map]
      have hmk : m ≤ k := by rw [hml]; exact fstP_le _ _
      have hmbl := ownsMap_lt hmap
      by_cases hmem : v ∈ L.take k
      · obtain ⟨hhas, p, x, hat0, hfp, hxv⟩ := hmo.o.has v hmem
        have hrow0 := blks_oldrow hv.o hmem hfp hxv
        have hmo2 := Hd.i (hmo.o.old hv.o hmem)
        have hpm : p < m := by rw [hml]; exact (List.getElem?_eq_some_iff.1 hfp).1
        obtain ⟨g, a5, n5, c5, ys, rfl, hgB, hgl, hcg, hhd, hys, hrow⟩ := ho.head hpm
        obtain rfl : ys = blkP (KerL L) k x := by have h := hys.o; rw [blks_get hfp] at h; cases h; rfl
        have hag : ¬ fpI a5 g := fun ⟨o, s, e⟩ => ho.2.off _ (List.mem_of_getElem? hhd.o) g o s 0 none e rfl
        have hfg : wr.frozen? ⟨g, p, none⟩ = false := by
          obtain ⟨v', h1, h2, _⟩ := ho.1.at' hpm
          exact h2
        have hn5 : n5 ≤ k := by rw [← hrow.length]; exact blkP_le _ _ _
        have ham := hax.o _ (List.mem_of_getElem? hhd.o)
        have k1 : (n5 + 1) * 8 ≤ 140737488355328 := by omega
        have k2 : n5 + 1 ≤ 281474976710656 := by omega
        have hgm : g ≠ mb := fun e => hac.o g 0 none 0 none rfl (by rw [e])
        replace hat0 := Hd.i hat0
        replace hml := Hd.i hml
        replace hrow0 := Hd.i hrow0
        replace hag := Hd.i hag
        replace ham := Hd.i ham
        replace hgm := Hd.i hgm
        replace hxv := Hd.i hxv
        replace hmem := Hd.i hmem
        replace hfp := Hd.i hfp
        go_wp2_with (first
          | (at_lookup; refine wpList_lookup_own_ok_int _ rfl _ _ 92 rfl 2 3 .i64 keyLaw undMap undI (zeroInt _) mb k D rfl hmap _ _ rfl hkey ?_; intro cc hat hwc; obtain rfl : cc = (p : Int) := (by rw [hat0.o] at hat; cases hat; rfl); clear hat hwc)
          | (at_builtin; refine appendL_c rfl _ _ _ rfl w.heap.size 2 (.int .i64 0) 8 Try.underlying22 infoInt rfl _ _ _ _ rfl hrow.1 [.int .i64 k] 1 rfl rfl oneInt k1 k2 hsz ?_; intro a2 n2 cap2 w2 hn2 ho2 hg2 ha2; have hcg2 := hg2.cell_far hcg hag.o; have hfg2 := (hg2.frozen_far (p := ⟨g, p, none⟩) hgl hag.o).trans hfg))
        have hoN := ho.put hhd.o hys.o hg2 (OwnI.snoc ho2 hrow.2 (x := (k : Int)) (by omega) (by omega)) (j := 1) ha2.o
        rw [← hrow0.o] at hoN
        have hb2 := hrow.grewBelow hg2 hb hsz
        have hmap2 : (w2.setCell ⟨g, p, none⟩ (.slice a2 n2 cap2)).ownsMap Try.prog 2 (plainElem (H := Unit) Try.prog 3) mb (k + 1) D := ownsMap_heap (hmap.mono (by omega)) ((heap_store w2 g p mb _ (fun e => hgm.o e.symm)).trans (hg2.block mb hmbl fun o s e => ham.o mb o s 0 none e rfl))
        have ha2m : Apart a2 (some (⟨mb, 0, none⟩ : Addr)) := by
          rcases ha2.o with rfl | rfl
          · exact ham.o
          · intro b o s o' s' e e'; cases e; cases e'; omega
        refine ⟨⟨k + 1, some ⟨g, 0, none⟩, m, capc, hs.set p (a2, n2, cap2), D, by omega, by go_num, rfl, hoN, hb2.setCell (p := ⟨g, p, none⟩) hgB _, hmap2, hmo2, hac, fun y hy => ?_⟩, by simp [intOf]; omega⟩
        rcases List.mem_or_eq_of_mem_set hy with hy | rfl
        · exact hax.o y hy
        · exact ha2m
      · have hhas := hmo.o.no v hmem
        have hrow0 := blks_newrow hv.o hmem hml.symm
        have hmo2 := Hd.i (hmo.o.new hv.o hmem hml.symm)
        have hwfm : (Lit.int .i64 (m : Int)).wf = true := wf64 (by omega)
        have hkm : k < maxLen := by rw [maxLen_eq]; omega
        have k1 : (m + 1) * 24 ≤ 140737488355328 := by omega
        have k2 : m + 1 ≤ 281474976710656 := by omega
        have k3 : (0 + 1) * 8 ≤ 140737488355328 := by omega
        have k4 : 0 + 1 ≤ 281474976710656 := by omega
        have hmd : m < m + 1 := by omega
        replace hml := Hd.i hml
        replace hrow0 := Hd.i hrow0
        replace hmem := Hd.i hmem
        go_wp2_with (first
          | (at_lookup; refine wpList_lookup_own_ok_int _ rfl _ _ 92 rfl 2 3 .i64 keyLaw undMap undI (zeroInt _) mb k D rfl hmap _ _ rfl hkey ?_; intro cc hat hwc; clear hat hwc)
          | (at_mapUpdate; refine wpList_mapUpdate_own _ rfl _ _ _ 92 rfl 2 3 keyLaw undMap (plainElem (H := Unit) Try.prog 3) mb k D rfl hmap hkm _ _ (.int .i64 v) rfl rfl hkey (.lit (.int .i64 m)) [] (plainElem_int undI hwfm) ?_; intro w1 hmap1 hgm1; have hgm := grew_map hgm1; have ho1 := ho.grew hgm hac.o hax.o; have hb1 := hb.trans (hgm.below hsz (fun b o s e => (by cases e; have := hmb.o; omega))); have hs1 := hb1.size; have hmbl1 := ownsMap_lt hmap1; clear hgm1)
          | (at_builtin; refine appendL_c rfl _ _ _ rfl w.heap.size 22 (.slice none 0 0) 24 Try.underlying36 infoSl rfl _ _ _ _ rfl ho1.1 [.slice none 0 0] 1 rfl rfl oneSlice k1 k2 hs1 ?_; intro a3 n3 cap3 w2 hn3 ho3 hg3 ha3; have hoP := ho1.push (x := (none, 0, 0)) (ys := []) (OwnI.nil _ _) (fun b o s o' s' e => (by cases e)) (fun y _ b o s o' s' e e' => (by cases e')) (j := 1) hg3 ho3 ha3.o; have hn3' := hn3.o; subst hn3'; obtain ⟨g, a5, n5, c5, ys, rfl, hgB, hgl, hcg, hhd, hys, hrowx⟩ := hoP.head (k := m) hmd; obtain ⟨rfl, rfl, rfl⟩ : a5 = none ∧ n5 = 0 ∧ c5 = 0 := (by have h := hhd.o; have hl := ho1.len; rw [List.getElem?_append_right (by omega), hl, Nat.sub_self] at h; simp at h; exact ⟨h.1.symm, h.2.1.symm, h.2.2.symm⟩); have hfg : w2.frozen? ⟨g, m, none⟩ = false := (by obtain ⟨_, _, h2, _⟩ := hoP.1.at' (k := m) hmd; exact h2); have hb2 := ho1.grewBelow hg3 hb1 hs1; have hs2 := hb2.size; have hni := OwnI.nil w2 w.heap.size; have hac3 : Hd (Apart (some (⟨g, 0, none⟩ : Addr)) (some ⟨mb, 0, none⟩)) := (Apart.grown hac.o.symm (fun b o s e => (by cases e; exact hmbl1)) ha3.o).symm; have hmap2 := ownsMap_heap hmap1 (hg3.block mb hmbl1 (fun o s e => hac.o mb o s 0 none e rfl)))
          | (at_builtin; refine appendL_c rfl _ _ _ rfl w.heap.size 2 (.int .i64 0) 8 Try.underlying22 infoInt rfl _ _ _ _ rfl hni.1 [.int .i64 k] 1 rfl rfl oneInt k3 k4 hs2 ?_; intro a4 n4 cap4 w3 hn4 ho4 hg4 ha4; have hcg2 := hg4.cell_far hcg (fun ⟨_, _, e⟩ => (by cases e)); have hfg2 := (hg4.frozen_far (p := ⟨g, m, none⟩) hgl (fun ⟨_, _, e⟩ => (by cases e))).trans hfg))
        have hysn : ys = [] := by
          have h := hys.o
          have hl := ho1.length
          rw [List.getElem?_append_right (by omega), hl, Nat.sub_self] at h
          simpa using h.symm
        subst hysn
        have ho4' : OwnI w3 w.heap.size a4 n4 cap4 ([] ++ [(k : Int)]) := OwnI.snoc (xs := []) ho4 (by simp) (by omega) (by omega)
        have hoN := hoP.put hhd.o hys.o hg4 ho4' (j := 1) ha4.o
        rw [List.nil_append, ← hrow0.o] at hoN
        have hb3 := hni.grewBelow hg4 hb2 hs2
        have hgm3 : g ≠ mb := fun e => hac3.o g 0 none 0 none rfl (by rw [e])
        have hmbl2 := ownsMap_lt hmap2
        have hmap3 : (w3.setCell ⟨g, m, none⟩ (.slice a4 n4 cap4)).ownsMap Try.prog 2 (plainElem (H := Unit) Try.prog 3) mb (k + 1) (D.put (.int .i64 v) (.lit (.int .i64 m))) := ownsMap_heap hmap2 ((heap_store w3 g m mb _ (fun e => hgm3 e.symm)).trans (hg4.block mb hmbl2 fun o s e => by cases e))
        refine ⟨⟨k + 1, some ⟨g, 0, none⟩, m + 1, cap3, _, _, by omega, by go_num, rfl, hoN, hb3.setCell (p := ⟨g, m, none⟩) hgB _, hmap3, hmo2, hac3, fun y hy => ?_⟩, by simp [intOf]; omega⟩
        rcases List.mem_or_eq_of_mem_set hy with hy | rfl
        · rcases List.mem_append.1 hy with hy | hy
          · exact hax.o y hy
          · obtain rfl := List.mem_singleton.1 hy; intro b o s o' s' e; cases e
        · rcases ha4.o with rfl | rfl
          · intro b o s o' s' e; cases e
          · intro b o s o' s' e e'; cases e; cases e'; omega
    · obtain rfl : k = n := by omega
      go_wp2
      exact H'.o _ _ _ _ _ hb ho
end Go.Proofs.Ytkojonjcikgikaa
