/- Partitions of the points into blocks, in the order of their first points; the block of a point; what a permutation does to blocks; no program in sight. -/
import Derived.Test.YtkojonjcikgikaaPureStab
import Derived.Test.YtkojonjcikgikaaGen
namespace Go.Proofs.Ytkojonjcikgikaa

/-- The number of the first block that bears x. -/
def ixB (bs : List (List Int)) (x : Int) : Nat := bs.findIdx fun b => b.contains x
theorem ix_first {bs : List (List Int)} {i : Nat} {b : List Int} {x : Int} (hb : bs[i]? = some b) (hx : x ∈ b) (hno : x ∉ (bs.take i).flatten) : ixB bs x = i := by
  obtain ⟨hi, rfl⟩ := List.getElem?_eq_some_iff.1 hb
  unfold ixB
  rw [List.findIdx_eq hi]
  refine ⟨by simpa using hx, fun j hj => ?_⟩
  cases hc : (bs[j]'(Nat.lt_trans hj hi)).contains x with
  | false => rfl
  | true =>
    refine absurd (List.mem_flatten.2 ⟨bs[j]'(Nat.lt_trans hj hi), ?_, by simpa using hc⟩) hno
    rw [List.mem_take_iff_getElem]
    exact ⟨j, by omega, rfl⟩
/-- A partition of the points below d. -/
structure Part (d : Nat) (bs : List (List Int)) : Prop where
  ne : ∀ b ∈ bs, b ≠ []
  set : ∀ b ∈ bs, PtSet d b
  ord : ∀ (i : Nat) (b c : List Int), bs[i]? = some b → bs[i + 1]? = some c → at0 b 0 < at0 c 0
  nd : bs.flatten.Nodup
  len : bs.flatten.length = d
section
variable {d : Nat} {bs : List (List Int)}
theorem Part.mem (h : Part d bs) {x : Int} : x ∈ bs.flatten ↔ 0 ≤ x ∧ x < d := by
  have hr : ∀ x ∈ bs.flatten, 0 ≤ x ∧ x < (d : Int) := fun x hx => by
    obtain ⟨b, hb, hxb⟩ := List.mem_flatten.1 hx
    exact (h.set b hb).2 x hxb
  exact ⟨hr x, fun hx => (nodup_iff_surj h.len hr).1 h.nd x hx.1 hx.2⟩
theorem flatten_take_sub {bs : List (List Int)} {i : Nat} {x : Int} (h : x ∈ (bs.take i).flatten) : x ∈ bs.flatten := by
  obtain ⟨b, hb, hx⟩ := List.mem_flatten.1 h
  exact List.mem_flatten.2 ⟨b, List.mem_of_mem_take hb, hx⟩
theorem not_before {bs : List (List Int)} (hn : bs.flatten.Nodup) {i : Nat} {b : List Int} {x : Int} (hb : bs[i]? = some b) (hx : x ∈ b) : x ∉ (bs.take i).flatten := by
  intro hc
  obtain ⟨c, hcm, hxc⟩ := List.mem_flatten.1 hc
  rw [List.mem_take_iff_getElem] at hcm
  obtain ⟨j, hj, e⟩ := hcm
  obtain ⟨hi, e'⟩ := List.getElem?_eq_some_iff.1 hb
  have hp := (List.pairwise_flatten.1 hn).2
  have := List.pairwise_iff_getElem.1 hp j i (by omega) hi (by omega) x (by rw [e]; exact hxc) x (by rw [e']; exact hx)
  exact this rfl
theorem Part.ix (h : Part d bs) {i : Nat} {b : List Int} {x : Int} (hb : bs[i]? = some b) (hx : x ∈ b) : ixB bs x = i := ix_first hb hx (not_before h.nd hb hx)
theorem Part.blk (h : Part d bs) {x : Int} (h0 : 0 ≤ x) (hx : x < d) : ∃ b, bs[ixB bs x]? = some b ∧ x ∈ b := by
  obtain ⟨b, hb, hxb⟩ := List.mem_flatten.1 (h.mem.2 ⟨h0, hx⟩)
  obtain ⟨i, hi, e⟩ := List.mem_iff_getElem.1 hb
  have e2 : bs[i]? = some b := by rw [List.getElem?_eq_getElem hi, e]
  rw [h.ix e2 hxb]
  exact ⟨b, e2, hxb⟩
theorem Part.ix_lt (h : Part d bs) {x : Int} (h0 : 0 ≤ x) (hx : x < d) : ixB bs x < bs.length := by
  obtain ⟨b, hb, _⟩ := h.blk h0 hx
  exact (List.getElem?_eq_some_iff.1 hb).1
theorem head_mem {b : List Int} (h : b ≠ []) : at0 b 0 ∈ b := by
  cases b with
  | nil => exact absurd rfl h
  | cons a t => simp [at0]
theorem head_get {b : List Int} (h : b ≠ []) : b[0]? = some (at0 b 0) := by
  cases b with
  | nil => exact absurd rfl h
  | cons a t => simp [at0]
theorem Part.hd (h : Part d bs) {b : List Int} (hb : b ∈ bs) : 0 ≤ at0 b 0 ∧ at0 b 0 < d := (h.set b hb).2 _ (head_mem (h.ne b hb))
theorem flatten_len_ge : ∀ {bs : List (List Int)}, (∀ b ∈ bs, b ≠ []) → bs.length ≤ bs.flatten.length
  | [], _ => by simp
  | b :: t, h => by
    have h1 := flatten_len_ge (bs := t) fun c hc => h c (List.mem_cons_of_mem _ hc)
    have h2 : 0 < b.length := List.length_pos_iff.2 (h b List.mem_cons_self)
    simp only [List.flatten_cons, List.length_cons, List.length_append]
    omega
theorem Part.le (h : Part d bs) : bs.length ≤ d := by have := flatten_len_ge h.ne; rwa [h.len] at this
theorem Part.pos (h : Part d bs) (h1 : 1 ≤ d) : 1 ≤ bs.length := by
  have := h.ix_lt (x := 0) (by omega) (by omega)
  omega
/-- The points of one block go to one block. -/
def Resp (bs : List (List Int)) (g : List Int) : Prop := ∀ b ∈ bs, ∀ x ∈ b, ixB bs (at0 g x) = ixB bs (at0 g (at0 b 0))
/-- What a permutation makes of the blocks. -/
def act (bs : List (List Int)) (g : List Int) : List Int := bs.map fun b => (ixB bs (at0 g (at0 b 0)) : Int)
theorem act_length (bs : List (List Int)) (g : List Int) : (act bs g).length = bs.length := by simp [act]
theorem act_get {bs : List (List Int)} {g b : List Int} {i : Nat} (hb : bs[i]? = some b) : (act bs g)[i]? = some ((ixB bs (at0 g (at0 b 0)) : Nat) : Int) := by simp [act, hb]
theorem Part.act_range (h : Part d bs) {g : List Int} (hg : Pm d g) : ∀ x ∈ act bs g, 0 ≤ x ∧ x < (bs.length : Int) := by
  intro x hx
  obtain ⟨b, hb, rfl⟩ := List.mem_map.1 hx
  have hr := h.hd hb
  have hg' := hg.rng hr.1 hr.2
  have := h.ix_lt hg'.1 hg'.2
  omega
theorem Part.resp_iff (h : Part d bs) (h1 : 1 ≤ d) (h2 : d ≤ 20) {g : List Int} (hg : Pm d g) (hr : Resp bs g) : Resp bs (inv g) ↔ IsPerm (act bs g) := by
  have hcomp : ∀ {x : Int}, 0 ≤ x → x < d → ∀ {c : List Int}, bs[ixB bs (at0 (inv g) x)]? = some c → ixB bs (at0 g (at0 c 0)) = ixB bs x := by
    intro x h0 hx c hc
    have hi := hg.inv.rng h0 hx
    obtain ⟨c', hc', hm⟩ := h.blk hi.1 hi.2
    rw [hc] at hc'; cases hc'
    rw [← hr c (List.mem_of_getElem? hc) _ hm, hg.at_inv h0 hx]
  constructor
  · intro hi
    refine ⟨by rw [act_length]; exact h.pos h1, by rw [act_length]; have := h.le; omega, by rw [act_length]; exact h.act_range hg, ?_⟩
    unfold List.Nodup
    rw [List.pairwise_iff_getElem]
    intro i j hil hjl hij e
    rw [act_length] at hil hjl
    have ei : bs[i]? = some bs[i] := List.getElem?_eq_getElem hil
    have ej : bs[j]? = some bs[j] := List.getElem?_eq_getElem hjl
    simp only [act, List.getElem_map] at e
    have ri := h.hd (List.mem_of_getElem? ei)
    have rj := h.hd (List.mem_of_getElem? ej)
    have gi := hg.rng ri.1 ri.2
    have gj := hg.rng rj.1 rj.2
    obtain ⟨c, hc, hcm⟩ := h.blk gi.1 gi.2
    obtain ⟨c', hc', hcm'⟩ := h.blk gj.1 gj.2
    have e' : ixB bs (at0 g (at0 bs[i] 0)) = ixB bs (at0 g (at0 bs[j] 0)) := by omega
    rw [← e', hc] at hc'
    cases hc'
    have a := hi c (List.mem_of_getElem? hc) _ hcm
    have b := hi c (List.mem_of_getElem? hc) _ hcm'
    rw [hg.inv_at ri.1 ri.2] at a
    rw [hg.inv_at rj.1 rj.2] at b
    have k1 := h.ix ei (head_mem (h.ne _ (List.mem_of_getElem? ei)))
    have k2 := h.ix ej (head_mem (h.ne _ (List.mem_of_getElem? ej)))
    omega
  · intro hp b hb x hx
    have hxr := (h.set b hb).2 x hx
    have hbr := h.hd hb
    have i1 := hg.inv.rng hxr.1 hxr.2
    have i2 := hg.inv.rng hbr.1 hbr.2
    obtain ⟨c, hc, _⟩ := h.blk i1.1 i1.2
    obtain ⟨c', hc', _⟩ := h.blk i2.1 i2.2
    obtain ⟨m, hm, e⟩ := List.mem_iff_getElem.1 hb
    have eb : bs[m]? = some b := by rw [List.getElem?_eq_getElem hm, e]
    have a1 := hcomp hxr.1 hxr.2 hc
    have a2 := hcomp hbr.1 hbr.2 hc'
    rw [h.ix eb hx] at a1
    rw [h.ix eb (head_mem (h.ne b hb))] at a2
    have g1 := act_get (g := g) hc
    have g2 := act_get (g := g) hc'
    rw [a1] at g1
    rw [a2] at g2
    obtain ⟨l1, e1⟩ := List.getElem?_eq_some_iff.1 g1
    obtain ⟨l2, e2⟩ := List.getElem?_eq_some_iff.1 g2
    exact (List.getElem_inj hp.2.2.2).1 (e1.trans e2.symm)
end
/-- A block system. -/
def BlockSys (z : Int) (gens bs : List (List Int)) : Prop := GenSet z gens ∧ Part z.toNat bs ∧ ∀ g ∈ gens, Resp bs g ∧ Resp bs (inv g)
/-- A partition's tests so far: the first i blocks, of the next the first k points. -/
structure PartTo (d : Nat) (bs : List (List Int)) (i : Nat) : Prop where
  ne : ∀ b ∈ bs.take i, b ≠ []
  set : ∀ b ∈ bs.take i, PtSet d b
  ord : ∀ (j : Nat) (b c : List Int), j + 1 < i → bs[j]? = some b → bs[j + 1]? = some c → at0 b 0 < at0 c 0
  nd : (bs.take i).flatten.Nodup
theorem PartTo.zero (d : Nat) (bs : List (List Int)) : PartTo d bs 0 := ⟨by simp, by simp, fun j b c hj => by omega, by simp⟩
theorem PartTo.succ {d : Nat} {bs : List (List Int)} {i : Nat} {b : List Int} (h : PartTo d bs i) (hb : bs[i]? = some b) (hne : b ≠ []) (hs : PtSet d b) (ho : ∀ c, 0 < i → bs[i - 1]? = some c → at0 c 0 < at0 b 0) (hn : ((bs.take i).flatten ++ b).Nodup) : PartTo d bs (i + 1) := by
  have et := take_succ_some hb
  refine ⟨fun c hc => ?_, fun c hc => ?_, fun j c c' hj e e' => ?_, ?_⟩
  · rw [et] at hc
    rcases List.mem_append.1 hc with hc | hc
    · exact h.ne c hc
    · obtain rfl := List.mem_singleton.1 hc; exact hne
  · rw [et] at hc
    rcases List.mem_append.1 hc with hc | hc
    · exact h.set c hc
    · obtain rfl := List.mem_singleton.1 hc; exact hs
  · by_cases hji : j + 1 = i
    · rw [hji, hb] at e'; cases e'
      exact ho c (by omega) (by rw [show i - 1 = j by omega]; exact e)
    · exact h.ord j c c' (by omega) e e'
  · rw [et, List.flatten_append]; simpa using hn
theorem PartTo.full {d : Nat} {bs : List (List Int)} (h : PartTo d bs bs.length) (hl : bs.flatten.length = d) : Part d bs := by
  obtain ⟨a, b, c, e⟩ := h
  rw [List.take_length] at a b e
  exact ⟨a, b, fun i x y hx hy => c i x y ((List.getElem?_eq_some_iff.1 hy).1) hx hy, e, hl⟩
theorem Part.part_to {d : Nat} {bs : List (List Int)} (h : Part d bs) (i : Nat) : PartTo d bs i := by
  refine ⟨fun b hb => h.ne b (List.mem_of_mem_take hb), fun b hb => h.set b (List.mem_of_mem_take hb), fun j b c _ => h.ord j b c, ?_⟩
  have h1 := h.nd
  rw [← List.take_append_drop i bs, List.flatten_append] at h1
  exact (List.nodup_append.1 h1).1
/-- The points seen when the first i blocks and the first k points of the next have been passed. -/
def seenB (bs : List (List Int)) (i k : Nat) : List Int := (bs.take i).flatten ++ (bs.getD i []).take k
theorem seenB_zero (bs : List (List Int)) (i : Nat) : seenB bs i 0 = (bs.take i).flatten := by simp [seenB]
theorem seenB_succ {bs : List (List Int)} {i k : Nat} {b : List Int} {x : Int} (hb : bs[i]? = some b) (hx : b[k]? = some x) : seenB bs i (k + 1) = seenB bs i k ++ [x] := by
  unfold seenB
  rw [List.getD_eq_getElem?_getD, hb, Option.getD_some, take_succ_some hx, List.append_assoc]
theorem seenB_row {bs : List (List Int)} {i : Nat} {b : List Int} (hb : bs[i]? = some b) : seenB bs i b.length = (bs.take i).flatten ++ b := by
  unfold seenB
  rw [List.getD_eq_getElem?_getD, hb, Option.getD_some, List.take_length]
theorem seenB_next {bs : List (List Int)} {i : Nat} {b : List Int} (hb : bs[i]? = some b) : seenB bs i b.length = seenB bs (i + 1) 0 := by
  rw [seenB_row hb, seenB_zero, take_succ_some hb, List.flatten_append]; simp
theorem Part.seen_nd {d : Nat} {bs : List (List Int)} (h : Part d bs) {i : Nat} {b : List Int} (hb : bs[i]? = some b) (k : Nat) : (seenB bs i k).Nodup := by
  have h1 := (h.part_to (i + 1)).nd
  rw [take_succ_some hb, List.flatten_append] at h1
  unfold seenB
  rw [List.getD_eq_getElem?_getD, hb, Option.getD_some]
  refine List.Sublist.nodup ?_ h1
  simp only [List.flatten_cons, List.flatten_nil, List.append_nil]
  exact List.Sublist.append (List.Sublist.refl _) (List.take_sublist _ _)
/-- The row of the blocks' numbers, where the points in the list pre have theirs and the others v. -/
def clM (d : Nat) (bs : List (List Int)) (pre : List Int) (v : Int) : List Int := (idl d).map fun x => if x ∈ pre then (ixB bs x : Int) else v
theorem clM_length (d : Nat) (bs : List (List Int)) (pre : List Int) (v : Int) : (clM d bs pre v).length = d := by simp [clM, idl_length]
theorem clM_nil (d : Nat) (bs : List (List Int)) (v : Int) : clM d bs [] v = List.replicate d v := by
  unfold clM
  refine List.ext_getElem? fun i => ?_
  rw [List.getElem?_map, List.getElem?_replicate]
  by_cases hi : i < d
  · rw [idl_get hi, if_pos hi]; simp
  · rw [if_neg hi, List.getElem?_eq_none (by rw [idl_length]; omega)]; rfl
theorem clM_get {d : Nat} {bs : List (List Int)} {pre : List Int} {v : Int} {x : Int} (h0 : 0 ≤ x) (hx : x < d) : (clM d bs pre v)[x.toNat]? = some (if x ∈ pre then (ixB bs x : Int) else v) := by
  unfold clM
  rw [List.getElem?_map, idl_get (by omega), Option.map_some, show ((x.toNat : Nat) : Int) = x by omega]
theorem clM_set {d : Nat} {bs : List (List Int)} {pre : List Int} {v : Int} {x : Int} {i : Nat} (h0 : 0 ≤ x) (hx : x < d) (hi : ixB bs x = i) : (clM d bs pre v).set x.toNat (i : Int) = clM d bs (pre ++ [x]) v := by
  refine List.ext_getElem? fun j => ?_
  rw [List.getElem?_set, clM_length]
  by_cases hj : j < d
  · have e1 := clM_get (d := d) (bs := bs) (pre := pre) (v := v) (x := (j : Int)) (by omega) (by omega)
    have e2 := clM_get (d := d) (bs := bs) (pre := pre ++ [x]) (v := v) (x := (j : Int)) (by omega) (by omega)
    rw [Int.toNat_natCast] at e1 e2
    rw [e1, e2]
    by_cases hxj : x.toNat = j
    · have : (j : Int) = x := by omega
      rw [if_pos hxj, if_pos (by omega), if_pos (by simp [this]), this, hi]
    · have : ¬ (j : Int) = x := by omega
      rw [if_neg hxj]
      simp [this]
  · rw [if_neg (by omega), List.getElem?_eq_none (by rw [clM_length]; omega), List.getElem?_eq_none (by rw [clM_length]; omega)]
def cls (d : Nat) (bs : List (List Int)) : List Int := (idl d).map fun x => (ixB bs x : Int)
theorem clM_full {d : Nat} {bs : List (List Int)} {v : Int} (h : Part d bs) : clM d bs bs.flatten v = cls d bs := by
  unfold clM cls
  refine List.map_congr_left fun x hx => ?_
  rw [if_pos (h.mem.2 (mem_idl.1 hx))]
theorem cls_length (d : Nat) (bs : List (List Int)) : (cls d bs).length = d := by simp [cls, idl_length]
theorem cls_get {d : Nat} {bs : List (List Int)} {x : Int} (h0 : 0 ≤ x) (hx : x < d) : (cls d bs)[x.toNat]? = some (ixB bs x : Int) := by
  unfold cls
  rw [List.getElem?_map, idl_get (by omega), Option.map_some, show ((x.toNat : Nat) : Int) = x by omega]
end Go.Proofs.Ytkojonjcikgikaa
