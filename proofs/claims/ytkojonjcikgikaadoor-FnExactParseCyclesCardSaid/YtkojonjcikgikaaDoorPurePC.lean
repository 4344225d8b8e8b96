/- ParseCycles: what it answers; no walk in this text. -/
import Derived.Test.YtkojonjcikgikaaDoorTextC
import Derived.Test.YtkojonjcikgikaaDoorPureNum
import Derived.Test.YtkojonjcikgikaaDoorParseI
namespace Go.Proofs.YtkojonjcikgikaaDoor
open Go

/-- The first k assignments of the cycle c. -/
def putTo (p c : List Int) : Nat → List Int
  | 0 => p
  | k + 1 => (putTo p c k).set (at0 c (k : Int)).toNat (at0 c (((k + 1) % c.length : Nat) : Int))
def putC (p c : List Int) : List Int := putTo p c c.length
theorem putTo_length (p c : List Int) : ∀ k, (putTo p c k).length = p.length
  | 0 => rfl
  | k + 1 => by rw [putTo, List.length_set, putTo_length p c k]
theorem putC_length (p c : List Int) : (putC p c).length = p.length := putTo_length _ _ _
def InR (n : Nat) (c : List Int) : Prop := ∀ x ∈ c, 0 ≤ x ∧ x < n
theorem at0_mem {c : List Int} {k : Nat} (h : k < c.length) : at0 c (k : Int) ∈ c := by
  unfold at0
  rw [Int.toNat_natCast, List.getElem?_eq_getElem h]
  exact List.getElem_mem h
theorem putTo_range {n : Nat} {p c : List Int} (hp : InR n p) (hc : InR n c) : ∀ k, k ≤ c.length → InR n (putTo p c k)
  | 0, _ => hp
  | k + 1, hk => by
    intro x hx
    rw [putTo] at hx
    rcases List.mem_or_eq_of_mem_set hx with h | h
    · exact putTo_range hp hc k (by omega) x h
    · rw [h]; exact hc _ (at0_mem (Nat.mod_lt _ (by omega)))
theorem putC_range {n : Nat} {p c : List Int} (hp : InR n p) (hc : InR n c) : InR n (putC p c) := putTo_range hp hc _ (Nat.le_refl _)
theorem inR_idl (n : Nat) : InR n (idl n) := fun _ hx => mem_idl.1 hx

theorem at0_set (p : List Int) (i : Nat) (v y : Int) (hi : i < p.length) : at0 (p.set i v) y = if y.toNat = i then v else at0 p y := by
  unfold at0
  rw [List.getElem?_set]
  by_cases h : i = y.toNat
  · rw [if_pos h, if_pos hi, if_pos h.symm]; rfl
  · rw [if_neg h, if_neg (fun e => h e.symm)]
theorem idl_at {n : Nat} {y : Int} (h : 0 ≤ y ∧ y < n) : at0 (idl n) y = y := by
  unfold at0
  rw [idl_get (by omega)]
  simp; omega

/-- c is a cycle of q: each entry's successor is its image. -/
def CycOf (q c : List Int) : Prop := ∀ k, k < c.length → at0 c (((k + 1) % c.length : Nat) : Int) = at0 q (at0 c (k : Int))
theorem cyc_at {q : List Int} {x : Int} {k : Nat} (h : k < per q x) : at0 (cyc q x) (k : Int) = it q k x := by
  unfold at0
  rw [Int.toNat_natCast, cyc_eq, run_get h]; rfl
theorem cycOf_cyc {q : List Int} (hq : IsPerm q) {x : Int} (hx : 0 ≤ x ∧ x < q.length) : CycOf q (cyc q x) := by
  intro k hk
  rw [cyc_length] at hk ⊢
  rw [cyc_at hk, ← it_succ]
  by_cases h : k + 1 < per q x
  · rw [Nat.mod_eq_of_lt h, cyc_at h]
  · have e : k + 1 = per q x := by omega
    have h1 := (per_spec hq hx)
    rw [e, Nat.mod_self, cyc_at (by omega), h1.2.2.1]; rfl
/-- What is set so far: S are the points whose image stands. -/
def Mid (q p : List Int) (S : Int → Prop) : Prop := p.length = q.length ∧ ∀ y : Int, 0 ≤ y → y < q.length → at0 p y = at0 q y ∨ (at0 p y = y ∧ ¬ S y)
theorem Mid.putTo {q p c : List Int} {S : Int → Prop} (h : Mid q p S) (hc : CycOf q c) (hr : InR q.length c) : ∀ k, k ≤ c.length → Mid q (putTo p c k) (fun y => S y ∨ y ∈ c.take k)
  | 0, _ => ⟨h.1, fun y h0 h1 => (h.2 y h0 h1).imp id fun e => ⟨e.1, by simpa using e.2⟩⟩
  | k + 1, hk => by
    have ih := Mid.putTo h hc hr k (by omega)
    have hm : at0 c (k : Int) ∈ c := at0_mem (by omega)
    have hck := hr _ hm
    refine ⟨by rw [putTo_length]; exact h.1, fun y h0 h1 => ?_⟩
    rw [Proofs.YtkojonjcikgikaaDoor.putTo, at0_set _ _ _ _ (by rw [putTo_length, h.1]; omega)]
    by_cases hy : y.toNat = (at0 c (k : Int)).toNat
    · left
      rw [if_pos hy, hc k (by omega)]
      congr 1
      omega
    · rw [if_neg hy]
      rcases ih.2 y h0 h1 with e | ⟨e, e'⟩
      · exact .inl e
      · refine .inr ⟨e, ?_⟩
        have et : c.take (k + 1) = c.take k ++ [at0 c (k : Int)] := by
          refine take_succ_some ?_
          unfold at0
          rw [Int.toNat_natCast, List.getElem?_eq_getElem (by omega)]; rfl
        rintro (hs | hs)
        · exact e' (.inl hs)
        · rw [et, List.mem_append, List.mem_singleton] at hs
          rcases hs with hs | hs
          · exact e' (.inr hs)
          · exact hy (by rw [hs])
theorem Mid.putC {q p c : List Int} {S : Int → Prop} (h : Mid q p S) (hc : CycOf q c) (hr : InR q.length c) : Mid q (putC p c) (fun y => S y ∨ y ∈ c) := by
  have := h.putTo hc hr c.length (Nat.le_refl _)
  rw [List.take_length] at this
  exact this
theorem Mid.fold {q : List Int} : ∀ {L : List (List Int)} {p : List Int} {S : Int → Prop}, Mid q p S → (∀ c ∈ L, CycOf q c ∧ InR q.length c) → Mid q (L.foldl Proofs.YtkojonjcikgikaaDoor.putC p) (fun y => S y ∨ ∃ c ∈ L, y ∈ c)
  | [], p, S, h, _ => ⟨h.1, fun y h0 h1 => (h.2 y h0 h1).imp id fun e => ⟨e.1, by simpa using e.2⟩⟩
  | c :: L, p, S, h, hL => by
    have h1 := h.putC (hL c List.mem_cons_self).1 (hL c List.mem_cons_self).2
    have h2 := Mid.fold h1 fun d hd => hL d (List.mem_cons_of_mem _ hd)
    refine ⟨h2.1, fun y a b => (h2.2 y a b).imp id fun e => ⟨e.1, fun hs => e.2 ?_⟩⟩
    rcases hs with hs | ⟨d, hd, hy⟩
    · exact .inl (.inl hs)
    · rcases List.mem_cons.1 hd with rfl | hd
      · exact .inl (.inr hy)
      · exact .inr ⟨d, hd, hy⟩
theorem longC_cyc {q : List Int} (hq : IsPerm q) : ∀ c ∈ longC q, CycOf q c ∧ InR q.length c := by
  intro c hc
  obtain ⟨x, h0, h1, _, _, rfl⟩ := mem_longC.1 hc
  exact ⟨cycOf_cyc hq ⟨h0, h1⟩, fun y hy => mem_cyc_range hq ⟨h0, h1⟩ hy⟩
theorem fixed_of {q : List Int} (hq : IsPerm q) {y : Int} (hy : 0 ≤ y ∧ y < q.length) (h : ¬ ∃ c ∈ longC q, y ∈ c) : at0 q y = y := by
  have hp := per_spec hq hy
  by_cases h1 : 1 < per q y
  · exfalso
    obtain ⟨z, hz, hl⟩ := has_lead hq hy
    have hzr := mem_cyc_range hq hy hz
    have hpz := per_same hq hy hz
    exact h ⟨cyc q z, mem_longC.2 ⟨z, hzr.1, hzr.2, hl, by omega, rfl⟩, mem_cyc_symm hq hy hz⟩
  · have e : per q y = 1 := by omega
    have := hp.2.2.1
    rw [e] at this
    exact this
theorem ext_at0 {p q : List Int} (hl : p.length = q.length) (h : ∀ y : Int, 0 ≤ y → y < q.length → at0 p y = at0 q y) : p = q := by
  refine List.ext_getElem hl fun i h1 h2 => ?_
  have := h (i : Int) (by omega) (by omega)
  unfold at0 at this
  rw [Int.toNat_natCast, List.getElem?_eq_getElem h1, List.getElem?_eq_getElem h2] at this
  exact this
theorem longC_back {q : List Int} (hq : IsPerm q) : (longC q).foldl putC (idl q.length) = q := by
  have h0 : Mid q (idl q.length) (fun _ => False) := ⟨idl_length _, fun y a b => .inr ⟨idl_at ⟨a, b⟩, fun h => h⟩⟩
  have h := h0.fold (longC_cyc hq)
  refine ext_at0 h.1 fun y a b => ?_
  rcases h.2 y a b with e | ⟨e, e'⟩
  · exact e
  · rw [e, fixed_of hq ⟨a, b⟩ fun hx => e' (.inr hx)]

theorem mem_join {x : UInt8} {sep : List UInt8} : ∀ {l : List (List UInt8)}, x ∈ Lib.join l sep → (∃ w ∈ l, x ∈ w) ∨ x ∈ sep
  | [], h => by rw [Lib.join_nil] at h; cases h
  | y :: t, h => by
    rw [Lib.join_cons, List.mem_append] at h
    rcases h with h | h
    · exact .inl ⟨y, List.mem_cons_self, h⟩
    · unfold Lib.joinTail at h
      rw [List.mem_flatten] at h
      obtain ⟨u, hu, hx⟩ := h
      rw [List.mem_map] at hu
      obtain ⟨v, hv, rfl⟩ := hu
      rw [List.mem_append] at hx
      rcases hx with hx | hx
      · exact .inr hx
      · exact .inl ⟨v, List.mem_cons_of_mem _ hv, hx⟩
theorem dig_free {b : UInt8} (hb : ¬ isDig b) {x : Int} (h : 0 ≤ x ∧ x < 100) : b ∉ dig x := fun hm => hb ((num_dig h.1 h.2).1.2.2 b hm)
theorem not_dig32 : ¬ isDig 32 := by decide
theorem not_dig41 : ¬ isDig 41 := by decide
theorem txt_free {xs : List Int} (h : Small100 xs) : (41 : UInt8) ∉ txt xs := by
  intro hm
  rcases mem_join hm with ⟨w, hw, hx⟩ | hx
  · rw [List.mem_map] at hw
    obtain ⟨x, hx', rfl⟩ := hw
    exact dig_free not_dig41 (h x hx') hx
  · revert hx; decide
theorem wsplit_txt {xs : List Int} (h : Small100 xs) (hne : xs ≠ []) : wsplit 32 (txt xs) = xs.map dig :=
  wsplit_join (by simpa using hne) fun w hw => by
    rw [List.mem_map] at hw
    obtain ⟨x, hx, rfl⟩ := hw
    exact dig_free not_dig32 (h x hx)
theorem join_two (w v : List UInt8) (t : List (List UInt8)) (sep : List UInt8) : Lib.join (w :: v :: t) sep = w ++ sep ++ Lib.join (v :: t) sep := by
  rw [Lib.join_cons, Lib.join_cons]; simp [Lib.joinTail]
theorem pieces_join : ∀ (L : List (List Int)), L ≠ [] → pieces L = 40 :: (Lib.join (L.map txt) [41, 40] ++ [41])
  | [], h => absurd rfl h
  | [c], _ => by simp [pieces, piece, Lib.join_one]
  | c :: d :: t, _ => by
    have ih := pieces_join (d :: t) (by simp)
    have e : pieces (c :: d :: t) = piece c ++ pieces (d :: t) := by simp [pieces]
    have e3 : Lib.join ((c :: d :: t).map txt) [41, 40] = txt c ++ [41, 40] ++ Lib.join ((d :: t).map txt) [41, 40] := join_two (txt c) (txt d) (t.map txt) [41, 40]
    rw [e, ih, e3]
    simp [piece]
theorem index2_hit : ∀ {a b : List UInt8}, (41 : UInt8) ∉ a → Lib.index (a ++ 41 :: 40 :: b) [41, 40] = (a.length : Int)
  | [], b, _ => by simp [Lib.index]
  | x :: t, b, h => by
    have h1 : (41 : UInt8) ≠ x := fun e => h (e ▸ List.mem_cons_self)
    have h2 := index2_hit (a := t) (b := b) fun hm => h (List.mem_cons_of_mem _ hm)
    rw [List.cons_append, Lib.index, h2]
    have h3 : (([41, 40] : List UInt8).isPrefixOf (x :: (t ++ 41 :: 40 :: b))) = false := by show ((41 : UInt8) == x && List.isPrefixOf [40] _) = false; rw [beq_eq_false_iff_ne.2 h1]; rfl
    have h4 : (((t.length : Nat) : Int) == -1) = false := by rw [beq_eq_false_iff_ne]; omega
    rw [h3, h4]
    simp
theorem index2_miss : ∀ {l : List UInt8}, (41 : UInt8) ∉ l → Lib.index l [41, 40] = -1
  | [], _ => by simp [Lib.index]
  | x :: t, h => by
    have h1 : (41 : UInt8) ≠ x := fun e => h (e ▸ List.mem_cons_self)
    have h2 := index2_miss (l := t) fun hm => h (List.mem_cons_of_mem _ hm)
    rw [Lib.index, h2]
    have h3 : (([41, 40] : List UInt8).isPrefixOf (x :: t)) = false := by show ((41 : UInt8) == x && List.isPrefixOf [40] _) = false; rw [beq_eq_false_iff_ne.2 h1]; rfl
    rw [h3]
    simp
theorem split2_from : ∀ (ws : List (List UInt8)) (fuel : Nat), ws ≠ [] → (∀ w ∈ ws, (41 : UInt8) ∉ w) → (Lib.join ws [41, 40]).length < fuel →
    Lib.splitK [41, 40] 0 (Lib.countFrom [41, 40] fuel (Lib.join ws [41, 40])) (Lib.join ws [41, 40]) = ws
  | _, 0, _, _, h => by omega
  | [], _ + 1, h, _, _ => absurd rfl h
  | [w], fuel + 1, _, hw, _ => by
    rw [Lib.join_one]
    have e := index2_miss (hw w List.mem_cons_self)
    rw [Lib.countFrom, e]
    rfl
  | w :: v :: t, fuel + 1, _, hw, hl => by
    have hw1 := hw w List.mem_cons_self
    rw [join_two] at hl ⊢
    have ej : w ++ [41, 40] ++ Lib.join (v :: t) [41, 40] = w ++ 41 :: 40 :: Lib.join (v :: t) [41, 40] := by simp
    rw [ej] at hl ⊢
    have e := index2_hit (b := Lib.join (v :: t) [41, 40]) hw1
    have hne : ((Lib.index (w ++ 41 :: 40 :: Lib.join (v :: t) [41, 40]) [41, 40]) == -1) = false := by rw [e, beq_eq_false_iff_ne]; omega
    rw [Lib.countFrom, hne, if_neg (by simp), Nat.add_comm, Lib.splitK, hne, if_neg (by simp), e]
    have e1 : (w ++ 41 :: 40 :: Lib.join (v :: t) [41, 40]).drop ((w.length : Int).toNat + ([41, 40] : List UInt8).length) = Lib.join (v :: t) [41, 40] := by
      rw [Int.toNat_natCast, ← List.drop_drop, List.drop_left]; rfl
    have e2 : (w ++ 41 :: 40 :: Lib.join (v :: t) [41, 40]).take ((w.length : Int).toNat + 0) = w := by simp
    rw [e1, e2, split2_from (v :: t) fuel (by simp) (fun x hx => hw x (List.mem_cons_of_mem _ hx)) (by simp at hl; omega)]
theorem split2_join {ws : List (List UInt8)} (h : ws ≠ []) (hw : ∀ w ∈ ws, (41 : UInt8) ∉ w) : Lib.split (Lib.join ws [41, 40]) [41, 40] = ws := split2_from ws _ h hw (by omega)
theorem wsplit41_join : ∀ (w : List UInt8) (t : List (List UInt8)), (∀ v ∈ w :: t, (41 : UInt8) ∉ v) → wsplit 41 (Lib.join (w :: t) [41, 40]) = w :: t.map (fun v => 40 :: v)
  | w, [], h => by rw [Lib.join_one, wsplit_none (h w List.mem_cons_self)]; rfl
  | w, v :: t, h => by
    have ih := wsplit41_join v t fun x hx => h x (List.mem_cons_of_mem _ hx)
    rw [join_two]
    have ej : w ++ [41, 40] ++ Lib.join (v :: t) [41, 40] = w ++ 41 :: (40 :: Lib.join (v :: t) [41, 40]) := by simp
    rw [ej, wsplit_hit (h w List.mem_cons_self), wsplit, if_neg (by decide), ih]
    rfl

/-- The text is that of the permutation q of degree n. -/
def PC (n : Int) (l : List UInt8) (q : List Int) : Prop := l.length ≤ 200 ∧ IsPerm q ∧ (q.length : Int) = n ∧ fmtC q = l
def inner (l : List UInt8) : List UInt8 := (l.drop 1).dropLast
theorem longC_txts {q : List Int} (hq : IsPerm q) : ∀ w ∈ (longC q).map txt, (41 : UInt8) ∉ w := by
  intro w hw
  rw [List.mem_map] at hw
  obtain ⟨c, hc, rfl⟩ := hw
  exact txt_free (longC_small hq hc)
theorem fmtC_inner {q : List Int} (hne : longC q ≠ []) : fmtC q = 40 :: (Lib.join ((longC q).map txt) [41, 40] ++ [41]) := by
  unfold fmtC
  rw [if_neg hne, pieces_join _ hne]
theorem txt_ne {c : List Int} (h : Small100 c) (hne : c ≠ []) : txt c ≠ [] := by
  intro e
  have h1 := wsplit_txt h hne
  rw [e] at h1
  cases c with
  | nil => exact hne rfl
  | cons x t =>
    have h2 := (dig_len (h x List.mem_cons_self).1 (h x List.mem_cons_self).2).1
    have h3 : [[]] = dig x :: t.map dig := h1
    have h4 := (List.cons.inj h3).1
    rw [← h4] at h2
    simp at h2
theorem longC_ne {q c : List Int} (hq : IsPerm q) (hc : c ∈ longC q) : c ≠ [] := by
  intro e
  have := (longC_len hq hc).1
  rw [e] at this
  simp at this
theorem vals_txt {c : List Int} (h : Small100 c) (hne : c ≠ []) : (wsplit 32 (txt c)).map (valD 0) = c := by
  rw [wsplit_txt h hne, List.map_map]
  conv => rhs; rw [← List.map_id c]
  exact List.map_congr_left fun x hx => (num_dig (h x hx).1 (h x hx).2).2
theorem longC_parts {q : List Int} (hq : IsPerm q) (hne : longC q ≠ []) : Lib.split (Lib.join ((longC q).map txt) [41, 40]) [41, 40] = (longC q).map txt := split2_join (by simpa using hne) (longC_txts hq)
theorem inner_fmt {q : List Int} (hne : longC q ≠ []) : inner (fmtC q) = Lib.join ((longC q).map txt) [41, 40] := by
  rw [fmtC_inner hne]
  unfold inner
  simp
theorem fmtC_dash {q : List Int} (hq : IsPerm q) : fmtC q = [40, 41] → longC q = [] := by
  intro h
  apply Classical.byContradiction
  intro hne
  have h1 := longC_parts hq hne
  have h2 := inner_fmt hne
  rw [h] at h2
  rw [← h2] at h1
  have h3 : Lib.split (inner [40, 41]) [41, 40] = [[]] := by decide
  rw [h3] at h1
  cases hL : longC q with
  | nil => exact hne hL
  | cons c t =>
    rw [hL] at h1
    have hc : c ∈ longC q := by rw [hL]; exact List.mem_cons_self
    have : ([] : List UInt8) = txt c := (List.cons.inj h1).1
    exact txt_ne (longC_small hq hc) (longC_ne hq hc) this.symm
theorem idl_of_fixed {q : List Int} (hq : IsPerm q) (h : longC q = []) : q = idl q.length := by
  have := longC_back hq
  rw [h] at this
  exact this.symm
theorem longC_vals {q : List Int} (hq : IsPerm q) : ((longC q).map txt).map (fun w => (wsplit 32 w).map (valD 0)) = longC q := by
  rw [List.map_map]
  conv => rhs; rw [← List.map_id (longC q)]
  exact List.map_congr_left fun c hc => vals_txt (longC_small hq hc) (longC_ne hq hc)
theorem PC.unique {n : Int} {l : List UInt8} {q q' : List Int} (h : PC n l q) (h' : PC n l q') : q = q' := by
  have hlen : q.length = q'.length := by have := h.2.2.1; have := h'.2.2.1; omega
  by_cases he : longC q = []
  · have e1 : fmtC q' = [40, 41] := by rw [h'.2.2.2, ← h.2.2.2]; unfold fmtC; rw [if_pos he]
    rw [idl_of_fixed h.2.1 he, idl_of_fixed h'.2.1 (fmtC_dash h'.2.1 e1), hlen]
  · have he' : longC q' ≠ [] := by
      intro e
      have e1 : fmtC q = [40, 41] := by rw [h.2.2.2, ← h'.2.2.2]; unfold fmtC; rw [if_pos e]
      exact he (fmtC_dash h.2.1 e1)
    have e1 : fmtC q = fmtC q' := by rw [h.2.2.2, h'.2.2.2]
    have e2 := congrArg inner e1
    rw [inner_fmt he, inner_fmt he'] at e2
    have e3 := longC_parts h.2.1 he
    rw [e2, longC_parts h'.2.1 he'] at e3
    have e4 := congrArg (List.map (fun w => (wsplit 32 w).map (valD 0))) e3
    rw [longC_vals h'.2.1, longC_vals h.2.1] at e4
    rw [← longC_back h.2.1, ← longC_back h'.2.1, e4, hlen]
open Classical in
noncomputable def pPC (n : Int) (l : List UInt8) : List Int := if h : ∃ q, PC n l q then Classical.choose h else []
open Classical in
noncomputable def pPCok (n : Int) (l : List UInt8) : Bool := decide (∃ q, PC n l q)
open Classical in
theorem pPC_yes {n : Int} {l : List UInt8} {q : List Int} (h : PC n l q) : pPC n l = q ∧ pPCok n l = true := by
  have hx : ∃ q, PC n l q := ⟨q, h⟩
  refine ⟨?_, by unfold pPCok; exact decide_eq_true hx⟩
  unfold pPC
  rw [dif_pos hx]
  exact (Classical.choose_spec hx).unique h
open Classical in
theorem pPC_no {n : Int} {l : List UInt8} (h : ¬ ∃ q, PC n l q) : pPC n l = [] ∧ pPCok n l = false := ⟨by unfold pPC; rw [dif_neg h], by unfold pPCok; exact decide_eq_false h⟩

/-- The parts ws, read by rd, turn the identity into p. -/
def RunsP (rd : List UInt8 → List Int → Prop) (n : Nat) (ws : List (List UInt8)) (p : List Int) : Prop :=
  ∃ cs : List (List Int), cs.length = ws.length ∧ (∀ (j : Nat) (w : List UInt8) (c : List Int), ws[j]? = some w → cs[j]? = some c → rd w c) ∧ p = cs.foldl putC (idl n)
theorem RunsP.start (rd : List UInt8 → List Int → Prop) (n : Nat) : RunsP rd n [] (idl n) := ⟨[], rfl, by simp, rfl⟩
theorem RunsP.snoc {rd : List UInt8 → List Int → Prop} {n k : Nat} {ws : List (List UInt8)} {p c : List Int} {w : List UInt8} (h : RunsP rd n (ws.take k) p) (hw : ws[k]? = some w) (hr : rd w c) : RunsP rd n (ws.take (k + 1)) (putC p c) := by
  obtain ⟨cs, h1, h2, h3⟩ := h
  rw [take_succ_some hw]
  refine ⟨cs ++ [c], by simp [h1], fun j u d e e' => ?_, by rw [List.foldl_append, ← h3]; rfl⟩
  by_cases hj : j < cs.length
  · rw [List.getElem?_append_left (by omega)] at e
    rw [List.getElem?_append_left hj] at e'
    exact h2 j u d e e'
  · rw [List.getElem?_append_right (by omega)] at e
    rw [List.getElem?_append_right (by omega)] at e'
    obtain ⟨_, rfl⟩ := List.getElem?_eq_some_iff.1 e
    obtain ⟨_, rfl⟩ := List.getElem?_eq_some_iff.1 e'
    simpa using hr
theorem RunsP.final {rd : List UInt8 → List Int → Prop} {n : Nat} {p q : List Int} (hq : IsPerm q) (hn : q.length = n) (hrd : ∀ c ∈ longC q, ∀ c', rd (txt c) c' → c' = c) (h : RunsP rd n ((longC q).map txt) p) : p = q := by
  obtain ⟨cs, h1, h2, h3⟩ := h
  have e : cs = longC q := by
    refine List.ext_getElem? fun j => ?_
    rw [List.length_map] at h1
    cases e1 : (longC q)[j]? with
    | none =>
      rw [List.getElem?_eq_none_iff] at e1 ⊢
      omega
    | some c =>
      have hj := (List.getElem?_eq_some_iff.1 e1).1
      have e2 : cs[j]? = some cs[j] := List.getElem?_eq_getElem (by omega)
      rw [e2]
      congr 1
      exact hrd c (List.mem_of_getElem? e1) _ (h2 j (txt c) cs[j] (by rw [List.getElem?_map, e1]; rfl) e2)
  subst hn
  rw [h3, e]
  exact longC_back hq
/-- How the program reads a part; how the reference does. -/
def rdI (n : Nat) (w : List UInt8) (c : List Int) : Prop := (wsplit 32 w).map numI = c.map some ∧ InR n c
def rdS (n : Nat) (w : List UInt8) (c : List Int) : Prop := (∀ y ∈ wsplit 32 w, numOk y) ∧ c = (wsplit 32 w).map (valD 0) ∧ InR n c
theorem nums_txt {c : List Int} (h : InR 20 c) (hne : c ≠ []) : (wsplit 32 (txt c)).map numI = c.map some := by
  rw [wsplit_txt (fun x hx => by have := h x hx; omega) hne, List.map_map]
  exact List.map_congr_left fun x hx => numI_dig (h x hx).1 (by have := (h x hx).2; omega)
theorem longC_20 {q c : List Int} (hq : IsPerm q) (hc : c ∈ longC q) : InR 20 c := fun x hx => by
  have := ((longC_cyc hq) c hc).2 x hx
  have := hq.2.1
  omega
theorem rdI_txt {q : List Int} (hq : IsPerm q) (n : Nat) : ∀ c ∈ longC q, ∀ c', rdI n (txt c) c' → c' = c := by
  intro c hc c' h
  have h1 := h.1
  rw [nums_txt (longC_20 hq hc) (longC_ne hq hc)] at h1
  exact (map_some_inj h1).symm
theorem rdS_txt {q : List Int} (hq : IsPerm q) (n : Nat) : ∀ c ∈ longC q, ∀ c', rdS n (txt c) c' → c' = c := by
  intro c hc c' h
  rw [h.2.1]
  exact vals_txt (longC_small hq hc) (longC_ne hq hc)
theorem trim_fmt {q : List Int} (hne : longC q ≠ []) : Lib.trimSuffix (Lib.trimPrefix (fmtC q) [40]) [41] = Lib.join ((longC q).map txt) [41, 40] := by
  rw [fmtC_inner hne]
  have e1 : Lib.trimPrefix (40 :: (Lib.join ((longC q).map txt) [41, 40] ++ [41])) [40] = Lib.join ((longC q).map txt) [41, 40] ++ [41] := by
    simp [Lib.trimPrefix, Lib.hasPrefix]
  rw [e1]
  simp [Lib.trimSuffix, Lib.hasSuffix]
/-- The parts without the parentheses that open them. -/
def strip : List (List UInt8) → List (List UInt8)
  | [] => []
  | w :: t => w :: t.map List.tail
theorem strip_length (l : List (List UInt8)) : (strip l).length = l.length := by cases l <;> simp [strip]
theorem strip_zero {l : List (List UInt8)} {w : List UInt8} (h : l[0]? = some w) : (strip l)[0]? = some w := by cases l with | nil => simp at h | cons x t => simpa [strip] using h
theorem strip_succ {l : List (List UInt8)} {k : Nat} {w : List UInt8} (h : l[k]? = some w) (hk : k ≠ 0) : (strip l)[k]? = some w.tail := by
  cases l with
  | nil => simp at h
  | cons x t =>
    obtain ⟨j, rfl⟩ : ∃ j, k = j + 1 := ⟨k - 1, by omega⟩
    rw [List.getElem?_cons_succ] at h
    simp [strip, h]
theorem strip_fmt {q : List Int} (hq : IsPerm q) (hne : longC q ≠ []) : strip (wsplit 41 (inner (fmtC q))) = (longC q).map txt ∧ ∀ (k : Nat) (w : List UInt8), k ≠ 0 → (wsplit 41 (inner (fmtC q)))[k]? = some w → w.head? = some 40 := by
  rw [inner_fmt hne]
  have hw := longC_txts hq
  cases hL : (longC q).map txt with
  | nil => exact absurd hL (by simpa using hne)
  | cons w t =>
    rw [hL] at hw
    rw [wsplit41_join w t hw]
    refine ⟨by simp [strip, Function.comp_def], fun k u hk h => ?_⟩
    obtain ⟨j, rfl⟩ : ∃ j, k = j + 1 := ⟨k - 1, by omega⟩
    rw [List.getElem?_cons_succ, List.getElem?_map, Option.map_eq_some_iff] at h
    obtain ⟨v, _, rfl⟩ := h
    rfl
end Go.Proofs.YtkojonjcikgikaaDoor
