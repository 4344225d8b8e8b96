/- A list of permutations beside a chain: which of the list's blocks turn; DerivedSubgroupOrder's add. -/
import Derived.Test.YtpijnjhheikmcaaChainOrd
import Derived.Test.YtpijnjhheikmcaaChainTop6
import Derived.Test.YtpijnjhheikmcaaPureDer
namespace Go.Proofs.Ytpijnjhheikmcaa
open Go.RowKit

/-- The rows of permutations: the outer row in blocks of the role 200, the inner ones stand. -/
def LQ (w : World) (r : Role) (B : Nat) (la : Option Addr) (n cap : Nat) (D : List (List Int)) : Prop :=
  ∃ hs : List Hdr, Own w B 23 la n cap (hs.map hvv) ∧ D.length = n ∧ (∀ b, fpI la b → r b = 200) ∧ ∀ (j : Nat) (x : Hdr) (g : List Int), hs[j]? = some x → D[j]? = some g → IntsD (RZ r) w x.1 x.2.1 g ∧ x.2.1 ≤ x.2.2
section
variable {w w' : World} {r r' : Role} {B d og ot cp gb tb gc tc : Nat} {rb : Nat → Nat} {gh : Nat → Hdr} {R : Tr} {G : Nat → List (List Int)} {la : Option Addr} {n cap : Nat} {D : List (List Int)}
theorem LQ.nil (w : World) (r : Role) (B : Nat) : LQ w r B none 0 0 [] := ⟨[], Own.nil _ _ _, rfl, fun b ⟨_, _, e⟩ => (by cases e), by simp⟩
theorem LQ.length (h : LQ w r B la n cap D) : D.length = n := by obtain ⟨_, _, h, _⟩ := h; exact h
theorem LQ.lt (h : LQ w r B la n cap D) {b : Nat} (hb : fpI la b) : B ≤ b ∧ b < w.heap.size := by obtain ⟨_, h1, _⟩ := h; obtain ⟨_, _, e⟩ := hb; exact h1.lt e
theorem LQ.move (h : LQ w r B la n cap D) (hb : ∀ b, fpI la b → w'.heap[b]? = w.heap[b]?) (hk : Kept (RZ r) w w') (hr : ∀ b, b < w.heap.size → r' b = r b) : LQ w' r' B la n cap D := by
  have hl := fun b hb => (h.lt (b := b) hb).2
  obtain ⟨hs, h1, h2, h3, h4⟩ := h
  exact ⟨hs, h1.of_heap fun b off s e => hb b ⟨off, s, e⟩, h2, fun b e => by rw [hr b (hl b e)]; exact h3 b e, fun j x g e e' => ⟨(h4 j x g e e').1.move hk fun c hc hz => by show r' c = 0; rw [hr c hc]; exact hz, (h4 j x g e e').2⟩⟩
theorem LQ.up (h : LQ w r B la n cap D) (hb : Below w.heap.size w w') : LQ w' r B la n cap D :=
  h.move (fun b e => hb.block b (h.lt e).2) (.of_below hb) fun _ _ => rfl
theorem LQ.ev {B' : Nat} (h : LQ w r B la n cap D) (he : Ev B' 0 r w r' w') : LQ w' r' B la n cap D :=
  h.move (fun b e => he.kept b (by obtain ⟨_, _, _, h3, _⟩ := h; have := h3 b e; unfold LowR; omega) (h.lt e).2) he.z he.role
theorem LQ.at (h : LQ w r B la n cap D) {k : Nat} (hk : k < n) :
    ∃ b a m c g, la = some ⟨b, 0, none⟩ ∧ b < w.heap.size ∧ w.cell? ⟨b, k, none⟩ = some (.slice a m c) ∧ Hd (D[k]? = some g) ∧ IntsD (RZ r) w a m g ∧ m ≤ c := by
  obtain ⟨hs, h1, h2, _, h4⟩ := h
  obtain ⟨b, v, e1, _, e5, e2, _, e3⟩ := h1.at hk
  have e3 := e3.o
  rw [List.getElem?_map, Option.map_eq_some_iff] at e3
  obtain ⟨x, e4, rfl⟩ := e3
  have e6 : D[k]? = some (D[k]'(by omega)) := List.getElem?_eq_getElem (by omega)
  obtain ⟨a1, a2⟩ := h4 k x _ e4 e6
  exact ⟨b, x.1, x.2.1, x.2.2, _, e1, e5, e2, e6, a1, a2⟩

/-- A new block gets a role. -/
theorem Ch.claimV (h : Ch w r B d og ot cp gb tb gc tc rb gh R G) (hb : Below w.heap.size w w') (hB : B ≤ w.heap.size) {g : Nat} (h1 : w.heap.size ≤ g) (h2 : g < w'.heap.size) (v : Nat) : Ch w' (roleS r g v) B d og ot cp gb tb gc tc rb gh R G ∧ ∀ b, b < w.heap.size → roleS r g v b = r b := by
  have he : ∀ b, b < w.heap.size → roleS r g v b = r b := fun b hb => by unfold roleS; rw [if_neg (by omega)]
  refine ⟨h.side (fun b hl _ => hb.block b hl) he fun b hn => ?_, he⟩
  by_cases e : b = g
  · subst e; exact ⟨by omega, h2⟩
  · unfold roleS at hn
    rw [if_neg e] at hn
    have := h.lo b hn
    exact ⟨this.1, Nat.lt_of_lt_of_le this.2 hb.size⟩
/-- The list is appended to. -/
theorem Ch.listV (h : Ch w r B d og ot cp gb tb gc tc rb gh R G) (hg : Grew la w w') (hr : ∀ b, fpI la b → r b = 200) {j g2 : Nat} (ha : (some (⟨g2, 0, none⟩ : Addr)) = la ∨ (some (⟨g2, 0, none⟩ : Addr)) = some ⟨w.heap.size + j, 0, none⟩) (hl : B ≤ g2 ∧ g2 < w'.heap.size) :
    Ch w' (roleS r g2 200) B d og ot cp gb tb gc tc rb gh R G ∧ (∀ b, b < w.heap.size → roleS r g2 200 b = r b) ∧ Kept (RZ r) w w' ∧ Below B w w' := by
  have he : ∀ b, b < w.heap.size → roleS r g2 200 b = r b := fun b hb => by
    unfold roleS
    split
    · rename_i e; subst e
      rcases ha with e | e
      · exact (hr b ⟨0, none, e.symm⟩).symm
      · cases e; omega
    · rfl
  refine ⟨h.side (fun b hl hb => hg.block b hl fun o s e => by have := hr b ⟨o, s, e⟩; omega) he fun b hn => ?_, he, .of_grew hg fun b hb e => by have h1 := hr b e; have h2 : r b = 0 := hb; omega, hg.below h.hB fun b o s e => (h.lo b (by rw [hr b ⟨o, s, e⟩]; omega)).1⟩
  by_cases e2 : b = g2
  · subst e2; exact hl
  · unfold roleS at hn
    rw [if_neg e2] at hn
    have := h.lo b hn
    exact ⟨this.1, Nat.lt_of_lt_of_le this.2 hg.size⟩
/-- Another's block is written. -/
theorem Ch.storeV (h : Ch w r B d og ot cp gb tb gc tc rb gh R G) {g : Nat} (hr : 100 ≤ r g) (k : Nat) (u : Value) : Ch (w.setCell ⟨g, k, none⟩ u) r B d og ot cp gb tb gc tc rb gh R G :=
  h.side (fun b _ hb => heap_store w g k b u fun e => by subst e; omega) (fun _ _ => rfl) fun b hn => by rw [size_store]; exact h.lo b hn
theorem LQ.storeV (h : LQ w r B la n cap D) {g : Nat} (hr : r g = 201) (k : Nat) (u : Value) : LQ (w.setCell ⟨g, k, none⟩ u) r B la n cap D :=
  h.move (fun b e => heap_store w g k b u fun e' => by obtain ⟨_, _, _, h3, _⟩ := h; have := h3 b e; rw [e', hr] at this; omega) (.of_store fun b hb e => by have : r b = 0 := hb; rw [e, hr] at this; omega) fun _ _ => rfl
theorem LQ.snoc {w1 : World} (h : LQ w r B la n cap D) {hs : List Hdr} (h4 : ∀ (j : Nat) (x : Hdr) (g : List Int), hs[j]? = some x → D[j]? = some g → IntsD (RZ r) w x.1 x.2.1 g ∧ x.2.1 ≤ x.2.2) (hl : hs.length = n) {a : Option Addr} {m c : Nat} {p : List Int} (hp : IntsD (RZ r) w a m p) (hc : m ≤ c) {g2 n2 c2 : Nat}
    (ho : Own w1 B 23 (some ⟨g2, 0, none⟩) n2 c2 (hs.map hvv ++ [.slice a m c])) (hk : Kept (RZ r) w w1) (hr : ∀ b, b < w.heap.size → roleS r g2 200 b = r b) : LQ w1 (roleS r g2 200) B (some ⟨g2, 0, none⟩) n2 c2 (D ++ [p]) := by
  have hD := h.length
  have hn2 := ho.length
  simp at hn2
  have hz : ∀ c, c < w.heap.size → RZ r c → RZ (roleS r g2 200) c := fun c hc hz => by show roleS r g2 200 c = 0; rw [hr c hc]; exact hz
  refine ⟨hs ++ [(a, m, c)], by rw [List.map_append]; exact ho, by simp; omega, fun b ⟨off, s, e⟩ => by cases e; simp [roleS], fun j x g e e' => ?_⟩
  by_cases hj : j < hs.length
  · rw [List.getElem?_append_left hj] at e
    rw [List.getElem?_append_left (by omega)] at e'
    exact ⟨(h4 j x g e e').1.move hk hz, (h4 j x g e e').2⟩
  · rw [List.getElem?_append_right (by omega)] at e
    rw [List.getElem?_append_right (by omega)] at e'
    obtain ⟨_, rfl⟩ := List.getElem?_eq_some_iff.1 e
    obtain ⟨_, rfl⟩ := List.getElem?_eq_some_iff.1 e'
    simp only [List.getElem_singleton]
    exact ⟨hp.move hk hz, hc⟩
end

/-- What stands between two calls of the program's add: the chain behind the box bc, the list behind the box bl; the chain's generators are the list. -/
def IS (w : World) (B d cp gb tb gc tc : Nat) (rb : Nat → Nat) (bc bl : Nat) (L : List (List Int)) : Prop :=
  ∃ (r : Role) (gh : Nat → Hdr) (R : Tr) (G : Nat → List (List Int)) (la : Option Addr) (n cap : Nat), Ch w r B d 1 2 cp gb tb gc tc rb gh R G ∧ Hd (Built d L R G ∧ L.length ≤ pot d R 0) ∧
    w.cell? ⟨bc, 0, none⟩ = some (.pointer (some ⟨cp, 0, none⟩)) ∧ Hd (r bc = 0) ∧ w.cell? ⟨bl, 0, none⟩ = some (.slice la n cap) ∧ w.frozen? ⟨bl, 0, none⟩ = false ∧ Hd (r bl = 201) ∧ LQ w r B la n cap L
theorem IS.up {w w' : World} {B d cp gb tb gc tc : Nat} {rb : Nat → Nat} {bc bl : Nat} {L : List (List Int)} (h : IS w B d cp gb tb gc tc rb bc bl L) (hb : Below w.heap.size w w') : IS w' B d cp gb tb gc tc rb bc bl L := by
  obtain ⟨r, gh, R, G, la, n, cap, h1, h2, h3, h4, h5, h6, h7, h8⟩ := h
  exact ⟨r, gh, R, G, la, n, cap, h1.up hb, h2, keep1 h3 hb, h4, keep1 h5 hb, (hb.frozen (p := ⟨bl, 0, none⟩) (World.block_lt_of_cell? w _ h5)).trans h6, h7, h8.up hb⟩
theorem IS.len {w : World} {B d cp gb tb gc tc : Nat} {rb : Nat → Nat} {bc bl : Nat} {L : List (List Int)} (h : IS w B d cp gb tb gc tc rb bc bl L) : L.length ≤ 400 := by
  obtain ⟨r, gh, R, G, la, n, cap, h1, h2, _⟩ := h
  have := pot_le d R 0
  have h3 := h1.d2
  have := h2.o.2
  have := Nat.mul_le_mul h3 h3
  omega
theorem IS.ci {w : World} {B d cp gb tb gc tc : Nat} {rb : Nat → Nat} {bc bl : Nat} {L : List (List Int)} (h : IS w B d cp gb tb gc tc rb bc bl L) : CI w cp d L := by
  obtain ⟨r, gh, R, G, la, n, cap, h1, h2, _⟩ := h
  exact ⟨r, B, gb, tb, gc, tc, rb, gh, R, G, h1, h2.o.1⟩

set_option maxHeartbeats 4000000 in
set_option maxRecDepth 100000 in
theorem derAdd_c {K : Ending → World → Prop} (B d cp gb tb gc tc : Nat) (rb : Nat → Nat) (bc bl : Nat) (L : List (List Int)) (w0 w : World) (a : Option Addr) (n cap : Nat) (p : List Int) (hS : IS w0 B d cp gb tb gc tc rb bc bl L) (hb0 : Below w0.heap.size w0 w) (hp : OwnI w w0.heap.size a n cap p) (hpm : Hd (Pm d p)) (hgs : Hd (Gs d L))
    (H : ∀ w' L', Hd (AddTo d p L L') → Below B w w' → IS w' B d cp gb tb gc tc rb bc bl L' → K (.returned (.tuple #[])) w') :
    Calls Try.prog 73 #[.slice a n cap, .pointer (some ⟨bc, 0, none⟩), .pointer (some ⟨bl, 0, none⟩)] w K := by
  have H' := Hd.i H; clear H
  have hL400 := hS.len
  obtain ⟨r, gh, R, G, la, ln, lcap, hC0, hBu, hcc0, hrc, hcl0, hfl0, hrl, hL0⟩ := hS
  have hC := hC0.up hb0
  have hL := hL0.up hb0
  have hcc := keep1 hcc0 hb0
  have hcl := keep1 hcl0 hb0
  have hfl := (hb0.frozen (p := ⟨bl, 0, none⟩) (World.block_lt_of_cell? w0 _ hcl0)).trans hfl0
  have hpD : IntsD (RZ r) w a n p := .of_own hp fun b hb => hC0.new hb
  have hd1 := hC.d1
  have hd2 := hC.d2
  have hBw := hC.hB
  have hln : ln ≤ 400 := by have := hL.length; omega
  have hcap := hp.cap
  have hpi := hp.ints
  clear hC0 hL0 hcc0 hcl0 hfl0 hp hb0
  go_enter Try.func73, Try.ntmps73
  go_wp2_with fail
  refine implHas_c d 1 B cp gb tb gc tc rb gh r R G 0 a n cap p _ rfl hC (Hd.i hBu.o.1.1.rws) (Nat.zero_le _) hpi ⟨hpm.o, fx_zero p⟩ ?_
  intro bb hbb w2 hb2
  have hC2 := hC.up hb2
  have hL2 := hL.up hb2
  have hcc2 := keep1 hcc hb2
  have hcl2 := keep1 hcl hb2
  have hfl2 := (hb2.frozen (p := ⟨bl, 0, none⟩) (World.block_lt_of_cell? w _ hcl)).trans hfl
  have hpD2 := hpD.kept (.of_below hb2)
  clear hC hL hcc hcl hfl hpD hpi
  have hbw2 : Below B w w2 := hb2.mono hBw
  cases bb with
  | true =>
    have hold := Hd.i (AddTo.old (d := d) (L := L) (p := p) ((hBu.o.1.mem hd1 hd2 hpm.o).1 (hbb.o.1 rfl)))
    go_wp2
    go_end0
    exact H'.o _ L hold hbw2 ⟨r, gh, R, G, la, ln, lcap, hC2, hBu, hcc2, hrc, hcl2, hfl2, hrl, hL2⟩
  | false =>
    have hns : Hd (¬ Sf d R 0 p) := fun h => by have := hbb.o.2 h; cases this
    go_wp2_with fail
    refine implAdd_c d B cp gb tb gc tc rb d 0 rfl (Nat.zero_le _) _ r gh R G a n cap p _ hC2 (Hd.i hBu.o.1.1) hpD2 hcap ⟨hpm.o, fx_zero p⟩ ?_
    intro w9 r9 gh9 R9 G9 hE9 hC9 _ hpost9
    have hBu9 : Hd (Built d (L ++ [p]) R9 G9 ∧ (L ++ [p]).length ≤ pot d R9 0) := by
      refine ⟨hBu.o.1.step hd1 hd2 hgs.o hpm.o hpost9.o, ?_⟩
      have h1 := pot_lt hpost9.o.mon (fun i y hs h1 h2 => hpost9.o.ok.row hs h1 h2) hns.o hpost9.o.has
      have h2 := hBu.o.2
      rw [List.length_append, List.length_singleton]
      omega
    have hL9 := hL2.ev hE9
    have hbcl := World.block_lt_of_cell? w2 _ hcc2
    have hbll := World.block_lt_of_cell? w2 _ hcl2
    have hcc9 : w9.cell? ⟨bc, 0, none⟩ = some (.pointer (some ⟨cp, 0, none⟩)) := (World.cell?_of_block (a := ⟨bc, 0, none⟩) (hE9.z bc hrc.o hbcl)).trans hcc2
    have hlow : LowR r 0 bl := by have := hrl.o; unfold LowR; omega
    have hcl9 : w9.cell? ⟨bl, 0, none⟩ = some (.slice la ln lcap) := (World.cell?_of_block (a := ⟨bl, 0, none⟩) (hE9.kept bl hlow hbll)).trans hcl2
    have hfl9 : w9.frozen? ⟨bl, 0, none⟩ = false := (World.frozen?_of_block (a := ⟨bl, 0, none⟩) (hE9.kept bl hlow hbll)).trans hfl2
    have hrc9 := Hd.i ((hE9.role bc hbcl).trans hrc.o)
    have hrl9 := Hd.i ((hE9.role bl hbll).trans hrl.o)
    have hpD9 := hpD2.ev hE9
    have hbw9 : Below B w w9 := hbw2.trans hE9.below
    have hB9 := hC9.hB
    have hbll9 := World.block_lt_of_cell? w9 _ hcl9
    have hbcl9 := World.block_lt_of_cell? w9 _ hcc9
    replace hlow := Hd.i hlow
    obtain ⟨hs, q1, q2, q3, q4⟩ := id hL9
    have hl := Hd.i (show hs.length = ln by simpa using q1.length)
    have hne := Hd.i (show ¬ fpI la bl from fun e => by have h1 := q3 bl e; have h2 := hrl9.o; omega)
    have hne2 := Hd.i (show ¬ fpI la bc from fun e => by have h1 := q3 bc e; have h2 := hrc9.o; omega)
    replace q3 := Hd.i q3
    replace q4 := Hd.i q4
    replace q2 := Hd.i q2
    have c1 : (ln + 1) * 24 ≤ 140737488355328 := by omega
    have c2 : ln + 1 ≤ 281474976710656 := by omega
    clear hcc2 hcl2 hfl2 hC2 hL2 hpD2
    go_wp2_with (first | (at_builtin; refine appendL_c rfl _ _ _ rfl B 23 (.slice none 0 0) 24 Try.underlying22 infoSl rfl _ _ _ _ rfl q1 [.slice a n cap] 1 rfl rfl oneSlice c1 c2 hB9 ?_; intro a2 n2 cap2 w10 hn2 ho2 hg2 ha2; have hcl10 := hg2.cell_far hcl9 hne.o; have hfl10 := (hg2.frozen_far (p := ⟨bl, 0, none⟩) hbll9 hne.o).trans hfl9))
    go_end0
    have hol := ho2.length
    simp at hol
    obtain ⟨g2, rfl⟩ : ∃ g2, a2 = some ⟨g2, 0, none⟩ := by
      rcases ho2.addr with ⟨_, h, _⟩ | ⟨g, h, _⟩
      · omega
      · exact ⟨g, h⟩
    obtain ⟨hC10, he10, hk10, hb10⟩ := hC9.listV hg2 q3.o ha2.o (ho2.lt rfl)
    have hL10 := hL9.snoc q4.o hl.o hpD9 hcap ho2 hk10 he10
    have hrl10 : roleS r9 g2 200 bl = 201 := (he10 bl hbll9).trans hrl9.o
    have hrc10 : roleS r9 g2 200 bc = 0 := (he10 bc hbcl9).trans hrc9.o
    have hne3 : bc ≠ bl := fun e => by have h1 := hrc9.o; rw [e, hrl9.o] at h1; omega
    have hBl : B ≤ bl := (hC9.lo bl (by rw [hrl9.o]; omega)).1
    refine H'.o _ (L ++ [p]) (AddTo.new hgs.o hpm.o) ((hbw9.trans hb10).setCell (p := ⟨bl, 0, none⟩) hBl _) ⟨roleS r9 g2 200, gh9, R9, G9, some ⟨g2, 0, none⟩, n2, cap2, hC10.storeV (by rw [hrl10]; omega) 0 _, hBu9, ?_, hrc10, World.cell?_setCell_same _ _ _ hcl10, by rw [World.frozen?_setCell]; exact hfl10, hrl10, hL10.storeV hrl10 0 _⟩
    rw [World.cell?_setCell_other _ _ _ (b := ⟨bc, 0, none⟩) (by intro e; cases e; exact hne3 rfl)]
    exact hg2.cell_far hcc9 hne2.o
end Go.Proofs.Ytpijnjhheikmcaa
