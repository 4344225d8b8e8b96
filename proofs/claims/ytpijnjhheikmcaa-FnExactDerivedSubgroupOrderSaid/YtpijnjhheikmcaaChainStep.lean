/- Tools for the walks over chains: how a world evolves beside a chain; append at a step of a region that draws; the points of a row. -/
import Derived.Test.YtpijnjhheikmcaaChainHas
import Derived.Test.YtpijnjhheikmcaaPureChain3
import Derived.Test.YtpijnjhheikmcaaRegA
import Derived.Deep.RegionLaw
import Derived.Deep.LoopGhost
import Derived.Deep.RegionHeld3
import Derived.Deep.DeepCutAuto
namespace Go.Proofs.Ytpijnjhheikmcaa
open Go.RowKit

/-- The blocks that an addition at level k leaves alone. -/
def LowR (r : Role) (k b : Nat) : Prop := r b ≠ 1 ∧ (r b < 2 + 2 * k ∨ 200 ≤ r b)
theorem LowR.z {r : Role} {k b : Nat} (h : RZ r b) : LowR r k b := by unfold RZ at h; unfold LowR; omega
/-- From (r, w) to (r', w'): below B nothing has turned; old blocks keep their roles; what is of no level from k on stands. -/
structure Ev (B k : Nat) (r : Role) (w : World) (r' : Role) (w' : World) : Prop where
  below : Below B w w'
  role : ∀ b, b < w.heap.size → r' b = r b
  kept : Kept (LowR r k) w w'
theorem Ev.refl (B k : Nat) (r : Role) (w : World) : Ev B k r w r w := ⟨Below.refl _ _, fun _ _ => rfl, fun _ _ _ => rfl⟩
theorem Ev.trans {B k : Nat} {r r1 r2 : Role} {w w1 w2 : World} (h : Ev B k r w r1 w1) (h' : Ev B k r1 w1 r2 w2) : Ev B k r w r2 w2 :=
  ⟨h.below.trans h'.below, fun b hb => (h'.role b (Nat.lt_of_lt_of_le hb h.below.size)).trans (h.role b hb), fun b hb hl => (h'.kept b (by unfold LowR at *; rw [h.role b hl]; exact hb) (Nat.lt_of_lt_of_le hl h.below.size)).trans (h.kept b hb hl)⟩
theorem Ev.mono {B k j : Nat} {r r' : Role} {w w' : World} (h : Ev B k r w r' w') (hj : j ≤ k) : Ev B j r w r' w' :=
  ⟨h.below, h.role, fun _ hb hl => h.kept _ (by unfold LowR at *; omega) hl⟩
theorem Ev.of_below {B k : Nat} {r : Role} {w w' : World} (h : Below w.heap.size w w') (hB : B ≤ w.heap.size) : Ev B k r w r w' := ⟨h.mono hB, fun _ _ => rfl, .of_below h⟩
theorem Ev.of_drew {B k : Nat} {r : Role} {w w' : World} (h : Drew w w') : Ev B k r w r w' := ⟨h.below _, fun _ _ => rfl, .of_drew h⟩
theorem Ev.of_store {B k : Nat} {r : Role} {w : World} {g : Nat} (hB : B ≤ g) (hr : ¬ LowR r k g) (x : Nat) (u : Value) : Ev B k r w r (w.setCell ⟨g, x, none⟩ u) :=
  ⟨(Below.refl _ _).setCell (p := ⟨g, x, none⟩) hB u, fun _ _ => rfl, .of_store fun _ hb e => hr (e ▸ hb)⟩
theorem Ev.of_grew {B k : Nat} {r : Role} {w w' : World} {a : Option Addr} (h : Grew a w w') (hB : B ≤ w.heap.size) (hr : ∀ b, fpI a b → B ≤ b ∧ ¬ LowR r k b) : Ev B k r w r w' :=
  ⟨h.below hB fun b off s e => (hr b ⟨off, s, e⟩).1, fun _ _ => rfl, .of_grew h fun b hb e => (hr b e).2 hb⟩
theorem Ev.of_role {B k : Nat} {r r' : Role} {w : World} (h : ∀ b, b < w.heap.size → r' b = r b) : Ev B k r w r' w := ⟨Below.refl _ _, h, fun _ _ _ => rfl⟩
theorem Ev.z {B k : Nat} {r r' : Role} {w w' : World} (h : Ev B k r w r' w') : Kept (RZ r) w w' := fun b hb hl => h.kept b (.z hb) hl
theorem IntsD.ev {B k : Nat} {r r' : Role} {w w' : World} {a : Option Addr} {n : Nat} {xs : List Int} (h : IntsD (RZ r) w a n xs) (he : Ev B k r w r' w') : IntsD (RZ r') w' a n xs :=
  h.move he.z fun c hc hz => by show r' c = 0; rw [he.role c hc]; exact hz


/-- The block g is a queue's. -/
def roleQ (r : Role) (g : Nat) : Role := fun b => if b = g then 100 else r b
theorem roleQ_self (r : Role) (g : Nat) : roleQ r g g = 100 := by simp [roleQ]
section
variable {w w' : World} {r : Role} {B d og ot cp gb tb gc tc : Nat} {rb : Nat → Nat} {gh : Nat → Hdr} {R : Tr} {G : Nat → List (List Int)}
/-- A new block becomes a queue's. -/
theorem Ch.claim (h : Ch w r B d og ot cp gb tb gc tc rb gh R G) (hb : Below w.heap.size w w') (hB : B ≤ w.heap.size) {g : Nat} (h1 : w.heap.size ≤ g) (h2 : g < w'.heap.size) (k : Nat) : Ch w' (roleQ r g) B d og ot cp gb tb gc tc rb gh R G ∧ Ev B k r w (roleQ r g) w' := by
  have he : ∀ b, b < w.heap.size → roleQ r g b = r b := fun b hb => by unfold roleQ; rw [if_neg (by omega)]
  refine ⟨h.side (fun b hl _ => hb.block b hl) he fun b hn => ?_, ⟨hb.mono hB, he, .of_below hb⟩⟩
  by_cases e : b = g
  · subst e; exact ⟨by omega, h2⟩
  · unfold roleQ at hn
    rw [if_neg e] at hn
    have := h.lo b hn
    exact ⟨this.1, Nat.lt_of_lt_of_le this.2 hb.size⟩
/-- A queue is appended to. -/
theorem Ch.queue (h : Ch w r B d og ot cp gb tb gc tc rb gh R G) {gq off j : Nat} {a2 : Option Addr} (hg : Grew (some ⟨gq, off, none⟩) w w') (hr : r gq = 100) (hB : B ≤ w.heap.size) (ha : a2 = some ⟨gq, off, none⟩ ∨ a2 = some ⟨w.heap.size + j, 0, none⟩) (hl : ∀ b o s, a2 = some ⟨b, o, s⟩ → B ≤ b ∧ b < w'.heap.size) (k : Nat) (hk : k < 20) :
    ∃ g2 off2, a2 = some ⟨g2, off2, none⟩ ∧ Ch w' (roleQ r g2) B d og ot cp gb tb gc tc rb gh R G ∧ Ev B k r w (roleQ r g2) w' := by
  have key : ∀ g2 o2, a2 = some ⟨g2, o2, none⟩ → (g2 = gq ∨ w.heap.size ≤ g2) → Ch w' (roleQ r g2) B d og ot cp gb tb gc tc rb gh R G ∧ Ev B k r w (roleQ r g2) w' := by
    intro g2 o2 e hg2
    have he : ∀ b, b < w.heap.size → roleQ r g2 b = r b := fun b hb => by
      unfold roleQ
      split
      · rename_i e; subst e
        rcases hg2 with e | e
        · rw [e]; exact hr.symm
        · omega
      · rfl
    have hlq := h.lo gq (by omega)
    refine ⟨h.side (fun b hl hb => hg.block b hl fun o s e => by cases e; omega) he fun b hn => ?_, ⟨hg.below hB fun b o s e => by cases e; exact hlq.1, he, .of_grew hg fun b hb ⟨o, s, e⟩ => by cases e; unfold LowR at hb; omega⟩⟩
    by_cases e2 : b = g2
    · subst e2; exact hl _ _ _ e
    · unfold roleQ at hn
      rw [if_neg e2] at hn
      have := h.lo b hn
      exact ⟨this.1, Nat.lt_of_lt_of_le this.2 hg.size⟩
  rcases ha with e | e
  · exact ⟨_, _, e, key _ _ e (.inl rfl)⟩
  · exact ⟨_, _, e, key _ _ e (.inr (Nat.le_add_right _ _))⟩
/-- A representative is stored: how the world evolves. -/
theorem Ch.setRepEv (h : Ch w r B d og ot cp gb tb gc tc rb gh R G) {k : Nat} (hk : k < d) (y : Nat) (u : Value) : Ev B k r w r (w.setCell ⟨rb k, y, none⟩ u) :=
  .of_store (h.rb_lt hk).1 (fun hl => by have := (h.tt k hk).2; have := h.d2; unfold LowR at hl; omega) y u
theorem Ch.hB (h : Ch w r B d og ot cp gb tb gc tc rb gh R G) : B ≤ w.heap.size := by have := h.lo gb (by rw [h.rg]; omega); omega
theorem Ch.new (h : Ch w r B d og ot cp gb tb gc tc rb gh R G) {b : Nat} (hb : w.heap.size ≤ b) : RZ r b := by
  apply Classical.byContradiction
  intro hne
  have := (h.lo b hne).2
  omega
end

/-- Three cells that stand. -/
theorem keepL {w0 w' : World} {D : Nat → Prop} {p1 p2 p3 : Addr} {v1 v2 v3 : Value} (h1 : w0.cell? p1 = some v1) (h2 : w0.cell? p2 = some v2) (h3 : w0.cell? p3 = some v3) (d1 : D p1.block) (d2 : D p2.block) (d3 : D p3.block) (hk : Kept D w0 w') :
    w'.cell? p1 = some v1 ∧ w'.cell? p2 = some v2 ∧ w'.cell? p3 = some v3 ∧ Kept D w0 w' := by
  have key : ∀ p v, w0.cell? p = some v → D p.block → w'.cell? p = some v := fun p v h d => by rw [← h]; exact World.cell?_of_block (hk _ d (World.block_lt_of_cell? w0 p h))
  exact ⟨key _ _ h1 d1, key _ _ h2 d2, key _ _ h3 d3, hk⟩

theorem RowAt.at {w : World} {r : Role} {B d b y : Nat} {f : Nat → Option (List Int)} (h : RowAt w r B d b f) (hy : y < d) :
    ∃ a n c, w.cell? ⟨b, y, none⟩ = some (.slice a n c) ∧ Hd (f y = none → (a, n, c) = (none, 0, 0)) ∧ Hd (∀ t, f y = some t → a ≠ none ∧ IntsD (RZ r) w a n t ∧ n ≤ c) := by
  obtain ⟨rh, h1, h2⟩ := h
  obtain ⟨v, e1, e2, e3⟩ := h1.at' hy
  have e3 := e3.o
  rw [List.getElem?_map, List.getElem?_range hy] at e3
  simp only [Option.map_some, Option.some.injEq] at e3
  subst e3
  exact ⟨(rh y).1, (rh y).2.1, (rh y).2.2, e1, (h2 y hy).1, (h2 y hy).2⟩
theorem RowAt.lt {w : World} {r : Role} {B d b : Nat} {f : Nat → Option (List Int)} (h : RowAt w r B d b f) : b < w.heap.size := by
  obtain ⟨rh, h1, _⟩ := h
  exact (h1.lt rfl).2
theorem RowAt.up {w w' : World} {r : Role} {B d b : Nat} {f : Nat → Option (List Int)} (h : RowAt w r B d b f) (hb : Below w.heap.size w w') : RowAt w' r B d b f :=
  h.step (hb.block b h.lt) (.of_below hb) fun _ _ h => h

set_option maxHeartbeats 1000000 in
theorem implPts_c {K : Ending → World → Prop} (r : Role) (B d b cap : Nat) (f : Nat → Option (List Int)) (w : World) (hd : d ≤ 20) (hr : RowAt w r B d b f) (H : MakesI K w (ptsTo f d)) :
    Calls Try.prog 69 #[.slice (some ⟨b, 0, none⟩) d cap] w K := by
  have H' := Hd.i H; clear H
  have hne := neNil
  go_enter Try.func69, Try.ntmps69
  go_wp2
  go_loopw [3, 8] (fun v i wr => ∃ (k : Nat) (c : Option Addr) (m capc : Nat), k ≤ d ∧ i = .int .i64 k ∧ v = .slice c m capc ∧ OwnI wr w.heap.size c m capc (ptsTo f k) ∧ Below w.heap.size w wr) (fun _ i _ => d - (intOf i).toNat)
  case atStart => exact ⟨0, none, 0, 0, Nat.zero_le _, rfl, rfl, by simpa [ptsTo, idl] using OwnI.nil w _, Below.refl _ _⟩
  case round =>
    obtain ⟨k, c, m, capc, hk, rfl, rfl, ho, hb⟩ := hrel
    by_cases hlt : k < d
    · obtain ⟨ra, rn, rc, hcr, hrno, hrso⟩ := (hr.up hb).at hlt
      have hmk : m ≤ k := by rw [← ho.length]; exact ptsTo_le f k
      cases hf : f k with
      | some t =>
        obtain ⟨ad, rfl⟩ : ∃ ad, ra = some ad := Option.ne_none_iff_exists'.1 (hrso.o t hf).1
        have el := Hd.i (show ptsTo f (k + 1) = ptsTo f k ++ [(k : Int)] by rw [ptsTo_succ, hf]; rfl)
        replace hf := Hd.i hf
        clear hrno hrso
        have c1 : (m + 1) * 8 ≤ 140737488355328 := by omega
        have c2 : m + 1 ≤ 281474976710656 := by omega
        have hs := hb.size
        go_wp2_with (at_builtin; refine appendL_c rfl _ _ _ rfl w.heap.size 2 (.int .i64 0) 8 Try.underlying23 infoInt rfl _ _ _ _ rfl ho.1 [.int .i64 k] 1 rfl rfl oneInt c1 c2 hs ?_; intro a2 n2 cap2 w2 hn2 ho2 hg2 ha2)
        exact ⟨⟨k + 1, a2, n2, cap2, by omega, by go_num, rfl, by rw [el.o]; exact OwnI.snoc ho2 ho.2 (by omega) (by omega), ho.grewBelow hg2 hb hs⟩, by simp [intOf]; omega⟩
      | none =>
        have e := hrno.o hf
        simp only [Prod.mk.injEq] at e
        obtain ⟨rfl, rfl, rfl⟩ := e
        have el := Hd.i (show ptsTo f (k + 1) = ptsTo f k by rw [ptsTo_succ, hf]; simp)
        replace hf := Hd.i hf
        clear hrno hrso
        go_wp2
        exact ⟨⟨k + 1, c, m, capc, by omega, by go_num, rfl, by rw [el.o]; exact ho, hb⟩, by simp [intOf]; omega⟩
    · obtain rfl : k = d := by omega
      go_wp2
      exact H'.o _ _ _ _ hb ho
end Go.Proofs.Ytpijnjhheikmcaa
