/- The walk of wordsFrom. -/
import Derived.Test.YtkojonjcikgikaaWords
namespace Go.Proofs.Ytkojonjcikgikaa
open Go.RowKit

/-- What is found when of the letters of entry i the first j are gone through; entry i is (u, wu). -/
def FwAt (d : Nat) (xss : List (List Int)) (x : Int) (i : Nat) (u : Int) (wu : List Int) (j : Nat) (fw : FW) : Prop := (st xss x i)[i]? = some (u, wu) ∧ fw = scan xss u wu (st xss x i) j ∧ OkF xss x fw ∧ fw[i]? = some (u, wu) ∧ (0 ≤ u ∧ u < d) ∧ i < d ∧ fw.length ≤ d
theorem fwAt {d : Nat} {xss : List (List Int)} (hg : Gens d xss) {x : Int} (hx : 0 ≤ x ∧ x < d) {i : Nat} {u : Int} {wu : List Int} (hu : (st xss x i)[i]? = some (u, wu)) {j : Nat} (hj : j ≤ 2 * xss.length) : FwAt d xss x i u wu j (scan xss u wu (st xss x i) j) := by
  have h1 := okF_st hg hx i
  have h2 := h1.scan hg hx hu j hj
  have h3 := prefix_get (scan_prefix xss u wu (st xss x i) j) hu
  refine ⟨hu, rfl, h2, h3, (h1.2.1 _ (List.mem_of_getElem? hu)).range hg hx, ?_, h2.len hg hx⟩
  have := (List.getElem?_eq_some_iff.1 hu).1
  have := h1.len hg hx
  omega
theorem drop_snoc {α : Type} {l : List α} {i : Nat} (h : i ≤ l.length) (z : α) : (l ++ [z]).drop i = l.drop i ++ [z] := List.drop_append_of_le_length h

set_option maxHeartbeats 4000000 in
theorem wordsFrom_c {R : Ending → World → Prop} (d : Nat) (a : Option Addr) (n cap : Nat) (xss : List (List Int)) (x : Nat) (w : World) (hm : Mat w a n xss) (hg : Hd (GenSet (d : Int) xss)) (hx : x < d)
    (H : ∀ w', Below w.heap.size w w' → Wds w' w.heap.size none d (bfs d xss x) → R (.returned (.slice (some ⟨w.heap.size, 0, none⟩) d d)) w') :
    Calls Try.prog 115 #[.int .i64 d, .slice a n cap, .int .i64 x] w R := by
  have H' := Hd.i H; clear H
  have hln := Hd.i hm.length
  have hn8 : n ≤ 8 := by have := hg.o.2.2.1; have := hln.o; omega
  have hd20 : d ≤ 20 := by have := hg.o.2.1; omega
  have hgs := Hd.i (genSet_gens hg.o)
  have hxr := Hd.i (show 0 ≤ (x : Int) ∧ (x : Int) < d by omega)
  obtain ⟨w1, hmk, hs1, hb1, how1⟩ := make_own w 36 22 (.slice none 0 0) 24 Try.underlying36 infoSl rfl d (by omega) (by omega)
  obtain ⟨v0, hc0, hf0, _⟩ := (how1.alloc (.cells #[] 2)).at' hx
  have hs1' : w.heap.size < w1.heap.size := by have := hs1.o; omega
  have hbA := (hb1.alloc hb1.size (.cells #[] 2)).setCell (p := ⟨w.heap.size, x, none⟩) (Nat.le_refl _) (.slice (some ⟨w1.heap.size, 0, none⟩) 0 0)
  have hWA : Wds ((w1.alloc (.cells #[] 2)).setCell ⟨w.heap.size, x, none⟩ (.slice (some ⟨w1.heap.size, 0, none⟩) 0 0)) w.heap.size none d [((x : Int), [])] := by
    have h0 : Wds (w1.alloc (.cells #[] 2)) w.heap.size none d [] := ⟨List.replicate d (none, 0, 0), by have := how1.alloc (.cells #[] 2); rw [List.map_replicate]; exact this, fun y h e => by
      obtain ⟨_, e⟩ := List.getElem?_eq_some_iff.1 e
      simp at e
      exact ⟨fun _ => e.symm, fun ws e' => by cases e'⟩⟩
    exact h0.put (by simp [keys]) (by simp) ⟨OwnI.emptyLit w1 (Nat.le_of_lt hs1'), fun b ⟨off, s, e⟩ => ⟨by cases e; omega, fun ⟨_, _, e⟩ => by cases e⟩⟩
  generalize hwA : ((w1.alloc (.cells #[] 2)).setCell ⟨w.heap.size, x, none⟩ (.slice (some ⟨w1.heap.size, 0, none⟩) 0 0)) = wA at hbA hWA
  have hszA : Hd (w.heap.size + 2 = wA.heap.size) := by rw [← hwA, size_store]; have := hs1.o; show _ = _; simp; omega
  rw [World.setCell_alloc_past _ _ _ _ hs1'] at hwA
  replace hwA := Hd.i hwA
  go_enter Try.func115, Try.ntmps115
  go_wp2_with fail
  rw [hwA.o]
  clear hmk hb1 how1 hc0 hf0 hs1 hs1' hwA
  refine letters_c n _ hn8 ?_
  intro b2 m2 d2 w2 hb2 ho2
  have hm2 := Hd.i (show 2 * n = m2 by rw [← ho2.length, ltrs_length])
  have hmn : m2 ≤ 16 := by have := hm2.o; omega
  have hW2 := hWA.up hb2
  have hbw2 := below_ups hbA hb2 hbA.size
  have hg2 : w.heap.size < w2.heap.size := by have := hszA.o; have := hb2.size; omega
  have hms := (MatD.of_mat hm)
  have hlD : IntsD (fun b => b ≠ w.heap.size) w2 b2 m2 (ltrs (2 * n)) := .of_own ho2 (fun b hb => by have := hszA.o; omega)
  have hbo2 : m2 ≤ 281474976710656 := by omega
  clear hWA hb2 ho2 hbA
  go_wp2
  go_loopw [9, 27] (fun v i wr => ∃ (k : Nat) (c : Option Addr) (m capc : Nat), k ≤ m2 ∧ i = .int .i64 k ∧ v = .slice c m capc ∧ Outer wr w2.heap.size w.heap.size c m capc ((ltrs k).map (letP xss)) ∧ Below w2.heap.size w2 wr) (fun _ i _ => m2 - (intOf i).toNat)
  case atStart => exact ⟨0, none, 0, 0, Nat.zero_le _, rfl, rfl, Outer.nil _ _ _, Below.refl _ _⟩
  case round =>
    obtain ⟨k, c, m, capc, hk, rfl, rfl, ho, hb⟩ := hrel
    by_cases hlt : k < m2
    · obtain ⟨bl, offl, l, rfl, hbl, hcl, hll, hl1, hl2⟩ := (hlD.kept (w' := wr) (.of_below hb)).1.at hlt
      have hll2 := Hd.i (show l = ltr k by have := hll.o; rw [ltrs_get (by have := hm2.o; omega)] at this; exact (Option.some.inj this).symm)
      have hlet := Hd.i (show IsLet xss l by rw [hll2.o]; exact isLet_ltr (by have := hm2.o; have := hln.o; omega))
      obtain ⟨hs, o1, o2, o3⟩ := ho
      have hmk : m ≤ 16 := by rw [← o2]; simp [ltrs_length]; omega
      have hgm : MatD (fun b => b ≠ w.heap.size ∧ ¬ fpI c b) wr a n xss := ((hms.kept (w' := wr) (.of_below (hbw2.trans (hb.mono (Nat.le_of_lt hg2))))).mono fun b _ hd => ⟨by omega, fun ⟨off, s, e⟩ => by have := (o1.lt e).1; omega⟩)
      have hfr : ∀ b, wr.heap.size ≤ b → (b ≠ w.heap.size ∧ ¬ fpI c b) := fun b hbb => ⟨by have := hb.size; omega, fun ⟨off, s, e⟩ => by have := (o1.lt e).2; omega⟩
      have hfr2 := Hd.i hfr
      clear hfr
      have hsz := hb.size
      go_wp2_with fail
      refine letterD_c (fun b => b ≠ w.heap.size ∧ ¬ fpI c b) _ _ _ xss l _ hgm hfr2.o d hg hlet ?_
      intro a3 n3 c3 w3 hb3 hi3 hc3
      have o1' := o1.up hb3
      have o3' : ∀ (j : Nat) (h : Hdr) (xs : List Int), hs[j]? = some h → ((ltrs k).map (letP xss))[j]? = some xs → IntsD (fun b => b ≠ w.heap.size ∧ ¬ fpI c b) w3 h.1 h.2.1 xs ∧ h.2.1 ≤ h.2.2 := fun j h xs e e' => ⟨(o3 j h xs e e').1.kept (.of_below hb3), (o3 j h xs e e').2⟩
      replace o3' := Hd.i o3'
      have hb4 := below_ups hb hb3 hb.size
      have hsz3 := hb4.size
      have c1 : (m + 1) * 24 ≤ 140737488355328 := by omega
      have c2 : m + 1 ≤ 281474976710656 := by omega
      replace o2 := Hd.i o2
      clear o3 hb3 hb o1 hgm hcl
      go_wp2_with (at_builtin; refine appendL_c rfl _ _ _ rfl w2.heap.size 22 (.slice none 0 0) 24 Try.underlying36 infoSl rfl _ _ _ _ rfl o1' [.slice a3 n3 c3] 1 rfl rfl oneSlice c1 c2 hsz3 ?_; intro a4 n4 c4 w4 hn4 ho4 hg4 ha4)
      refine ⟨⟨k + 1, a4, n4, c4, by omega, by go_num, rfl, ?_, hb4.trans (hg4.below hsz3 fun b off s e => (o1'.lt e).1)⟩, by simp [intOf]; omega⟩
      rw [ltrs_succ, List.map_append, List.map_singleton, ← hll2.o]
      exact Outer.snoc o1' o2.o o3'.o hi3 hc3 hg4 ho4 ha4.o
    · obtain rfl : k = m2 := by omega
      obtain ⟨w5, rfl⟩ : ∃ w5, w5 = wr := ⟨wr, rfl⟩
      have hmk : m = k := by have := ho.length; rw [List.length_map, ltrs_length] at this; exact this.symm
      have hmD : MatD (fun b => b ≠ w.heap.size ∧ b < w5.heap.size) w5 c m ((ltrs k).map (letP xss)) := (ho.matD hg2).mono fun b hb hd => ⟨hd, hb⟩
      have hlD5 : IntsD (fun b => b ≠ w.heap.size ∧ b < w5.heap.size) w5 b2 k (ltrs (2 * n)) := (hlD.kept (.of_below hb)).mono fun b hb hd => ⟨hd, hb⟩
      have hW5 := (hW2.up hb).weak (q2 := some ⟨w5.heap.size, 0, none⟩) (fun b hb _ ⟨off, s, e⟩ => by cases e; omega)
      have hg5 : w.heap.size < w5.heap.size := Nat.lt_of_lt_of_le hg2 hb.size
      have hbw5 := below_ups hbw2 (hb.mono (Nat.le_refl _)) hbw2.size
      replace hmk := Hd.i hmk
      have hKD : ∀ wr, Grew (some ⟨w.heap.size, 0, none⟩) w5 wr → Kept (fun b => b ≠ w.heap.size ∧ b < w5.heap.size) w5 wr := fun wr h => .of_grew h fun b hb ⟨off, s, e⟩ => by cases e; exact hb.1 rfl
      replace hKD := Hd.i hKD
      have h5a : Grew (some ⟨w.heap.size, 0, none⟩) w5 (w5.alloc (.cells #[.int .i64 x] 2)) := Grew.of_below ((Below.refl _ _).alloc (Nat.le_refl _) _)
      have h5b : OwnQ (w5.alloc (.cells #[.int .i64 x] 2)) w5.heap.size 2 0 (some ⟨w5.heap.size, 0, none⟩) 1 1 ([(x : Int)].map (Value.int .i64)) := OwnQ.of_own (Own.lit w5 [.int .i64 x] _ (by simp) (Nat.le_refl _))
      have h5c := hW5.up ((Below.refl _ _).alloc (Nat.le_refl _) (.cells #[.int .i64 x] 2))
      clear hlD hW2 ho hb hbw2 hms hg2 hW5
      go_wp2
      go_loopg [12] d (fun gk v wr => ∃ (i : Nat) (qa : Option Addr) (qn qcap : Nat), Hd (gk + i = d) ∧ v = .slice qa qn qcap ∧ Hd (i ≤ (st xss x i).length) ∧ Hd (((keys (st xss x i)).drop i).length = qn) ∧ qn ≤ 20 ∧ QI wr w5.heap.size i qa qn qcap ((keys (st xss x i)).drop i) ∧ Wds wr w.heap.size qa d (st xss x i) ∧ Grew (some ⟨w.heap.size, 0, none⟩) w5 wr)
      case atStart => exact ⟨0, _, 1, 1, rfl, rfl, Nat.zero_le _, rfl, by omega, .inr h5b, h5c, h5a⟩
      case round =>
        clear h5a h5b h5c
        obtain ⟨i, qa, qn, qcap, hgk, rfl, hi, hql, hq20, hqi, hW, hgr⟩ := hrel
        by_cases hq0 : 0 < qn
        · obtain ⟨u, wu, hu⟩ : ∃ u wu, Hd ((st xss x i)[i]? = some (u, wu)) := by
            have h1 := hql.o
            rw [List.length_drop, keys_length] at h1
            exact ⟨_, _, List.getElem?_eq_getElem (by omega)⟩
          have hq1 : OwnQ wr w5.heap.size 2 i qa qn qcap (((keys (st xss x i)).drop i).map (Value.int .i64)) := by
            rcases hqi with h | h
            · omega
            · exact h
          clear hqi
          obtain ⟨wo, rfl⟩ : ∃ wo, wo = wr := ⟨wr, rfl⟩
          go_wp2
          go_loopw [12, 47] (fun v jv wr => ∃ (j : Nat) (qa : Option Addr) (qn qcap : Nat) (fw : FW), j ≤ k ∧ jv = .int .i64 j ∧ v = .slice qa qn qcap ∧ Hd (FwAt d xss x i u wu j fw) ∧ OwnQ wr w5.heap.size 2 i qa qn qcap (((keys fw).drop i).map (Value.int .i64)) ∧ Wds wr w.heap.size qa d fw ∧ Grew (some ⟨w.heap.size, 0, none⟩) w5 wr) (fun _ jv _ => k - (intOf jv).toNat)
          case atStart => exact ⟨0, qa, qn, qcap, st xss x i, Nat.zero_le _, rfl, rfl, fwAt hgs.o hxr.o hu.o (Nat.zero_le _), hq1, hW, hgr⟩
          case round =>
            clear hq1 hW hgr hql hq20 hq0 hi
            obtain ⟨j, qa, qn, qcap, fw, hj, rfl, rfl, hF, hq, hW, hgr⟩ := hrel
            by_cases hlt : j < k
            · obtain ⟨hu0, hscan, hok, hui, hur, hid, hlen⟩ := hF.o
              obtain ⟨bl, offl, l, rfl, hbl, hcl, hll, hl1, hl2⟩ := (hlD5.kept (hKD.o _ hgr)).1.at hlt
              obtain rfl : l = ltr j := by have := hll.o; rw [ltrs_get (by have := hm2.o; omega)] at this; exact (Option.some.inj this).symm
              obtain ⟨bm, offm, a3, n3, c3, p, rfl, hbm, hcm, hpm, hinp, _⟩ := (hmD.kept (hKD.o _ hgr)).at (k := j) (by rw [hmk.o]; exact hlt)
              have hpe : p = letP xss (ltr j) := by
                have := hpm.o
                rw [List.getElem?_map, ltrs_get (by have := hm2.o; omega)] at this
                exact (Option.some.inj this).symm
              have hlet := (letP_of hgs.o (isLet_ltr (xss := xss) (k := j) (by have := hm2.o; have := hln.o; omega))).1
              rw [← hpe] at hlet
              have hn3 : n3 = d := by rw [← hinp.1.length]; exact hlet.2
              obtain ⟨bz, offz, z, rfl, hbz, hcz, hpz, hz1, hz2⟩ := hinp.1.at (k := u.toNat) (by omega)
              have hze : z = at0 p u := (at0_of hpz.o).symm
              have hzr : 0 ≤ z ∧ z < d := by rw [hze]; have := hlet.1.at0_range hur.1 (by rw [hlet.2]; exact hur.2); rw [hlet.2] at this; exact this
              have hil : i < fw.length := (List.getElem?_eq_some_iff.1 hui).1
              have hqn : qn + i = fw.length := by have := hq.length; rw [List.length_map, List.length_drop, keys_length] at this; omega
              obtain ⟨gq, offq, v, rfl, hgq1, hgq2, hcq, hvq⟩ := hq.at (k := 0) (by omega)
              obtain rfl : v = .int .i64 u := by
                have := hvq.o
                rw [List.getElem?_map, List.getElem?_drop, Nat.add_zero, get_keys hui] at this
                exact (Option.some.inj this).symm
              simp only [Nat.add_zero] at hcq
              have hqn0 : 0 < qn := by omega
              have hun3 : u < n3 := by omega
              have hu0' := hur.1
              have hz0 := hzr.1
              have hzd := hzr.2
              have hud := hur.2
              have hmj : j < m := by rw [hmk.o]; exact hlt
              obtain ⟨wa, wn, wc, hcw, hfw, hwno, hwso⟩ := hW.at (y := z.toNat) (by omega)
              rw [show ((z.toNat : Nat) : Int) = z by omega] at hwno hwso
              have hnil := eqNil
              have hst := scan_succ xss u wu (st xss x i) j
              rw [← hscan] at hst
              replace hu0 := Hd.i hu0
              replace hscan := Hd.i hscan
              replace hok := Hd.i hok
              replace hui := Hd.i hui
              replace hpe := Hd.i hpe
              replace hze := Hd.i hze
              replace hn3 := Hd.i hn3
              replace hlet := Hd.i hlet
              replace hst := Hd.i hst
              replace hqn := Hd.i hqn
              clear hll hpm hpz hvq hgq2 hbz hbm hbl hinp hur hzr
              by_cases hmem : z ∈ keys fw
              · obtain ⟨ws, hws⟩ : ∃ ws, wordAt fw z = some ws := Option.isSome_iff_exists.1 ((wordAt_isSome hok.o.1 z).2 hmem)
                obtain ⟨ad, rfl⟩ : ∃ ad, wa = some ad := Option.ne_none_iff_exists'.1 (hwso.o ws hws).1
                have hnx : FwAt d xss x i u wu (j + 1) fw := by
                  have h := fwAt hgs.o hxr.o hu.o (j := j + 1) (by have := hm2.o; have := hln.o; omega)
                  have e : scan xss u wu (st xss x i) (j + 1) = fw := by rw [hst.o, scanStep, if_pos (by rw [← hpe.o, ← hze.o]; exact hmem)]
                  rwa [e] at h
                replace hws := Hd.i hws
                go_wp2
                go_quiet (fail)
                go_wp2
                exact ⟨⟨j + 1, _, qn, qcap, fw, by omega, by go_num, rfl, hnx, hq.drewN _, hW.drewN _, hgr.then_drew ((Drew.refl _).step nq)⟩, by simp [intOf]; omega⟩
              · obtain ⟨rfl, rfl, rfl⟩ : wa = none ∧ wn = 0 ∧ wc = 0 := by have := hwno.o (wordAt_none hmem); simpa using this
                obtain ⟨ua, un, uc, hcu, hfu, _, huso⟩ := hW.at (y := u.toNat) (by omega)
                rw [show ((u.toNat : Nat) : Int) = u by omega] at huso
                obtain ⟨hune, huo, huD⟩ := huso.o wu (wordAt_some hok.o.1 hui.o)
                obtain ⟨g6, rfl⟩ : ∃ g6, ua = some ⟨g6, 0, none⟩ := by
                  rcases huo.1.addr with ⟨h, _⟩ | ⟨g6, h, _⟩
                  · exact absurd h hune
                  · exact ⟨g6, h⟩
                have hun : un ≤ 20 := by have := huo.length; have := (hok.o.2.2 i u wu hui.o).1; omega
                have hnx : FwAt d xss x i u wu (j + 1) (fw ++ [(z, wu ++ [ltr j])]) := by
                  have h := fwAt hgs.o hxr.o hu.o (j := j + 1) (by have := hm2.o; have := hln.o; omega)
                  have e : scan xss u wu (st xss x i) (j + 1) = fw ++ [(z, wu ++ [ltr j])] := by rw [hst.o, scanStep, if_neg (by rw [← hpe.o, ← hze.o]; exact hmem), ← hpe.o, ← hze.o]
                  rwa [e] at h
                replace hnx := Hd.i hnx
                have hdr := (Drew.refl wr)
                clear huso hwso hwno hfu hune
                go_wp2
                go_quiet (fail)
                replace hdr := hdr.step nq
                replace hW := hW.drewN nq
                replace hq := hq.drewN nq
                replace hgr := hgr.then_drew hdr
                replace huo := huo.drewN nq
                replace hcw : (wr.drewN nq).cell? ⟨w.heap.size, z.toNat, none⟩ = some (.slice none 0 0) := hcw
                replace hcu : (wr.drewN nq).cell? ⟨w.heap.size, u.toNat, none⟩ = some (.slice (some ⟨g6, 0, none⟩) un uc) := hcu
                replace hcq : (wr.drewN nq).cell? ⟨gq, offq, none⟩ = some (.int .i64 u) := hcq
                clear hdr hcl hcm hcz hfw
                generalize wr.drewN nq = wq at *
                go_wp2_with fail
                refine clone_c g6 0 un uc wu _ huo.ints (by omega) ?_
                intro g7 n7 c7 w7 hb7 ho7
                have hn7 : n7 ≤ 20 := by rw [← ho7.length, huo.length]; exact hun
                have c1 : (n7 + 1) * 8 ≤ 140737488355328 := by omega
                have c2 : n7 + 1 ≤ 281474976710656 := by omega
                have hs7 := hb7.size
                have hzd' : z.toNat < d := by omega
                have c3 : (qn + 1) * 8 ≤ 140737488355328 := by have := hqn.o; omega
                have c4 : qn + 1 ≤ 281474976710656 := by have := hqn.o; omega
                have c5 : (i + qn + 1) * 8 ≤ 140737488355328 := by have := hqn.o; omega
                have c6 : i + qn + 1 ≤ 281474976710656 := by have := hqn.o; omega
                have hs5 := Hd.i hgr.size
                have hW7 := Hd.i (fun (w8 : World) (h : Below wq.heap.size wq w8) => (hW.up h).at hzd')
                clear hcw hcu huo
                go_wp2_with (first | (at_builtin; refine appendL_c rfl _ _ _ rfl wq.heap.size 2 (.int .i64 0) 8 Try.underlying22 infoInt rfl _ _ _ _ rfl ho7.1 [.int .i64 (ltr j)] 1 rfl rfl oneInt c1 c2 hs7 ?_; intro a8 n8 c8 w8 hn8 ho8 hg8 ha8; have hb8 := ho7.grewBelow hg8 hb7 hs7; obtain ⟨x1, x2, x3, hcw8, hfw8, _, _⟩ := hW7.o w8 hb8; have hq9 := (hq.up hb8).store_other hg5 z.toNat (.slice a8 n8 c8); have hsz9 := Hd.i (size_store w8 ⟨w.heap.size, z.toNat, none⟩ (.slice a8 n8 c8)); have hB9 : w5.heap.size ≤ (w8.setCell ⟨w.heap.size, z.toNat, none⟩ (.slice a8 n8 c8)).heap.size := by rw [hsz9.o]; exact Nat.le_trans hs5.o hb8.size) | (at_builtin; refine appendQ_c rfl _ _ _ rfl w5.heap.size i 2 (.int .i64 0) 8 Try.underlying22 infoInt rfl _ _ _ _ rfl hq9 [.int .i64 z] 1 _ rfl hsz9.o.symm rfl (by omega) oneInt c3 c4 c5 c6 hB9 ?_; intro a10 n10 c10 w10 hn10 hq10 hg10 ha10))
                have hgw : w.heap.size < wq.heap.size := Nat.lt_of_lt_of_le hg5 hs5.o
                have ho8' : OwnI w8 wq.heap.size a8 n8 c8 (wu ++ [ltr j]) := OwnI.snoc ho8 ho7.2 hl1 hl2
                have hgqw : gq < wq.heap.size := (hq.lt rfl).2
                have hW9 := (hW.up hb8).put (y := z.toNat) (by rw [show ((z.toNat : Nat) : Int) = z by omega]; exact hmem) (a := a8) (n := n8) (c := c8) (ws := wu ++ [ltr j]) (by rcases ha8.o with e | e <;> rw [e] <;> simp) ⟨ho8'.mono (Nat.le_of_lt hgw), fun b e => ⟨by have := ho8'.fp_ge b e; omega, fun ⟨off, s, e2⟩ => by cases e2; have := ho8'.fp_ge _ e; omega⟩⟩
                rw [show ((z.toNat : Nat) : Int) = z by omega] at hW9
                have hW10 := hW9.queue (j := 1) hg10 (fun ⟨off, s, e⟩ => by cases e; omega) (by rw [hsz9.o]; exact ha10.o)
                have hgr10 : Grew (some ⟨w.heap.size, 0, none⟩) w5 w10 := ((hgr.then_below hb8 hs5.o).then_store z.toNat (.slice a8 n8 c8)).then_below (hg10.below hB9 (fun b off s e => by cases e; exact hgq1)) (Nat.le_refl _)
                refine ⟨⟨j + 1, a10, n10, c10, _, by omega, by go_num, rfl, hnx.o, ?_, hW10, hgr10⟩, by simp [intOf]; omega⟩
                rw [keys_snoc, drop_snoc (by rw [keys_length]; omega), List.map_append]
                exact hq10
            · obtain rfl : j = k := by omega
              obtain ⟨hu0, hscan, hok, hui, hur, hid, hlen⟩ := hF.o
              have hil : i < fw.length := (List.getElem?_eq_some_iff.1 hui).1
              have hqn : qn + i = fw.length := by have := hq.length; rw [List.length_map, List.length_drop, keys_length] at this; omega
              have hqn1 : 1 ≤ qn := by omega
              have hqc := hq.le
              replace hu0 := Hd.i hu0
              replace hscan := Hd.i hscan
              replace hok := Hd.i hok
              replace hui := Hd.i hui
              replace hqn := Hd.i hqn
              obtain ⟨gq, offq, v, rfl, hgq1, hgq2, hcq, hvq⟩ := hq.at (k := 0) (by omega)
              have hst' : fw = st xss x (i + 1) := by
                have h1 := hscan.o
                rw [← hm2.o, ← hln.o, ← st_some hu0.o] at h1
                exact h1
              have hdr : (keys fw).drop i = u :: (keys fw).drop (i + 1) := drop_some (get_keys hui.o)
              have hgr' := hgr
              clear hcq hvq hgq2 hgr
              by_cases hcap : qcap = 1
              · subst hcap
                have hqn2 : qn = 1 := by omega
                subst hqn2
                have hl1 := hq.length
                rw [hdr] at hl1
                simp at hl1
                rw [hst'] at hW hl1
                replace hst' := Hd.i hst'
                replace hdr := Hd.i hdr
                replace hl1 := Hd.i hl1
                go_wp2
                go_roundg (gk - 1)
                case measure => have := hgk.o; omega
                case rel =>
                  refine ⟨i + 1, _, 0, 0, by have := hgk.o; show _ = _; omega, rfl, ?_, ?_, by omega, .inl rfl, hW, hgr'⟩
                  · rw [← hst'.o]; exact hil
                  · have := hl1.o; show _ = _; rw [List.length_drop, keys_length, ← hst'.o]; have := hqn.o; omega
              · rw [hdr] at hq
                have hpop := hq.pop
                have hW' := hW.weak (q2 := some ⟨gq, offq + 1, none⟩) (fun b _ h ⟨off, s, e⟩ => h ⟨offq, none, by cases e; rfl⟩)
                rw [hst'] at hW' hpop
                replace hst' := Hd.i hst'
                replace hdr := Hd.i hdr
                go_wp2
                go_roundg (gk - 1)
                case measure => have := hgk.o; omega
                case rel =>
                  refine ⟨i + 1, _, qn - 1, qcap - 1, by have := hgk.o; show _ = _; omega, rfl, ?_, ?_, by have := hqn.o; omega, .inr hpop, hW', hgr'⟩
                  · rw [← hst'.o]; exact hil
                  · show _ = _; rw [List.length_drop, keys_length, ← hst'.o]; have := hqn.o; omega
        · have hq00 : qn = 0 := by omega
          subst hq00
          have hfin : st xss x i = bfs d xss x := bfs_of hgs.o hxr.o (by have := hql.o; rw [List.length_drop, keys_length] at this; omega)
          rw [hfin] at hW
          replace hfin := Hd.i hfin
          have hW9 := hW.weak (q2 := none) (fun b _ _ ⟨off, s, e⟩ => by cases e)
          have hb9 := hbw5.trans (hgr.below (Nat.le_of_lt hg5) (fun b off s e => by cases e; exact Nat.le_refl _))
          clear hW hgr
          go_wp2
          exact H'.o _ hb9 hW9
end Go.Proofs.Ytkojonjcikgikaa
