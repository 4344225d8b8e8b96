/- Minimal block systems: the program's merge. -/
import Derived.Test.YtkojonjcikgikaaMinT
import Derived.Test.YtkojonjcikgikaaRegA
namespace Go.Proofs.Ytkojonjcikgikaa
open Go.RowKit

def mn (a b : Int) : Int := if a ≤ b then a else b
def mx (a b : Int) : Int := if a ≤ b then b else a

set_option maxHeartbeats 4000000 in
theorem implMergeLt_c {K : Ending → World → Prop} (B g n cap : Nat) (L : List Int) (a b lo hi : Int) (w : World) (ho : OwnI w B (some ⟨g, 0, none⟩) n cap L) (hlo : -9223372036854775808 ≤ lo ∧ lo ≤ 9223372036854775807) (hne : (a == b) = false)
    (hmax : (lo = a ∧ hi = b ∧ a < b) ∨ (lo = b ∧ hi = a ∧ b < a))
    (H : ∀ w', Wrote (some ⟨g, 0, none⟩) w w' → OwnI w' B (some ⟨g, 0, none⟩) n cap (mrg L lo hi) → K (.returned (.bool true)) w') :
    Calls Try.prog 103 #[.slice (some ⟨g, 0, none⟩) n cap, .int .i64 a, .int .i64 b] w K := by
  have H' := Hd.i H; clear H
  have hln := Hd.i ho.length
  have hn := ho.le
  rcases hmax with ⟨rfl, rfl, hab⟩ | ⟨rfl, rfl, hab⟩
  all_goals
    have hab2 : ¬ (hi < lo) := by omega
    go_enter Try.func103, Try.ntmps103
    go_wp2
    go_loopw [13] (fun iv wr => ∃ k : Nat, k ≤ n ∧ iv = .int .i64 k ∧ OwnI wr B (some ⟨g, 0, none⟩) n cap ((mrg L lo hi).take k ++ L.drop k) ∧ Wrote (some ⟨g, 0, none⟩) w wr) (fun iv _ => n - (intOf iv).toNat)
    case atStart => exact ⟨0, Nat.zero_le _, rfl, by simpa using ho, Wrote.refl _ _⟩
    case round =>
      clear ho
      obtain ⟨k, hk, rfl, ho, hw⟩ := hrel
      by_cases hlt : k < n
      · obtain ⟨v, hc, hf, hv, hv1, hv2⟩ := ho.at' hlt
        obtain ⟨u, hu⟩ : ∃ u, L[k]? = some u := ⟨_, List.getElem?_eq_getElem (by have := hln.o; omega)⟩
        have he : v = u := by
          have h2 := half_get (M := (mrg L lo hi).take k) (by rw [List.length_take, mrg_length]; have := hln.o; omega) hu
          rw [hv.o] at h2; exact Option.some.inj h2
        subst he
        by_cases hvb : v = hi
        · have ho2 := ho.put (k := k) (x := lo) hlo.1 hlo.2
          have e2 := mrg_put (a := lo) (b := hi) hu
          rw [if_pos hvb] at e2
          rw [e2] at ho2
          subst hvb
          replace e2 := Hd.i e2
          replace hu := Hd.i hu
          have hw2 := hw.store rfl k (.int .i64 lo)
          go_wp2
          exact ⟨⟨k + 1, by omega, by go_num, ho2, hw2⟩, by simp [intOf]; omega⟩
        · rw [mrg_same hu hvb] at ho
          have hbe : (v == hi) = false := by simpa using hvb
          replace hvb := Hd.i hvb
          replace hu := Hd.i hu
          go_wp2
          exact ⟨⟨k + 1, by omega, by go_num, ho, hw⟩, by simp [intOf]; omega⟩
      · obtain rfl : k = n := by omega
        rw [List.take_of_length_le (by rw [mrg_length]; have := hln.o; omega), List.drop_of_length_le (by have := hln.o; omega), List.append_nil] at ho
        go_wp2
        exact H'.o _ hw ho
theorem implMerge_c {K : Ending → World → Prop} (B g n cap : Nat) (L : List Int) (a b : Int) (w : World) (ho : OwnI w B (some ⟨g, 0, none⟩) n cap L) (ha : -9223372036854775808 ≤ a ∧ a ≤ 9223372036854775807) (hb : -9223372036854775808 ≤ b ∧ b ≤ 9223372036854775807)
    (H : ∀ w', Wrote (some ⟨g, 0, none⟩) w w' → OwnI w' B (some ⟨g, 0, none⟩) n cap (mrg L (mn a b) (mx a b)) → K (.returned (.bool (a != b))) w') :
    Calls Try.prog 103 #[.slice (some ⟨g, 0, none⟩) n cap, .int .i64 a, .int .i64 b] w K := by
  by_cases hab : a = b
  · subst hab
    have e : mrg L (mn a a) (mx a a) = L := by unfold mn mx; rw [if_pos (Int.le_refl a)]; exact mrg_self L a
    have H2 := Hd.i (H w (Wrote.refl _ _) (by rw [e]; exact ho))
    clear H e
    go_enter Try.func103, Try.ntmps103
    go_wp2
    exact retB H2 (by simp)
  · have hne : (a == b) = false := by simpa using hab
    have hn2 : (a != b) = true := by simpa using hab
    rw [hn2] at H
    by_cases hlt : a < b
    · refine implMergeLt_c B g n cap L a b (mn a b) (mx a b) w ho (by unfold mn; rw [if_pos (by omega)]; exact ha) hne (.inl ⟨by unfold mn; rw [if_pos (by omega)], by unfold mx; rw [if_pos (by omega)], hlt⟩) H
    · refine implMergeLt_c B g n cap L a b (mn a b) (mx a b) w ho (by unfold mn; rw [if_neg (by omega)]; exact hb) hne (.inr ⟨by unfold mn; rw [if_neg (by omega)], by unfold mx; rw [if_neg (by omega)], by omega⟩) H
end Go.Proofs.Ytkojonjcikgikaa
