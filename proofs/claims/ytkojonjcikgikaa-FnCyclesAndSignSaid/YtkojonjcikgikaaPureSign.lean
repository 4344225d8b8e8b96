/- The sign of a composition is the product of the signs: by the pairs that stand the wrong way round; no program in sight. -/
import Derived.Test.YtkojonjcikgikaaPureOrder
import Derived.Test.YtkojonjcikgikaaPureChain2
namespace Go.Proofs.Ytkojonjcikgikaa

/-- How two numbers stand. -/
def sg (x y : Int) : Int := if x < y then 1 else if y < x then -1 else 0
theorem sg_anti (x y : Int) : sg y x = - sg x y := by unfold sg; split <;> split <;> (try split) <;> omega
theorem sg_sq {x y : Int} (h : x ≠ y) : sg x y * sg x y = 1 := by unfold sg; split <;> (try split) <;> first | rfl | omega
/-- A product over a list; over the pairs of a list. -/
def prL (f : Int → Int) : List Int → Int
  | [] => 1
  | a :: l => f a * prL f l
def pp (f : Int → Int → Int) : List Int → Int
  | [] => 1
  | a :: l => prL (f a) l * pp f l
theorem prL_congr {f g : Int → Int} : ∀ {l : List Int}, (∀ x ∈ l, f x = g x) → prL f l = prL g l
  | [], _ => rfl
  | a :: l, h => by
    show f a * prL f l = g a * prL g l
    rw [h a List.mem_cons_self, prL_congr fun x hx => h x (List.mem_cons_of_mem _ hx)]
theorem prL_one : ∀ {f : Int → Int} {l : List Int}, (∀ x ∈ l, f x = 1) → prL f l = 1
  | _, [], _ => rfl
  | f, a :: l, h => by
    show f a * prL f l = 1
    rw [h a List.mem_cons_self, prL_one fun x hx => h x (List.mem_cons_of_mem _ hx)]; rfl
theorem prL_mul (f g : Int → Int) : ∀ l : List Int, prL (fun x => f x * g x) l = prL f l * prL g l
  | [] => rfl
  | a :: l => by
    show f a * g a * prL (fun x => f x * g x) l = f a * prL f l * (g a * prL g l)
    rw [prL_mul f g l]
    simp only [Int.mul_assoc, Int.mul_left_comm]
theorem prL_perm {f : Int → Int} {l l' : List Int} (h : l.Perm l') : prL f l = prL f l' := by
  induction h with
  | nil => rfl
  | cons a _ ih => show f a * _ = f a * _; rw [ih]
  | swap a b l => show f b * (f a * prL f l) = f a * (f b * prL f l); exact Int.mul_left_comm _ _ _
  | trans _ _ ih1 ih2 => exact ih1.trans ih2
theorem prL_map (f : Int → Int) (h : Int → Int) : ∀ l : List Int, prL f (l.map h) = prL (fun x => f (h x)) l
  | [] => rfl
  | a :: l => by show f (h a) * prL f (l.map h) = _; rw [prL_map f h l]; rfl
theorem pp_perm {f : Int → Int → Int} (hs : ∀ x y, f x y = f y x) {l l' : List Int} (h : l.Perm l') : pp f l = pp f l' := by
  induction h with
  | nil => rfl
  | cons a hp ih => show prL (f a) _ * _ = prL (f a) _ * _; rw [ih, prL_perm hp]
  | swap a b l =>
    show f b a * prL (f b) l * (prL (f a) l * pp f l) = f a b * prL (f a) l * (prL (f b) l * pp f l)
    rw [hs b a]
    simp only [Int.mul_assoc, Int.mul_left_comm]
  | trans _ _ ih1 ih2 => exact ih1.trans ih2
theorem pp_mul (f g : Int → Int → Int) : ∀ l : List Int, pp (fun x y => f x y * g x y) l = pp f l * pp g l
  | [] => rfl
  | a :: l => by
    show prL (fun y => f a y * g a y) l * pp (fun x y => f x y * g x y) l = prL (f a) l * pp f l * (prL (g a) l * pp g l)
    rw [prL_mul, pp_mul f g l]
    simp only [Int.mul_assoc, Int.mul_left_comm]
theorem pp_congr {f g : Int → Int → Int} : ∀ {l : List Int}, l.Nodup → (∀ x ∈ l, ∀ y ∈ l, x ≠ y → f x y = g x y) → pp f l = pp g l
  | [], _, _ => rfl
  | a :: l, hn, h => by
    rw [List.nodup_cons] at hn
    show prL (f a) l * pp f l = prL (g a) l * pp g l
    rw [pp_congr hn.2 fun x hx y hy => h x (List.mem_cons_of_mem _ hx) y (List.mem_cons_of_mem _ hy), prL_congr fun y hy => h a List.mem_cons_self y (List.mem_cons_of_mem _ hy) fun e => hn.1 (e ▸ hy)]
theorem pp_one : ∀ {f : Int → Int → Int} {l : List Int}, l.Pairwise (fun x y => f x y = 1) → pp f l = 1
  | _, [], _ => rfl
  | f, a :: l, h => by
    rw [List.pairwise_cons] at h
    show prL (f a) l * pp f l = 1
    rw [prL_one h.1, pp_one h.2]; rfl
theorem pp_map (f : Int → Int → Int) (h : Int → Int) : ∀ l : List Int, pp f (l.map h) = pp (fun x y => f (h x) (h y)) l
  | [] => rfl
  | a :: l => by
    show prL (f (h a)) (l.map h) * pp f (l.map h) = _
    rw [prL_map, pp_map f h l]; rfl
/-- The sign by the pairs. -/
def eps (p : List Int) : Int := pp sg p
theorem idl_inc (n : Nat) : (idl n).Pairwise (· < ·) := by
  rw [List.pairwise_iff_getElem]
  intro i j hi hj hij
  simp only [idl, List.getElem_map, List.getElem_range]
  omega
theorem eps_idl (n : Nat) : eps (idl n) = 1 := pp_one ((idl_inc n).imp fun h => by unfold sg; rw [if_pos h])
theorem perm_idl {p : List Int} (hp : IsPerm p) : p.Perm (idl p.length) := (List.perm_ext_iff_of_nodup hp.2.2.2 (idl_nodup _)).2 fun x =>
  ⟨fun hx => mem_idl.2 (hp.range x hx), fun hx => by
    obtain ⟨i, hi⟩ := hp.surj (mem_idl.1 hx).1 (mem_idl.1 hx).2
    exact List.mem_of_getElem? hi⟩
/-- How a map of points turns two of them round. -/
def trn (t : Int → Int) (x y : Int) : Int := sg (t x) (t y) * sg x y
theorem trn_symm (t : Int → Int) (x y : Int) : trn t x y = trn t y x := by
  unfold trn
  rw [sg_anti (t x) (t y), sg_anti x y, Int.neg_mul_neg]
theorem eps_map {p : List Int} (hp : IsPerm p) (t : Int → Int) : eps (p.map t) = pp (trn t) (idl p.length) * eps p := by
  unfold eps
  rw [pp_map, pp_congr (g := fun x y => trn t x y * sg x y) hp.2.2.2 fun x _ y _ hne => by
    show sg (t x) (t y) = sg (t x) (t y) * sg x y * sg x y
    rw [Int.mul_assoc, sg_sq hne, Int.mul_one], pp_mul, pp_perm (trn_symm t) (perm_idl hp)]
theorem eps_comp {p q : List Int} (h : PermPair p q) : eps (comp p q) = eps p * eps q := by
  have e : eps q = pp (trn (at0 q)) (idl p.length) := by
    have h1 := eps_map (p := idl p.length) (isPerm_idl' h.2.1.1 h.2.1.2.1) (at0 q)
    have h2 : (idl p.length).map (at0 q) = q := idl_comp h.1.symm
    rw [h2, eps_idl, Int.mul_one, idl_length] at h1
    exact h1
  unfold comp
  rw [eps_map h.2.1, e, Int.mul_comm]
/-- Two points change places. -/
def swp (a b z : Int) : Int := if z = a then b else if z = b then a else z
theorem pp_swp {n : Nat} {a b : Int} (ha : 0 ≤ a ∧ a < n) (hb : 0 ≤ b ∧ b < n) (hne : a ≠ b) : pp (trn (swp a b)) (idl n) = -1 := by
  have hn := idl_nodup n
  have h1 := List.perm_cons_erase (mem_idl.2 ha)
  have hb2 : b ∈ (idl n).erase a := (hn.mem_erase_iff).2 ⟨fun e => hne e.symm, mem_idl.2 hb⟩
  have h2 := List.perm_cons_erase hb2
  have hr : ∀ z ∈ ((idl n).erase a).erase b, z ≠ a ∧ z ≠ b := fun z hz => by
    have e1 := ((hn.erase a).mem_erase_iff).1 hz
    have e2 := (hn.mem_erase_iff).1 e1.2
    exact ⟨e2.1, e1.1⟩
  have hnr : (((idl n).erase a).erase b).Nodup := (hn.erase a).erase b
  rw [pp_perm (trn_symm _) (h1.trans (h2.cons a))]
  generalize ((idl n).erase a).erase b = l at hr hnr
  show trn (swp a b) a b * prL (trn (swp a b) a) l * (prL (trn (swp a b) b) l * pp (trn (swp a b)) l) = -1
  have ea : swp a b a = b := by simp [swp]
  have eb : swp a b b = a := by unfold swp; rw [if_neg (fun e => hne e.symm), if_pos rfl]
  have ez : ∀ z ∈ l, swp a b z = z := fun z hz => by unfold swp; rw [if_neg (hr z hz).1, if_neg (hr z hz).2]
  have t1 : trn (swp a b) a b = -1 := by
    unfold trn
    rw [ea, eb, sg_anti a b, Int.neg_mul, sg_sq hne]
  have t2 : prL (trn (swp a b) a) l * prL (trn (swp a b) b) l = 1 := by
    rw [← prL_mul]
    refine prL_one fun z hz => ?_
    show sg (swp a b a) (swp a b z) * sg a z * (sg (swp a b b) (swp a b z) * sg b z) = 1
    rw [ea, eb, ez z hz]
    have k1 := sg_sq (x := a) (y := z) fun e => (hr z hz).1 e.symm
    have k2 := sg_sq (x := b) (y := z) fun e => (hr z hz).2 e.symm
    have : sg b z * sg a z * (sg a z * sg b z) = (sg a z * sg a z) * (sg b z * sg b z) := by simp only [Int.mul_assoc, Int.mul_left_comm, Int.mul_comm]
    rw [this, k1, k2]; rfl
  have t3 : pp (trn (swp a b)) l = 1 := by
    refine pp_one ?_
    refine List.Pairwise.imp_of_mem (R := fun x y => x ≠ y) (fun {x y} hx hy hxy => ?_) hnr
    unfold trn
    rw [ez x hx, ez y hy, sg_sq hxy]
  rw [t1, t3, Int.mul_one, Int.mul_assoc, t2]; rfl

/-- A point is taken out of its cycle. -/
def cut (p : List Int) (x : Int) : List Int := p.map (swp x (at0 p x))
section
variable {p : List Int} {x : Int}
theorem cut_length (p : List Int) (x : Int) : (cut p x).length = p.length := by simp [cut]
theorem cut_at {y : Int} (h0 : 0 ≤ y) (hy : y < p.length) : at0 (cut p x) y = swp x (at0 p x) (at0 p y) := by
  apply at0_of
  unfold cut
  rw [List.getElem?_map]
  have : y.toNat < p.length := by omega
  unfold at0
  rw [List.getElem?_eq_getElem this]; rfl
theorem swp_inj (a b : Int) {y z : Int} (h : swp a b y = swp a b z) : y = z := by unfold swp at h; split at h <;> split at h <;> (try split at h) <;> (try split at h) <;> omega
theorem isPerm_cut (hp : IsPerm p) (hx : 0 ≤ x ∧ x < p.length) : IsPerm (cut p x) := by
  have hr := hp.at0_range hx.1 hx.2
  refine ⟨by rw [cut_length]; exact hp.1, by rw [cut_length]; exact hp.2.1, fun y hy => ?_, ?_⟩
  · rw [cut_length]
    unfold cut at hy
    obtain ⟨z, hz, rfl⟩ := List.mem_map.1 hy
    have := hp.range z hz
    unfold swp
    split
    · exact hr
    · split
      · exact hx
      · exact this
  · unfold cut
    unfold List.Nodup
    rw [List.pairwise_map]
    exact hp.2.2.2.imp fun hne e => hne (swp_inj _ _ e)
theorem cut_self (hx : 0 ≤ x ∧ x < p.length) : at0 (cut p x) x = x := by
  rw [cut_at hx.1 hx.2]
  unfold swp
  split
  · assumption
  · rw [if_pos rfl]
theorem cut_other (hp : IsPerm p) (hx : 0 ≤ x ∧ x < p.length) {y : Int} (hy : 0 ≤ y ∧ y < p.length) (hne : y ≠ x) : at0 (cut p x) y = if at0 p y = x then at0 p x else at0 p y := by
  rw [cut_at hy.1 hy.2]
  unfold swp
  have : at0 p y ≠ at0 p x := fun e => hne (at0_inj hp hy hx e)
  rw [if_neg this]
theorem cut_fwd (hp : IsPerm p) (hx : 0 ≤ x ∧ x < p.length) (hm : at0 p x ≠ x) {y : Int} (hy : 0 ≤ y ∧ y < p.length) (hne : y ≠ x) : ∀ j, it (cut p x) j y ≠ x ∧ ∃ k, it p k y = it (cut p x) j y
  | 0 => ⟨hne, 0, rfl⟩
  | j + 1 => by
    obtain ⟨h1, k, hk⟩ := cut_fwd hp hx hm hy hne j
    have hr := it_range hp hy.1 hy.2 k
    rw [hk] at hr
    rw [it_succ, cut_other hp hx hr h1]
    split
    · rename_i e
      exact ⟨hm, k + 2, by rw [it_succ, it_succ, hk, e]⟩
    · rename_i e
      exact ⟨e, k + 1, by rw [it_succ, hk]⟩
theorem it_first (p : List Int) (m : Nat) (y : Int) : it p (m + 1) y = it p m (at0 p y) := by rw [it_add]; rfl
theorem cut_back (hp : IsPerm p) (hx : 0 ≤ x ∧ x < p.length) (hm : at0 p x ≠ x) {z : Int} (hz : z ≠ x) : ∀ (n j : Nat), j ≤ n → ∀ y : Int, (0 ≤ y ∧ y < p.length) → y ≠ x → it p j y = z → ∃ k, it (cut p x) k y = z := by
  intro n
  induction n with
  | zero =>
    intro j hj y hy hne e
    obtain rfl : j = 0 := by omega
    exact ⟨0, e⟩
  | succ n ih =>
    intro j hj y hy hne e
    cases j with
    | zero => exact ⟨0, e⟩
    | succ m =>
      rw [it_first] at e
      have hr := hp.at0_range hy.1 hy.2
      by_cases hyx : at0 p y = x
      · cases m with
        | zero => exact absurd (e.symm.trans hyx) hz
        | succ m =>
          rw [hyx, it_first] at e
          obtain ⟨k, hk⟩ := ih m (by omega) (at0 p x) (hp.at0_range hx.1 hx.2) hm e
          exact ⟨k + 1, by rw [it_first, cut_other hp hx hy hne, if_pos hyx]; exact hk⟩
      · obtain ⟨k, hk⟩ := ih m (by omega) (at0 p y) hr hyx e
        exact ⟨k + 1, by rw [it_first, cut_other hp hx hy hne, if_neg hyx]; exact hk⟩
theorem cut_lead (hp : IsPerm p) (hx : 0 ≤ x ∧ x < p.length) (hm : at0 p x ≠ x) (hl : ¬ Lead p x) {y : Int} (hy : 0 ≤ y ∧ y < p.length) : Lead (cut p x) y ↔ Lead p y ∨ y = x := by
  have hc := isPerm_cut hp hx
  have hyc : 0 ≤ y ∧ y < (cut p x).length := by rw [cut_length]; exact hy
  by_cases hyx : y = x
  · subst hyx
    refine ⟨fun _ => .inr rfl, fun _ z hz => ?_⟩
    obtain ⟨j, hj⟩ := (mem_cyc hc hyc).1 hz
    have : ∀ j, it (cut p y) j y = y := by
      intro j
      induction j with
      | zero => rfl
      | succ j ih => rw [it_succ, ih, cut_self hy]
    rw [this] at hj; omega
  · have hcl : Lead (cut p x) y ↔ ∀ z ∈ cyc p y, z ≠ x → y ≤ z := by
      constructor
      · intro h z hz hzx
        obtain ⟨j, hj⟩ := (mem_cyc hp hy).1 hz
        obtain ⟨k, hk⟩ := cut_back hp hx hm hzx j j (Nat.le_refl _) y hy hyx hj
        exact h z ((mem_cyc hc hyc).2 ⟨k, hk⟩)
      · intro h z hz
        obtain ⟨j, hj⟩ := (mem_cyc hc hyc).1 hz
        obtain ⟨h1, k, hk⟩ := cut_fwd hp hx hm hy hyx j
        rw [hj] at h1 hk
        exact h z ((mem_cyc hp hy).2 ⟨k, hk⟩) h1
    rw [hcl]
    constructor
    · intro h
      left
      intro z hz
      by_cases hzx : z = x
      · subst hzx
        obtain ⟨l, hl1, hl2⟩ := has_lead hp hx
        have hlx : l ≠ z := fun e => hl (e ▸ hl2)
        have hly : l ∈ cyc p y := mem_cyc_trans hp hy hz hl1
        have hlr := mem_cyc_range hp hx hl1
        have h1 := h l hly hlx
        have h2 := hl2 z (mem_cyc_symm hp hx hl1)
        omega
      · exact h z hz hzx
    · rintro (h | h)
      · exact fun z hz _ => h z hz
      · exact absurd h hyx
end
/-- The points that are moved; the cycles. -/
def mvd (p : List Int) : Nat := ((idl p.length).filter fun x => decide (at0 p x ≠ x)).length
theorem allC_count (p : List Int) : (allC p).length = ((idl p.length).filter fun x => decide (Lead p x)).length := by unfold allC; rw [List.length_map]
theorem filter_or {P Q : Int → Bool} {x : Int} : ∀ {l : List Int}, l.Nodup → x ∈ l → P x = false → (∀ y ∈ l, Q y = (P y || decide (y = x))) → (l.filter Q).length = (l.filter P).length + 1
  | [], _, hx, _, _ => by simp at hx
  | a :: l, hn, hx, hp, h => by
    rw [List.nodup_cons] at hn
    have ha := h a List.mem_cons_self
    by_cases e : a = x
    · subst e
      have hl : l.filter Q = l.filter P := List.filter_congr fun y hy => by
        rw [h y (List.mem_cons_of_mem _ hy)]
        have : y ≠ a := fun e => hn.1 (e ▸ hy)
        simp [this]
      rw [List.filter_cons_of_pos (by rw [ha]; simp), List.filter_cons_of_neg (by simp [hp]), hl]; rfl
    · have ih := filter_or hn.2 (by rcases List.mem_cons.1 hx with h | h; exact absurd h.symm e; exact h) hp fun y hy => h y (List.mem_cons_of_mem _ hy)
      have hq : Q a = P a := by rw [ha]; simp [e]
      cases hpa : P a with
      | true => rw [List.filter_cons_of_pos (by rw [hq, hpa]), List.filter_cons_of_pos hpa, List.length_cons, List.length_cons, ih]
      | false => rw [List.filter_cons_of_neg (by rw [hq, hpa]; simp), List.filter_cons_of_neg (by rw [hpa]; simp), ih]
theorem eps_cycles : ∀ (m : Nat) (p : List Int), mvd p ≤ m → IsPerm p → (allC p).length ≤ p.length ∧ eps p = if (p.length - (allC p).length) % 2 = 1 then -1 else 1 := by
  intro m
  induction m with
  | zero =>
    intro p hm hp
    have hfix : ∀ x : Int, 0 ≤ x → x < p.length → at0 p x = x := fun x h0 hx => by
      apply Classical.byContradiction
      intro hne
      have hmem : x ∈ (idl p.length).filter fun x => decide (at0 p x ≠ x) := List.mem_filter.2 ⟨mem_idl.2 ⟨h0, hx⟩, by simpa using hne⟩
      have := List.length_pos_of_mem hmem
      unfold mvd at hm
      omega
    have e : p = idl p.length := list_ext_idl rfl fun i hi => by
      have := hfix i (by omega) (by omega)
      have g := hp.get (x := (i : Int)) (by omega) (by omega)
      rw [this, Int.toNat_natCast] at g
      exact g
    have hl : (allC p).length = p.length := by
      rw [allC_count, List.filter_eq_self.2 fun x hx => ?_, idl_length]
      have hx := mem_idl.1 hx
      refine decide_eq_true fun y hy => ?_
      obtain ⟨j, hj⟩ := (mem_cyc hp hx).1 hy
      have : ∀ j, it p j x = x := by
        intro j
        induction j with
        | zero => rfl
        | succ j ih => rw [it_succ, ih, hfix x hx.1 hx.2]
      rw [this] at hj; omega
    refine ⟨by omega, ?_⟩
    rw [hl, Nat.sub_self, e, eps_idl]; rfl
  | succ m ih =>
    intro p hm hp
    by_cases h0 : mvd p ≤ m
    · exact ih p h0 hp
    · have hpos : 0 < mvd p := by omega
      obtain ⟨y, hy⟩ := List.exists_mem_of_length_pos (l := (idl p.length).filter fun x => decide (at0 p x ≠ x)) hpos
      have hyr := mem_idl.1 (List.mem_filter.1 hy).1
      have hym : at0 p y ≠ y := by simpa using (List.mem_filter.1 hy).2
      have hpy := hp.at0_range hyr.1 hyr.2
      have hex : ∃ x : Int, (0 ≤ x ∧ x < p.length) ∧ at0 p x ≠ x ∧ ¬ Lead p x := by
        by_cases hl : Lead p y
        · refine ⟨at0 p y, hpy, fun e => hym (at0_inj hp hpy hyr e), fun hl2 => hym ?_⟩
          exact (lead_unique hp hyr hl hl2 ((mem_cyc hp hyr).2 ⟨1, rfl⟩)).symm
        · exact ⟨y, hyr, hym, hl⟩
      obtain ⟨x, hx, hxm, hxl⟩ := hex
      have hc := isPerm_cut hp hx
      have hmv : mvd (cut p x) < mvd p := by
        unfold mvd
        rw [cut_length]
        have hpx := hp.at0_range hx.1 hx.2
        refine Nat.lt_of_lt_of_le (m := ((idl p.length).filter fun z => decide (at0 p z ≠ z) && decide (z ≠ x)).length + 1) ?_ ?_
        · refine Nat.lt_succ_of_le ?_
          refine List.Sublist.length_le ?_
          have : (idl p.length).filter (fun z => decide (at0 (cut p x) z ≠ z)) = ((idl p.length).filter fun z => decide (at0 p z ≠ z) && decide (z ≠ x)).filter (fun z => decide (at0 (cut p x) z ≠ z)) := by
            rw [List.filter_filter]
            refine List.filter_congr fun z hz => ?_
            have hz := mem_idl.1 hz
            by_cases hzx : z = x
            · subst hzx; simp [cut_self hx]
            · by_cases hzp : at0 p z = z
              · have : at0 (cut p x) z = z := by rw [cut_other hp hx hz hzx, hzp, if_neg hzx]
                simp [this]
              · simp [hzp, hzx]
          rw [this]
          exact List.filter_sublist
        · rw [← filter_or (P := fun z => decide (at0 p z ≠ z) && decide (z ≠ x)) (Q := fun z => decide (at0 p z ≠ z)) (x := x) (idl_nodup _) (mem_idl.2 hx) (by simp) fun z _ => by
            by_cases hzx : z = x
            · subst hzx; simp [hxm]
            · simp [hzx]]
          exact Nat.le_refl _
      obtain ⟨i1, i2⟩ := ih (cut p x) (by omega) hc
      have hcount : (allC (cut p x)).length = (allC p).length + 1 := by
        rw [allC_count, allC_count, cut_length]
        refine filter_or (x := x) (idl_nodup _) (mem_idl.2 hx) (decide_eq_false hxl) fun z hz => ?_
        have := cut_lead hp hx hxm hxl (mem_idl.1 hz)
        by_cases h1 : Lead p z
        · simp [h1, this.2 (.inl h1)]
        · by_cases h2 : z = x
          · simp [h2, h2 ▸ this.2 (.inr h2)]
          · have : ¬ Lead (cut p x) z := fun h => by rcases this.1 h with h | h; exact h1 h; exact h2 h
            simp [h1, h2, this]
      have heps : eps (cut p x) = - eps p := by
        unfold cut
        rw [eps_map hp, pp_swp hx (hp.at0_range hx.1 hx.2) fun e => hxm e.symm, Int.neg_mul, Int.one_mul]
      rw [cut_length] at i1 i2
      rw [hcount] at i1 i2
      refine ⟨by omega, ?_⟩
      rw [heps] at i2
      have e2 : p.length - (allC p).length = (p.length - ((allC p).length + 1)) + 1 := by omega
      rw [e2]
      split at i2
      · rename_i h; rw [if_neg (by omega)]; omega
      · rename_i h; rw [if_pos (by omega)]; omega
theorem pSign_eps {p : List Int} (hp : IsPerm p) : pSign p = eps p := by
  unfold pSign
  rw [if_pos hp, (sign_spec hp).2, (eps_cycles _ p (Nat.le_refl _) hp).2]
theorem pSign_comp {p q : List Int} (h : PermPair p q) : pSign (comp p q) = pSign p * pSign q := by
  rw [pSign_eps (isPerm_comp h), pSign_eps h.2.1, pSign_eps h.2.2, eps_comp h]
end Go.Proofs.Ytkojonjcikgikaa
