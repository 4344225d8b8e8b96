/- What the rows' listed variables give the walks of the two laws that read numbers; the wrap that hands the world's shape on. -/
import Derived.LaidMore
import Derived.LaidHandle
import Derived.Stop.Joined
import Derived.Stop.LaidErr
import Derived.Lib.LaidTab
import Derived.ShapedOpen
import Derived.Handed
import Derived.Shelf.Strings.SplitShaped
import Derived.Test.YtkojonjcikgikaaDoorReadN
namespace Go.Proofs.YtkojonjcikgikaaDoor
open Go.RowKit

theorem laid_drop {P : Program} {W : World} : ∀ (k : Nat) (l : List (String × DataW Unit)), laidMet P l W → laidMet P (l.drop k) W
  | 0, _, h => h
  | _ + 1, [], h => h
  | k + 1, _ :: r, h => laid_drop k r h.tail
def txtRan : List UInt8 := [118, 97, 108, 117, 101, 32, 111, 117, 116, 32, 111, 102, 32, 114, 97, 110, 103, 101]
def txtSyn : List UInt8 := [105, 110, 118, 97, 108, 105, 100, 32, 115, 121, 110, 116, 97, 120]
theorem gPow : Tryd.prog.globalNamed tabName = some 5 := by kernel_rfl
theorem gRan : Tryd.prog.globalNamed "strconv.ErrRange" = some 2 := by kernel_rfl
theorem gSyn : Tryd.prog.globalNamed "strconv.ErrSyntax" = some 1 := by kernel_rfl
theorem star : "*" ++ "errors.errorString" = "*errors.errorString" := by decide
theorem rowErr (u : TypeId) (h : Tryd.prog.typeName? 3 u = some "*errors.errorString") : u = 113 :=
  typeName_ptr_named (nm := "errors.errorString") (by rw [star]; kernel_rfl) (by kernel_rfl) (by decide) u (by rw [star]; exact h)
theorem undErr : Tryd.prog.underlying 55 = Tryd.prog.underlying 54 := by kernel_rfl

theorem libW_of {W : World} {l : List (String × DataW Unit)} (h0 : laidMetH Tryd.prog l W) (hs : W.ShapedOpen Tryd.prog) (e0 : l = Rows.fnExactParseImagesRow.laid) : LibW W := by
  subst e0
  rw [MakeChecks.laidMetH_plain _ _ _ (by kernel_rfl)] at h0
  have e3 : Rows.fnExactParseImagesRow.laid.drop 2 = (tabName, Lib.tabData .u64 Lib.pow10Tab) :: Rows.fnExactParseImagesRow.laid.drop 3 := by kernel_rfl
  have e4 : Rows.fnExactParseImagesRow.laid.drop 4 = ("strconv.ErrRange", .iface "*errors.errorString" (.ptr (.agg [.lit (.string txtRan)]))) :: Rows.fnExactParseImagesRow.laid.drop 5 := by kernel_rfl
  have e5 : Rows.fnExactParseImagesRow.laid.drop 5 = ("strconv.ErrSyntax", .iface "*errors.errorString" (.ptr (.agg [.lit (.string txtSyn)]))) :: Rows.fnExactParseImagesRow.laid.drop 6 := by kernel_rfl
  have h3 := laid_drop 2 _ h0
  have h4 := laid_drop 4 _ h0
  have h5 := laid_drop 5 _ h0
  rw [e3] at h3
  rw [e4] at h4
  rw [e5] at h5
  obtain ⟨a4, s4, hv4, _, _, _⟩ := laid_sentinel h4 gRan (by kernel_rfl) Tryd.underlying55 rowErr Tryd.underlying113 Tryd.underlying115 rfl rfl Tryd.underlying9 (by kernel_rfl) (by kernel_rfl)
  obtain ⟨a5, s5, hv5, _, _, _⟩ := laid_sentinel h5 gSyn (by kernel_rfl) Tryd.underlying55 rowErr Tryd.underlying113 Tryd.underlying115 rfl rfl Tryd.underlying9 (by kernel_rfl) (by kernel_rfl)
  have c4 := World.var?_cell gRan hv4 0
  have c5 := World.var?_cell gSyn hv5 0
  refine ⟨Go.Proofs.cell_of_shapedOpen_int (zero := #[.int .i64 0]) (t := 3) hs (of_decide_eq_true (by kernel_rfl)) (by kernel_rfl) rfl (by kernel_rfl) (by kernel_rfl) Tryd.underlying3, ⟨_, c5, .inr ⟨_, _, rfl⟩⟩, ⟨_, c4, .inr ⟨_, _, rfl⟩⟩, ?_⟩
  exact Lib.tabIs_of_head gPow (by kernel_rfl) (n := 20) Tryd.underlying109 Tryd.underlying79 (by kernel_rfl) (by kernel_rfl) h3

section
variable {H : Type} {enc : TypeId × Value → H}
theorem handed_shaped {a : Assume} {C : Checked} {os : Os} {f : FuncId} {fn : Func} {s : ChangeSpec} {conds : List PathCond} {apart fresh handsOn again : Bool} {X : World → Array Value → Prop}
    (hX : ∀ (w w' : World) (args : Array Value), w.heap = w'.heap → X w args → X w' args)
    (own : ownKnob C.prog.godebug = none) (started : os.Started) (noInit : C.prog.inits.idxOf? f = none) (hfn : C.prog.funcs[f]? = some fn)
    (witness : ∃ (w : World) (tape : Tape) (i : Input), w.os = os ∧ (w.forCall tape i).Shaped C.prog ∧ i.vars = [] ∧ Input.okWide C.prog (w.forCall tape i) .any w.heap.size f i ∧
      ((s.pre enc C.prog fn conds apart (w.forCall tape i).memory i.args ∧ X (w.forCall tape i).memory i.args) ∧ sizedMet enc C.prog fn (OpenSpec.ofChange s) apart (w.forCall tape i).memory i.args) ∧ a.holds C.prog (lone (Frame.enter C.prog f i.args .normal) [] (w.forCall tape i)))
    (contract : ∀ (W : World) (base : Nat) (args : Array Value) (ds gs : List (DataW H)) (before : List MemPlace),
      (∀ (j : Nat) t v, fn.params[j]? = some t → args[j]? = some v → Value.okWide C.prog W .any base t v) →
      DataW.Whole enc C.prog fn.params.toList s.vars apart W args.toList ds gs before →
      X W args → W.ShapedOpen C.prog →
      Calls C.prog f args W fun e W' => ∃ v, e = .returned v ∧ s.post enc C.prog fn apart fresh handsOn again W args v W') :
    ReturnsInHanded a C os f .any (fun w args => (s.pre enc C.prog fn conds apart w args ∧ X w args) ∧ sizedMet enc C.prog fn (OpenSpec.ofChange s) apart w args) (s.post enc C.prog fn apart fresh handsOn again) := by
  refine returnsInHanded_of_calls own started noInit witness ?_
  intro w tape i _ hsh _ hok hpre _
  obtain ⟨_, _, _, fn', hfn', _, _, _, _, hval⟩ := hok
  obtain rfl : fn' = fn := Option.some.inj (hfn'.symm.trans hfn)
  obtain ⟨⟨⟨ds, gs, before, hw, hc⟩, hx⟩, hz⟩ := hpre
  refine (contract (w.forCall tape i) w.heap.size i.args ds gs before hval (DataW.Whole.of_heap (w' := w.forCall tape i) (by rfl) hw) (hX _ _ _ (by rfl) hx) hsh).mono fun e W' ⟨v, he, hp⟩ => ?_
  subst he
  exact ChangeSpec.post_blind hp
end
end Go.Proofs.YtkojonjcikgikaaDoor
