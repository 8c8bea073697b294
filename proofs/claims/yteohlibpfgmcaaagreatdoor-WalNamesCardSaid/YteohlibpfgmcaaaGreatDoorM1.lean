/- What lies there when a call begins (the listed variables); strconv.Itoa; the row's frame with the world's shape. -/
import Derived.Test.YteohlibpfgmcaaaGreatDoorT1
import Derived.Test.YteohlibpfgmcaaaGreatDoorRows
import Derived.Shelf.Vars
import Derived.Lib.LaidTab
import Derived.LaidSub
import Derived.LaidLaws
import Derived.LaidMore
import Derived.LaidHandle
import Derived.Lay
import Derived.MakeChecks
import Derived.SizedLaws
import Derived.Handed
import Derived.KernelRfl
import Derived.Lib.AppendIntMem
import Derived.Below
namespace Go.Proofs.YteohlibpfgmcaaaGreatDoor
open Go.RowKit
set_option linter.unusedVariables false
set_option linter.unusedSimpArgs false

abbrev laidV : List (String × DataW Unit) := [("math/bits.deBruijn32tab", Rows.laid_math_bits_deBruijn32tab), ("math/bits.deBruijn64tab", Rows.laid_math_bits_deBruijn64tab), ("internal/strconv.uint64pow10", Rows.laid_internal_strconv_uint64pow10), ("strconv.ErrRange", Rows.laid_strconv_ErrRange), ("strconv.ErrSyntax", Rows.laid_strconv_ErrSyntax)]
theorem gPow : Tryz.prog.globalNamed "internal/strconv.uint64pow10" = some 0 := by kernel_rfl
theorem gSyn : Tryz.prog.globalNamed "strconv.ErrSyntax" = some 1 := by kernel_rfl
theorem gRng : Tryz.prog.globalNamed "strconv.ErrRange" = some 2 := by kernel_rfl
theorem tSyn : (Tryz.prog.globals[1]?).map (·.type) = some 162 := by kernel_rfl
theorem tRng : (Tryz.prog.globals[2]?).map (·.type) = some 162 := by kernel_rfl
theorem tPow : (Tryz.prog.globals[0]?).map (·.type) = some 234 := by kernel_rfl
theorem z2 : ((begin Tryz.prog (fun _ _ => 0) default).world.heap[2]?).bind Obj.row? = some (#[.nilIface], 162) := by kernel_rfl
theorem pow_is : Rows.laid_internal_strconv_uint64pow10 = (Lib.tabData .u64 Lib.pow10Tab : DataW Unit) := rfl

/-- The start. -/
structure St (w : World) : Prop where
  pow : Lib.TabIs Tryz.prog w "internal/strconv.uint64pow10" .u64 Lib.pow10Tab
  syn : ∃ te pe, w.cell? ⟨1, 0, none⟩ = some (.iface te pe)
  rng : ∃ te pe, w.cell? ⟨2, 0, none⟩ = some (.iface te pe)
  len : 3 ≤ w.heap.size

theorem var_below {n g : Nat} {w w' : World} {nm : String} (hg : Tryz.prog.globalNamed nm = some g) (hb : Below n w w') (hn : g < n) : w'.var? Tryz.prog nm = w.var? Tryz.prog nm := by
  unfold World.var?
  rw [hg]
  simp only [Option.bind_some]
  rw [hb.block g hn]
theorem St.later' {n : Nat} {w w' : World} (h : St w) (hb : Below n w w') (hn : 3 ≤ n) : St w' := by
  refine ⟨?_, ?_, ?_, Nat.le_trans h.len hb.size⟩
  · have := h.pow
    unfold Lib.TabIs at this ⊢
    rw [var_below gPow hb (by omega)]
    exact this
  · obtain ⟨te, pe, e⟩ := h.syn
    exact ⟨te, pe, (World.cell?_of_block (a := ⟨1, 0, none⟩) (hb.block 1 (by omega))).trans e⟩
  · obtain ⟨te, pe, e⟩ := h.rng
    exact ⟨te, pe, (World.cell?_of_block (a := ⟨2, 0, none⟩) (hb.block 2 (by omega))).trans e⟩
theorem St.later {w w' : World} (h : St w) (hb : Below w.heap.size w w') : St w' := h.later' hb h.len

theorem itoa_any (n : Int) (h0 : -9223372036854775808 ≤ n) (h1 : n ≤ 9223372036854775807) (W : World) (hs : St W) :
    Calls Tryz.prog 36 #[.int .i64 n] W fun e w' => e = .returned (.string ⟨(Lib.itoa n).toArray⟩) ∧ Below W.heap.size W w' := by
  refine (Tryz.strconv_Itoa n h0 h1 W hs.pow).mono ?_
  rintro e w' ⟨he, k, os, rfl⟩
  exact ⟨he, Lib.below_grow _ _ (Nat.le_refl _) k os⟩

theorem sent_cell {W : World} {nm : String} {g : Nat} {bs : List UInt8} (hg : Tryz.prog.globalNamed nm = some g) (ht : (Tryz.prog.globals[g]?).map (·.type) = some 162)
    (h : laidMet Tryz.prog [(nm, .iface "*errors.errorString" (.ptr (.agg [.lit (.string bs)])))] W) : ∃ te pe, W.cell? ⟨g, 0, none⟩ = some (.iface te pe) := by
  obtain ⟨ps, ⟨g', t', cs, fuel, p, q, hg', ht', hvar, hd, _, _⟩, _⟩ := h
  obtain rfl := Option.some.inj (hg.symm.trans hg')
  obtain rfl := Option.some.inj (ht.symm.trans ht')
  obtain ⟨_, u, v, hcs, _, _⟩ := iface_of_trod Tryz.underlying162 hd
  obtain rfl : cs = #[.iface u v] := by rw [← Array.toList_inj, hcs]
  have := World.var?_cell hg hvar 0
  exact ⟨u, v, by simpa using this⟩
theorem start_of {W : World} (hL : laidMetH Tryz.prog laidV W) (hS : W.ShapedOpen Tryz.prog) : St W := by
  have f1 := hL.filter (fun x => x.1 == "internal/strconv.uint64pow10")
  have f2 := hL.filter (fun x => x.1 == "strconv.ErrSyntax")
  have f3 := hL.filter (fun x => x.1 == "strconv.ErrRange")
  have e1 : laidV.filter (fun x => x.1 == "internal/strconv.uint64pow10") = [("internal/strconv.uint64pow10", Rows.laid_internal_strconv_uint64pow10)] := by kernel_rfl
  have e2 : laidV.filter (fun x => x.1 == "strconv.ErrSyntax") = [("strconv.ErrSyntax", Rows.laid_strconv_ErrSyntax)] := by kernel_rfl
  have e3 : laidV.filter (fun x => x.1 == "strconv.ErrRange") = [("strconv.ErrRange", Rows.laid_strconv_ErrRange)] := by kernel_rfl
  rw [e1, MakeChecks.laidMetH_plain _ _ _ (by kernel_rfl), pow_is] at f1
  rw [e2, MakeChecks.laidMetH_plain _ _ _ (by kernel_rfl)] at f2
  rw [e3, MakeChecks.laidMetH_plain _ _ _ (by kernel_rfl)] at f3
  refine ⟨Lib.tabIs_of_head (rest := []) gPow tPow Tryz.underlying234 Tryz.underlying77 (by kernel_rfl) (by kernel_rfl) f1, sent_cell gSyn tSyn f2, sent_cell gRng tRng f3, ?_⟩
  obtain ⟨c1, h1, _, _⟩ := hS.1 2 _ 162 (of_decide_eq_true (by kernel_rfl)) z2
  exact (Array.getElem?_eq_some_iff.1 h1).1
theorem laid_met (os : Os) (args : Array Value) : laidMetH Tryz.prog laidV ((World.laidAll Tryz.prog os laidV).forCall (fun _ _ => 0) ⟨#[], args, []⟩).memory := by
  rw [MakeChecks.laidMetH_plain _ _ _ (by kernel_rfl)]
  exact laidMet_laidAll _ (by kernel_rfl) (by kernel_rfl)

/-- The frame of a row that lists variables, the world's shape kept. -/
theorem frame {H : Type} {enc : TypeId × Value → H} {a : Assume} {C : Checked} {os : Os} {f : FuncId} {fn : Func} {s : ChangeSpec} {conds : List PathCond} {apart fresh handsOn again : Bool} {X : World → Array Value → Prop}
    (hX : ∀ (w w' : World) (args : Array Value), w.heap = w'.heap → X w args → X w' args)
    (own : ownKnob C.prog.godebug = none) (started : os.Started) (noInit : C.prog.inits.idxOf? f = none) (hfn : C.prog.funcs[f]? = some fn)
    (witness : ∃ (w : World) (tape : Tape) (i : Input), w.os = os ∧ (w.forCall tape i).Shaped C.prog ∧ i.vars = [] ∧ Input.okWide C.prog (w.forCall tape i) .any w.heap.size f i ∧
      ((s.pre enc C.prog fn conds apart (w.forCall tape i).memory i.args ∧ X (w.forCall tape i).memory i.args) ∧ sizedMet enc C.prog fn (OpenSpec.ofChange s) apart (w.forCall tape i).memory i.args) ∧ a.holds C.prog (lone (Frame.enter C.prog f i.args .normal) [] (w.forCall tape i)))
    (walk : ∀ (W : World) (base : Nat) (args : Array Value) (ds gs : List (DataW H)) (before : List MemPlace),
      (∀ (j : Nat) t v, fn.params[j]? = some t → args[j]? = some v → Value.okWide C.prog W .any base t v) →
      DataW.Whole enc C.prog fn.params.toList s.vars apart W args.toList ds gs before →
      (DataW.weightsEach C.prog (fn.params.toList ++ s.plain.varTypes C.prog) (ds ++ gs)).all (· ≤ reachBytes) = true → X W args → W.ShapedOpen C.prog →
      Calls C.prog f args W fun e W' => ∃ v, e = .returned v ∧ s.post enc C.prog fn apart fresh handsOn again W args v W') :
    ReturnsInHanded a C os f .any (fun w args => (s.pre enc C.prog fn conds apart w args ∧ X w args) ∧ sizedMet enc C.prog fn (OpenSpec.ofChange s) apart w args) (s.post enc C.prog fn apart fresh handsOn again) := by
  refine returnsInHanded_of_calls own started noInit witness fun w tape i _ hsh _ hok hpre _ => ?_
  obtain ⟨_, _, _, fn', hfn', _, _, _, _, hval⟩ := hok
  obtain rfl : fn' = fn := Option.some.inj (hfn'.symm.trans hfn)
  obtain ⟨⟨⟨ds, gs, before, hw, _⟩, hx⟩, hz⟩ := hpre
  refine (walk (w.forCall tape i) w.heap.size i.args ds gs before hval (DataW.Whole.of_heap (w' := w.forCall tape i) (by rfl) hw) (hz.weights hw) (hX _ _ _ (by rfl) hx) hsh).mono fun e W' h => ?_
  obtain ⟨v, rfl, hp⟩ := h
  exact ChangeSpec.post_blind hp
end Go.Proofs.YteohlibpfgmcaaaGreatDoor
