/- Lemmas and walks: What a row's list gives to the walks; a world for the witness. -/
import Derived.Test.YtgagcbgbjkjghaaGreatDoorTie
import Derived.Test.YtgagcbgbjkjghaaGreatDoorCards
import Derived.ProofKit
import Derived.OpenShut
import Derived.Deep.DeepHandedRow
import Derived.Deep.DeepWitnessRowRef
import Derived.Lib.LaidTab
import Derived.LaidMore
import Derived.LaidOnce
import Derived.Stop.LaidErr
import Derived.LaidSub
import Derived.ChangeMaps5
import Derived.Test.YtgagcbgbjkjghaaGreatDoorXc
namespace Go.Proofs.YtgagcbgbjkjghaaGreatDoor.Wit
open Go.ChangeShapes Go.WideShapes Go.ChangeAt Go.RowKit
set_option maxRecDepth 100000

theorem own0 : ownKnob Tryz.prog.godebug = none := by kernel_rfl

/-- the cells of a table of numbers. -/
def tabCells : DataW Unit → Array Value
  | .agg l => (l.map fun | .lit (.int k n) => Value.int k n | _ => .int .u8 0).toArray
  | _ => #[]
noncomputable def laidWorld (os : Os) : World :=
  { World.doorLaid Tryz.prog 1000 os with heap := (World.doorLaid Tryz.prog 1000 os).heap.modify 4 fun
      | .cells _ t frozen => .cells (tabCells Rows.laid_unicode_utf8_first) t frozen
      | o => o }
theorem laid_met (os : Os) (args : Array Value) : laidMetH Tryz.prog Rows.shellLongRow.laid ((laidWorld os).forCall (fun _ _ => 0) ⟨#[], args, []⟩).memory :=
  laidMetH_of_parts3 (fuel := 8) (laidMet_of_run' 8 (by kernel_rfl) (by kernel_rfl)) (by kernel_rfl) (by kernel_rfl)

theorem laidOut0 : laidOutB Tryz.prog = true := by kernel_rfl
theorem read3 : Tryz.prog.readableRec 3 = true := by kernel_rfl
theorem read9 : Tryz.prog.readableRec 9 = true := by kernel_rfl
theorem typesN : 100 < Tryz.prog.types.size := by have h : decide (100 < Tryz.prog.types.size) = true := by kernel_rfl
                                                  exact of_decide_eq_true h

/-- what a contract with 'Below' gives of a row's sentence. -/
theorem post_below {H : Type} {enc : TypeId × Value → H} {f : Func} {s : ChangeSpec} {W W' : World} {args : Array Value} {v : Value} {ds gs : List (DataW H)} {before pa pv : List MemPlace} (hb : Below W.heap.size W W')
    (hW : DataW.Whole enc Tryz.prog f.params.toList s.vars false W args.toList ds gs before)
    (hres : DataW.TrodAll enc Tryz.prog W' W.heap.size (fun _ => false) false f.resultTypes.toList (v.resultList f.resultTypes.size) (s.fn H (ds ++ gs)).results [])
    (hargs : DataW.TrodAll enc Tryz.prog W' 0 (fun b => decide (b < W.heap.size)) true f.params.toList args.toList (s.fn H (ds ++ gs)).args pa)
    (hvars : DataW.TrodVars enc Tryz.prog W' (fun b => decide (b < W.heap.size)) s.vars (s.fn H (ds ++ gs)).vars pv) :
    s.post enc Tryz.prog f false true false false W args v W' :=
  ⟨ds, gs, before, [], pa, pv, hW, hres, hargs, hvars, hb.frame _, fun h => by cases h⟩

theorem gPow : Tryz.prog.globalNamed "internal/strconv.uint64pow10" = some 6 := by kernel_rfl
theorem gSyn : Tryz.prog.globalNamed "strconv.ErrSyntax" = some 2 := by kernel_rfl
theorem gRan : Tryz.prog.globalNamed "strconv.ErrRange" = some 3 := by kernel_rfl
theorem gSynT : (Tryz.prog.globals[2]?).map (·.type) = some 122 := by kernel_rfl
theorem gRanT : (Tryz.prog.globals[3]?).map (·.type) = some 122 := by kernel_rfl
theorem cells168 : Tryz.prog.cellsOf 378 = 1 := by kernel_rfl
theorem cells9 : Tryz.prog.cellsOf 9 = 1 := by kernel_rfl
theorem star : "*" ++ "errors.errorString" = "*errors.errorString" := by decide
theorem row166 (u : TypeId) (h : Tryz.prog.typeName? 3 u = some "*errors.errorString") : u = 376 :=
  typeName_ptr_named (nm := "errors.errorString") (by rw [star]; kernel_rfl) (by kernel_rfl) (by decide) u (by rw [star]; exact h)

theorem pow_laid : (Rows.laid_internal_strconv_uint64pow10 : DataW Unit) = Lib.tabData .u64 Lib.pow10Tab := by kernel_rfl
theorem only (W : World) (h : laidMetH Tryz.prog Rows.shellLongRow.laid W) (n : String) (d : DataW Unit) (he : (Rows.shellLongRow.laid.filter fun x => x.1 == n).filter (fun x => x.2.handleName?.isNone) = [(n, d)]) : laidMet Tryz.prog [(n, d)] W := by
  have h2 := (laidMetH_iff.1 (h.filter fun x => x.1 == n)).1
  rw [he] at h2
  exact h2
theorem gl_of (W : World) (h : laidMetH Tryz.prog Rows.shellLongRow.laid W) (hm : ∃ m : Int, W.cell? ⟨0, 0, none⟩ = some (.int .i64 m)) : Scr.Gl W := by
  have h1 := only W h "internal/strconv.uint64pow10" Rows.laid_internal_strconv_uint64pow10 (by kernel_rfl)
  have h2 := only W h "strconv.ErrSyntax" Rows.laid_strconv_ErrSyntax (by kernel_rfl)
  have h3 := only W h "strconv.ErrRange" Rows.laid_strconv_ErrRange (by kernel_rfl)
  rw [pow_laid] at h1
  refine ⟨Lib.tabIs_of_head gPow (t := 380) (e := 48) (n := 20) (by kernel_rfl) (by kernel_rfl) (by kernel_rfl) (by kernel_rfl) (by kernel_rfl) h1, hm, ?_, ?_⟩
  · obtain ⟨a0, s0, hv0, -, -, -⟩ := laid_sentinel h2 gSyn gSynT Tryz.underlying122 row166 Tryz.underlying376 Tryz.underlying378 rfl rfl Tryz.underlying9 cells168 cells9
    exact ⟨_, _, hv0⟩
  · obtain ⟨a0, s0, hv0, -, -, -⟩ := laid_sentinel h3 gRan gRanT Tryz.underlying122 row166 Tryz.underlying376 Tryz.underlying378 rfl rfl Tryz.underlying9 cells168 cells9
    exact ⟨_, _, hv0⟩
theorem gl_shaped (W : World) (h : laidMetH Tryz.prog Rows.shellLongRow.laid W) (hs : W.ShapedOpen Tryz.prog) : Scr.Gl W := gl_of W h (Tryz.laysM143.s1_3 W hs)
theorem vB (os : Os) (args : Array Value) : ((laidWorld os).forCall (fun _ _ => 0) ⟨#[], args, []⟩).variablesRefB Tryz.checked.prog = true := by kernel_rfl
theorem hrB (os : Os) (args : Array Value) : (((laidWorld os).forCall (fun _ _ => 0) ⟨#[], args, []⟩).heap.toList.drop Tryz.checked.prog.globals.size).take ((begin Tryz.checked.prog (fun _ _ => 0) default).world.heap.size - Tryz.checked.prog.globals.size) =
      (begin Tryz.checked.prog (fun _ _ => 0) default).world.heap.toList.drop Tryz.checked.prog.globals.size := by kernel_rfl
end Go.Proofs.YtgagcbgbjkjghaaGreatDoor.Wit
