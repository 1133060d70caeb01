/- What a row's list gives to the walks. -/
import Derived.Test.YtfdkafmomkkapaaDoorM1
import Derived.LaidSub
import Derived.Test.YtfdkafmomkkapaaDoorShelf
namespace Go.Proofs.YtfdkafmomkkapaaDoor
open Go.ChangeShapes Go.WideShapes Go.ChangeAt Go.RowKit
set_option maxRecDepth 100000

theorem laidOut0 : laidOutB Tryd.prog = true := by kernel_rfl
theorem read35 : Tryd.prog.readableRec 35 = true := by kernel_rfl
theorem read9 : Tryd.prog.readableRec 9 = true := by kernel_rfl
theorem read24 : Tryd.prog.readableRec 24 = true := by kernel_rfl
theorem typesN : 100 < Tryd.prog.types.size := by have h : decide (100 < Tryd.prog.types.size) = true := by kernel_rfl
                                                  exact of_decide_eq_true h

/-- what a contract with 'Below' gives of a row's sentence. -/
theorem post_below {H : Type} {enc : TypeId × Value → H} {f : Func} {s : ChangeSpec} {W W' : World} {args : Array Value} {v : Value} {ds gs : List (DataW H)} {before pa pv : List MemPlace} (hb : Below W.heap.size W W')
    (hW : DataW.Whole enc Tryd.prog f.params.toList s.vars false W args.toList ds gs before)
    (hres : DataW.TrodAll enc Tryd.prog W' W.heap.size (fun _ => false) false f.resultTypes.toList (v.resultList f.resultTypes.size) (s.fn H (ds ++ gs)).results [])
    (hargs : DataW.TrodAll enc Tryd.prog W' 0 (fun b => decide (b < W.heap.size)) true f.params.toList args.toList (s.fn H (ds ++ gs)).args pa)
    (hvars : DataW.TrodVars enc Tryd.prog W' (fun b => decide (b < W.heap.size)) s.vars (s.fn H (ds ++ gs)).vars pv) :
    s.post enc Tryd.prog f false true false false W args v W' :=
  ⟨ds, gs, before, [], pa, pv, hW, hres, hargs, hvars, hb.frame _, fun h => by cases h⟩

theorem gPow : Tryd.prog.globalNamed "internal/strconv.uint64pow10" = some 4 := by kernel_rfl
theorem gSyn : Tryd.prog.globalNamed "strconv.ErrSyntax" = some 2 := by kernel_rfl
theorem gRan : Tryd.prog.globalNamed "strconv.ErrRange" = some 3 := by kernel_rfl
theorem gSynT : (Tryd.prog.globals[2]?).map (·.type) = some 95 := by kernel_rfl
theorem gRanT : (Tryd.prog.globals[3]?).map (·.type) = some 95 := by kernel_rfl
theorem cells168 : Tryd.prog.cellsOf 168 = 1 := by kernel_rfl
theorem cells9 : Tryd.prog.cellsOf 9 = 1 := by kernel_rfl
theorem star : "*" ++ "errors.errorString" = "*errors.errorString" := by decide
theorem row166 (u : TypeId) (h : Tryd.prog.typeName? 3 u = some "*errors.errorString") : u = 166 :=
  typeName_ptr_named (nm := "errors.errorString") (by rw [star]; kernel_rfl) (by kernel_rfl) (by decide) u (by rw [star]; exact h)

theorem pow_laid : (Rows.laid_internal_strconv_uint64pow10 : DataW Unit) = Lib.tabData .u64 Lib.pow10Tab := by kernel_rfl
theorem only (W : World) (h : laidMetH Tryd.prog Rows.scriptBytesRow.laid W) (n : String) (d : DataW Unit) (he : (Rows.scriptBytesRow.laid.filter fun x => x.1 == n).filter (fun x => x.2.handleName?.isNone) = [(n, d)]) : laidMet Tryd.prog [(n, d)] W := by
  have h2 := (laidMetH_iff.1 (h.filter fun x => x.1 == n)).1
  rw [he] at h2
  exact h2
theorem gl_of (W : World) (h : laidMetH Tryd.prog Rows.scriptBytesRow.laid W) (hm : ∃ m : Int, W.cell? ⟨1, 0, none⟩ = some (.int .i64 m)) : Gl W := by
  have h1 := only W h "internal/strconv.uint64pow10" Rows.laid_internal_strconv_uint64pow10 (by kernel_rfl)
  have h2 := only W h "strconv.ErrSyntax" Rows.laid_strconv_ErrSyntax (by kernel_rfl)
  have h3 := only W h "strconv.ErrRange" Rows.laid_strconv_ErrRange (by kernel_rfl)
  rw [pow_laid] at h1
  refine ⟨Lib.tabIs_of_head gPow (t := 157) (e := 58) (n := 20) (by kernel_rfl) (by kernel_rfl) (by kernel_rfl) (by kernel_rfl) (by kernel_rfl) h1, hm, ?_, ?_⟩
  · obtain ⟨a0, s0, hv0, -, -, -⟩ := laid_sentinel h2 gSyn gSynT Tryd.underlying95 row166 Tryd.underlying166 Tryd.underlying168 rfl rfl Tryd.underlying9 cells168 cells9
    exact ⟨_, _, hv0⟩
  · obtain ⟨a0, s0, hv0, -, -, -⟩ := laid_sentinel h3 gRan gRanT Tryd.underlying95 row166 Tryd.underlying166 Tryd.underlying168 rfl rfl Tryd.underlying9 cells168 cells9
    exact ⟨_, _, hv0⟩
theorem gl_shaped (W : World) (h : laidMetH Tryd.prog Rows.scriptBytesRow.laid W) (hs : W.ShapedOpen Tryd.prog) : Gl W := gl_of W h (Tryd.laysM143.s1_3 W hs)
end Go.Proofs.YtfdkafmomkkapaaDoor
