/- The statement QueryAsks: of any cells the sum, the mean, the ends, any quantile, and how many are of a class, are told as the document says; for every input that can be read. -/
import Derived.ProofKit
import Derived.OpenShut
import Derived.Lib.SlBytesRowKit
import Derived.Lib.SmallJoins
import Derived.Deep.SlicePairs
import Derived.Deep.Fields
import Derived.ChangeMaps5
import Derived.Test.YtelakcjbknbehaaGreatEc
import Derived.Test.YtelakcjbknbehaaGreatEo
import Derived.Test.YtelakcjbknbehaaGreatEp
namespace Go.Proofs.YtelakcjbknbehaaGreat
open Go.ChangeShapes Go.WideShapes Go.ChangeAt Go.RowKit Go.Deep Go.Joins Go.Lib
set_option maxRecDepth 100000

theorem ownk : ownKnob Tryz.prog.godebug = none := by kernel_rfl
theorem laidOut0 : laidOutB Tryz.prog = true := by kernel_rfl
theorem readC22 : Tryz.prog.readableRec 22 = true := by kernel_rfl
theorem typesN : 100 < Tryz.prog.types.size := by
 have h : decide (100 < Tryz.prog.types.size) = true := by kernel_rfl
 exact of_decide_eq_true h
theorem cells46 : Tryz.prog.cellsOf 46 = 2 := by kernel_rfl
theorem cells3 : Tryz.prog.cellsOf 3 = 1 := by kernel_rfl
theorem cells33 : Tryz.prog.cellsOf 33 = 1 := by kernel_rfl
theorem post_below {H : Type} {enc : TypeId × Value → H} {f : Func} {s : ChangeSpec} {W W' : World} {args : Array Value} {v : Value} {ds gs : List (DataW H)} {before pa pv : List MemPlace} (hb : Below W.heap.size W W')
  (hW : DataW.Whole enc Tryz.prog f.params.toList s.vars false W args.toList ds gs before)
  (hres : DataW.TrodAll enc Tryz.prog W' W.heap.size (fun _ => false) false f.resultTypes.toList (v.resultList f.resultTypes.size) (s.fn H (ds ++ gs)).results [])
  (hargs : DataW.TrodAll enc Tryz.prog W' 0 (fun b => decide (b < W.heap.size)) true f.params.toList args.toList (s.fn H (ds ++ gs)).args pa)
  (hvars : DataW.TrodVars enc Tryz.prog W' (fun b => decide (b < W.heap.size)) s.vars (s.fn H (ds ++ gs)).vars pv) :
  s.post enc Tryz.prog f false true false false W args v W' :=
 ⟨ds, gs, before, [], pa, pv, hW, hres, hargs, hvars, hb.frame _, fun h => by cases h⟩
section
variable {H : Type} {enc : TypeId × Value → H} {W : World}
theorem float_cell {fuel : Nat} {v : Value} {x : DataW H × List MemPlace} (hf : DataW.trod enc Tryz.prog W 0 (fun _ => true) true fuel 33 [v] = some x) : ∃ b, v = .float .f64 b ∧ b < 18446744073709551616 := by
 cases fuel with
 | zero => simp [DataW.trod] at hf
 | succ n =>
  simp only [DataW.trod, Tryz.underlying33] at hf
  cases v with
  | float k' b =>
   by_cases hw : k' = FloatKind.f64 ∧ (Lit.float FloatKind.f64 b).wf = true
   ·obtain ⟨rfl, hw⟩ := hw
    exact ⟨b, rfl, by simpa [Lit.wf] using hw⟩
   ·simp only [] at hf
    by_cases hk : k' = FloatKind.f64
    ·subst hk
     rw [if_neg hw] at hf
     cases hf
    ·rw [if_neg (fun h => hk h.1)] at hf
     cases hf
  | _ => simp at hf
theorem open_cells {base : Nat} {v1 : Value} {d1 : DataW H} {p1 : List MemPlace} (hval : Value.okWide Tryz.prog W .any base 22 v1) (h1 : DataW.Trod enc Tryz.prog W 0 (fun _ => true) true 22 v1 d1 p1) :
  ∃ (a0 : Option Addr) (m c : Nat) (l : List (Int × Nat)), v1 = .slice a0 m c ∧ l.length = m ∧ ArgX W a0 l ∧ ∀ x ∈ l, x.2 < 18446744073709551616 := by
 obtain ⟨a1, len, cap, rfl⟩ := okWide_slice Tryz.underlying22 hval
 obtain ⟨fuel, hf⟩ := h1
 rcases open_slice_pairs Tryz.underlying22 Tryz.underlying46 cells46 rfl rfl cells3 cells33 (show DataW.trod enc Tryz.prog W 0 (fun _ => true) true fuel 22 [.slice a1 len cap] = some (d1, p1) by simpa [Value.cells] using hf) with ⟨hcs, hx⟩ | ⟨a, len', cap', m, n, V0, V1, D0, D1, P0, P1, hcs, _, hl, hm, hmm, hx, hcell⟩
 ·simp only [List.cons.injEq, and_true] at hcs
  exact ⟨none, 0, 0, [], hcs, rfl, Or.inl rfl, fun x hx => by cases hx⟩
 ·simp only [List.cons.injEq, and_true] at hcs
  simp only [if_true] at hmm
  have hk : ∀ i : Nat, ∃ z : Int × Nat, i < len' → (W.cell? (a.add (i * 2)) = some (.int .i64 z.1) ∧ W.cell? (a.add (i * 2 + 1)) = some (.float .f64 z.2) ∧ z.2 < 18446744073709551616) := by
   intro i
   by_cases hi : i < len'
   ·obtain ⟨hc0, hc1, ht0, ht1⟩ := hcell i (by omega)
    obtain ⟨z, hz, -, -⟩ := DataW.trod_int Tryz.underlying3 ht0
    obtain ⟨b, hb, hlt⟩ := float_cell ht1
    simp only [List.cons.injEq, and_true] at hz
    exact ⟨(z, b), fun _ => ⟨by rw [hc0, hz], by rw [hc1, hb], hlt⟩⟩
   ·exact ⟨(0, 0), fun h => absurd h hi⟩
  obtain ⟨f, hf⟩ := Classical.axiomOfChoice hk
  refine ⟨some a, len', cap', (List.range len').map f, hcs, by simp, ?_, ?_⟩
  ·by_cases h0 : len' = 0
   ·left; rw [h0]; rfl
   ·obtain ⟨b, off, sp⟩ := a
    have hsp : sp = none := by
     have := World.cell?_spot (hf 0 (by omega)).1
     simpa [Addr.add] using this
    subst hsp
    have hlt := World.block_lt_of_cell? _ _ (hf 0 (by omega)).1
    rw [add_lit] at hlt
    refine Or.inr ⟨b, off, rfl, hlt, fun j hj => ?_⟩
    have hj' : j < len' := by simpa using hj
    have h9 := hf j hj'
    rw [add_lit, add_lit] at h9
    simp only [List.getElem_map, List.getElem_range]
    exact ⟨h9.1, h9.2.1⟩
  ·intro x hx
   simp only [List.mem_map, List.mem_range] at hx
   obtain ⟨i, hi, rfl⟩ := hx
   exact (hf i hi).2.2
end
set_option maxRecDepth 100000

namespace Law5
theorem contract (H : Type) (enc : TypeId × Value → H) (W : World) (base : Nat) (args : Array Value) (ds gs : List (DataW H)) (before : List MemPlace)
  (hval : ∀ (j : Nat) t v, Tryz.f5.params[j]? = some t → args[j]? = some v → Value.okWide Tryz.prog W .any base t v)
  (hW : DataW.Whole enc Tryz.prog Tryz.f5.params.toList Rows.queryAsksSpec.vars false W args.toList ds gs before) :
  Calls Tryz.prog 5 args W fun e W' => ∃ v, e = .returned v ∧ Rows.queryAsksSpec.post enc Tryz.prog Tryz.f5 false true false false W args v W' := by
 have hW' := hW
 obtain ⟨p, q, hA0, hV, rfl, hfz, hnd⟩ := hW
 have hA : DataW.TrodAll enc Tryz.prog W 0 (fun _ => true) true Tryz.f5.params.toList args.toList ds p := hA0
 rw [Tryz.params5] at hA hval
 obtain ⟨v0, vs0, d0, ds0, p0, q0, hargs, rfl, rfl, h0, r0⟩ := trodAll_cons hA
 obtain ⟨v1, vs1, d1, ds1, p1, q1, rfl, rfl, rfl, h1, r1⟩ := trodAll_cons r0
 obtain ⟨v2, vs2, d2, ds2, p2, q2, rfl, rfl, rfl, h2, r2⟩ := trodAll_cons r1
 obtain ⟨v3, vs3, d3, ds3, p3, q3, rfl, rfl, rfl, h3, r3⟩ := trodAll_cons r2
 obtain ⟨v4, vs4, d4, ds4, p4, q4, rfl, rfl, rfl, h4, r4⟩ := trodAll_cons r3
 obtain ⟨rfl, rfl, rfl⟩ := trodAll_nil r4
 obtain rfl : args = #[v0, v1, v2, v3, v4] := by cases args; simp_all
 obtain ⟨rfl, rfl⟩ := trodVars_none hV
 have hlt0 : ∀ x ∈ p0, x.block < W.heap.size := fun x hx => hW'.lt x (by simp [hx])
 obtain ⟨a0, m, c, l, rfl, hl, hX, hx2⟩ := open_cells (hval 0 22 v0 rfl rfl) h0
 obtain ⟨b1, rfl, rfl, rfl, w1⟩ := open_int Tryz.underlying3 (hval 1 3 v1 rfl rfl) h1
 obtain ⟨b2, rfl, rfl, rfl, w2⟩ := open_int Tryz.underlying3 (hval 2 3 v2 rfl rfl) h2
 obtain ⟨b3, rfl, rfl, rfl, w3⟩ := open_float Tryz.underlying33 (hval 3 33 v3 rfl rfl) h3
 obtain ⟨b4, rfl, rfl, rfl, w4⟩ := open_int Tryz.underlying3 (hval 4 3 v4 rfl rfl) h4
 have hq : b3 < 18446744073709551616 := by simpa [Lit.wf] using w3
 refine (law5_any W (cp := c) b1 b2 b4 hl hX hx2 hq).mono fun e W' ⟨he, hc⟩ => ?_
 have hb := hc.below0
 subst he
 exact ⟨_, rfl, post_below hb hW' (trodAll_mk1 (shut_bool Tryz.underlying4 _))
  (trodAll_cons_mk (Below.trod laidOut0 readC22 (Nat.lt_trans (by decide) typesN) h0 hb hlt0)
  (trodAll_cons_mk (shut_int Tryz.underlying3 w1)
  (trodAll_cons_mk (shut_int Tryz.underlying3 w2) (trodAll_cons_mk (shut_float Tryz.underlying33 w3)
  (trodAll_cons_mk (shut_int Tryz.underlying3 w4) trodAll_mk0))))) rfl⟩
theorem lifted (os : Os) (started : os.Started) (H : Type) (enc : TypeId × Value → H) :
  ReturnsInHanded {} Tryz.checked os 5 .any (Rows.queryAsksSpec.pre6 enc Tryz.prog Tryz.f5 Rows.queryAsksRow.domain false) (Rows.queryAsksSpec.post enc Tryz.prog Tryz.f5 false true false false) := by
 refine returnsInHanded_of_change (C := Tryz.checked) ownk started (by kernel_rfl) Tryz.func5
  (ChangeSpec.witness6 (enc := enc) (C := Tryz.checked) false ⟨#[], #[.slice none 0 0, .int .i64 0, .int .i64 0, .float .f64 0, .int .i64 0], []⟩ 8 (by kernel_rfl) (by kernel_rfl) (by kernel_rfl) (by kernel_rfl)) ?_
 intro W base args ds gs before hval0 hW hcnd _
 exact contract H enc W base args ds gs before hval0 hW
theorem over : Rows.queryAsksRow.holds Tryz.pinned (OpenSpec.ofChange Rows.queryAsksSpec) :=
 OpenClaim.holds_of_wide 5 Tryz.f5 rfl rfl rfl rfl rfl rfl rfl ⟨rfl, rfl, rfl, rfl, rfl⟩ rfl rfl rfl rfl rfl named hfn closed hinst hwrap
  (fun os started H enc _ => lifted os started H enc)
theorem said : Rows.QueryAsksSaid := over
end Law5
end Go.Proofs.YtelakcjbknbehaaGreat
