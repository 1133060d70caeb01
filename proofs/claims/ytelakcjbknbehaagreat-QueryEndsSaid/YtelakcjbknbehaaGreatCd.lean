/- The statement QueryEnds: the least and the greatest of cells are among them, mean and quantile lie between them; for every input that can be read. -/
import Derived.Test.YtelakcjbknbehaaGreatAp
import Derived.Test.YtelakcjbknbehaaGreatCb
import Derived.Test.YtelakcjbknbehaaGreatCc
namespace Go.Proofs.YtelakcjbknbehaaGreat
open Go.ChangeShapes Go.WideShapes Go.ChangeAt Go.RowKit Go.Deep Go.Joins Go.Lib
set_option maxRecDepth 100000

namespace Law6
theorem contract (H : Type) (enc : TypeId × Value → H) (W : World) (base : Nat) (args : Array Value) (ds gs : List (DataW H)) (before : List MemPlace)
    (hval : ∀ (j : Nat) t v, Tryz.f6.params[j]? = some t → args[j]? = some v → Value.okWide Tryz.prog W .any base t v)
    (hW : DataW.Whole enc Tryz.prog Tryz.f6.params.toList Rows.queryEndsSpec.vars false W args.toList ds gs before) :
    Calls Tryz.prog 6 args W fun e W' => ∃ v, e = .returned v ∧ Rows.queryEndsSpec.post enc Tryz.prog Tryz.f6 false true false false W args v W' := by
  have hW' := hW
  obtain ⟨p, q, hA0, hV, rfl, hfz, hnd⟩ := hW
  have hA : DataW.TrodAll enc Tryz.prog W 0 (fun _ => true) true Tryz.f6.params.toList args.toList ds p := hA0
  rw [Tryz.params6] at hA hval
  obtain ⟨v0, vs0, d0, ds0, p0, q0, hargs, rfl, rfl, h0, r0⟩ := trodAll_cons hA
  obtain ⟨v1, vs1, d1, ds1, p1, q1, rfl, rfl, rfl, h1, r1⟩ := trodAll_cons r0
  obtain ⟨v2, vs2, d2, ds2, p2, q2, rfl, rfl, rfl, h2, r2⟩ := trodAll_cons r1
  obtain ⟨v3, vs3, d3, ds3, p3, q3, rfl, rfl, rfl, h3, r3⟩ := trodAll_cons r2
  obtain ⟨rfl, rfl, rfl⟩ := trodAll_nil r3
  obtain rfl : args = #[v0, v1, v2, v3] := by cases args; simp_all
  obtain ⟨rfl, rfl⟩ := trodVars_none hV
  have hlt0 : ∀ x ∈ p0, x.block < W.heap.size := fun x hx => hW'.lt x (by simp [hx])
  obtain ⟨a0, m, c, l, rfl, hl, hX, hx2⟩ := open_cells (hval 0 22 v0 rfl rfl) h0
  obtain ⟨b1, rfl, rfl, rfl, w1⟩ := open_int Tryz.underlying3 (hval 1 3 v1 rfl rfl) h1
  obtain ⟨b2, rfl, rfl, rfl, w2⟩ := open_int Tryz.underlying3 (hval 2 3 v2 rfl rfl) h2
  obtain ⟨b3, rfl, rfl, rfl, w3⟩ := open_float Tryz.underlying33 (hval 3 33 v3 rfl rfl) h3
  have hq : b3 < 18446744073709551616 := by simpa [Lit.wf] using w3
  refine (law6_any W (cp := c) b1 b2 hl hX hx2 hq).mono fun e W' ⟨he, hc⟩ => ?_
  have hb := hc.below0
  subst he
  exact ⟨_, rfl, post_below hb hW' (trodAll_mk1 (shut_bool Tryz.underlying4 _))
    (trodAll_cons_mk (Below.trod laidOut0 readC22 (Nat.lt_trans (by decide) typesN) h0 hb hlt0)
    (trodAll_cons_mk (shut_int Tryz.underlying3 w1)
    (trodAll_cons_mk (shut_int Tryz.underlying3 w2) (trodAll_cons_mk (shut_float Tryz.underlying33 w3) trodAll_mk0)))) rfl⟩
theorem lifted (os : Os) (started : os.Started) (H : Type) (enc : TypeId × Value → H) :
    ReturnsInHanded {} Tryz.checked os 6 .any (Rows.queryEndsSpec.pre6 enc Tryz.prog Tryz.f6 Rows.queryEndsRow.domain false) (Rows.queryEndsSpec.post enc Tryz.prog Tryz.f6 false true false false) := by
  refine returnsInHanded_of_change (C := Tryz.checked) ownk started (by kernel_rfl) Tryz.func6
    (ChangeSpec.witness6 (enc := enc) (C := Tryz.checked) false ⟨#[], #[.slice none 0 0, .int .i64 0, .int .i64 0, .float .f64 0], []⟩ 8 (by kernel_rfl) (by kernel_rfl) (by kernel_rfl) (by kernel_rfl)) ?_
  intro W base args ds gs before hval0 hW hcnd _
  exact contract H enc W base args ds gs before hval0 hW
theorem over : Rows.queryEndsRow.holds Tryz.pinned (OpenSpec.ofChange Rows.queryEndsSpec) :=
  OpenClaim.holds_of_wide 6 Tryz.f6 rfl rfl rfl rfl rfl rfl rfl ⟨rfl, rfl, rfl, rfl, rfl⟩ rfl rfl rfl rfl rfl named hfn closed hinst hwrap
    (fun os started H enc _ => lifted os started H enc)
theorem said : Rows.QueryEndsSaid := over
end Law6
end Go.Proofs.YtelakcjbknbehaaGreat
