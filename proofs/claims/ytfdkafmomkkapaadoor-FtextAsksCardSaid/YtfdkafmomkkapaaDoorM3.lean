/- Arguments opened: bytes, puts, an op by value. -/
import Derived.Test.YtfdkafmomkkapaaDoorM2
import Derived.Lib.SlBytesRowKit
import Derived.Lib.SmallJoins
import Derived.Deep.Slices
import Derived.Deep.Fields
import Derived.ChangeMaps5
namespace Go.Proofs.YtfdkafmomkkapaaDoor
open Go.ChangeShapes Go.WideShapes Go.ChangeAt Go.RowKit Go.Deep Go.Joins
set_option maxRecDepth 100000

theorem cells5 : Tryd.prog.cellsOf 5 = 1 := by kernel_rfl
theorem cells3 : Tryd.prog.cellsOf 3 = 1 := by kernel_rfl
theorem cells35 : Tryd.prog.cellsOf 35 = 1 := by kernel_rfl
theorem cells22 : Tryd.prog.cellsOf 22 = 1 := by kernel_rfl
theorem cells42 : Tryd.prog.cellsOf 42 = 2 := by kernel_rfl
theorem cells24 : Tryd.prog.cellsOf 24 = 5 := by kernel_rfl

theorem addr_add (b off j : Nat) : (⟨b, off, none⟩ : Addr).add j = ⟨b, off + j, none⟩ := by unfold Addr.add; split <;> simp_all

section
variable {H : Type} {enc : TypeId × Value → H} {W : World}

theorem bytes_trod {fuel : Nat} {v : Value} {y : DataW H × List MemPlace} (hf : DataW.trod enc Tryd.prog W 0 (fun _ => true) true fuel 35 [v] = some y) :
    ∃ (a0 : Option Addr) (m c : Nat) (l : List UInt8), v = .slice a0 m c ∧ l.length = m ∧ m ≤ c ∧ c ≤ maxLen ∧ Bs W a0 l := by
  rcases open_ints Tryd.underlying35 Tryd.underlying5 cells5 hf with ⟨hcs, hx⟩ | ⟨a, len, cap, zs, hcs, _, hl, hm, hz, hx, hcell, hwz⟩
  · simp only [List.cons.injEq, and_true] at hcs
    exact ⟨none, 0, 0, [], hcs, rfl, Nat.le_refl _, Nat.zero_le _, Or.inl rfl⟩
  · simp only [List.cons.injEq, and_true] at hcs
    simp only [if_true] at hz
    have hlen : ((zs.take len).map fun n => UInt8.ofNat n.toNat).length = len := by simp; omega
    refine ⟨some a, len, cap, (zs.take len).map fun n => UInt8.ofNat n.toNat, hcs, hlen, by omega, hm, ?_⟩
    by_cases h0 : len = 0
    · left; apply List.eq_nil_of_length_eq_zero; rw [hlen, h0]
    obtain ⟨b, off, sp⟩ := a
    have hsp : sp = none := by
      have := World.cell?_spot (hcell 0 (by omega))
      simpa [Addr.add] using this
    subst hsp
    refine Or.inr ⟨b, off, rfl, ?_, fun j hj => ?_⟩
    · have := World.block_lt_of_cell? _ _ (hcell 0 (by omega))
      rw [addr_add] at this; exact this
    · have hj' : j < len := by rw [hlen] at hj; exact hj
      have h2 := hcell j (by omega)
      rw [addr_add] at h2
      rw [h2]
      have hr := byte_of_wf (hwz (zs.getD j 0) (by rw [List.getD_eq_getElem?_getD, List.getElem?_eq_getElem (by omega)]; exact List.getElem_mem _))
      have hg : zs.getD j 0 = zs[j]'(by omega) := by rw [List.getD_eq_getElem?_getD, List.getElem?_eq_getElem (by omega)]; rfl
      rw [hg] at hr ⊢
      simp only [List.getElem_map, List.getElem_take]
      rw [UInt8.toNat_ofNat']
      congr 2
      omega

theorem int_trod {fuel : Nat} {v : Value} {y : DataW H × List MemPlace} (hf : DataW.trod enc Tryd.prog W 0 (fun _ => true) true fuel 3 [v] = some y) :
    ∃ n : Int, v = .int .i64 n ∧ -9223372036854775808 ≤ n ∧ n ≤ 9223372036854775807 := by
  obtain ⟨n, hc, _, hw⟩ := DataW.trod_int Tryd.underlying3 hf
  simp only [List.cons.injEq, and_true] at hc
  have hb := bounds_i64 hw
  exact ⟨n, hc, by omega, by omega⟩

/-- a struct of two cells in a row. -/
theorem put_trod {fuel : Nat} {b o : Nat} {cs : List Value} {y : DataW H × List MemPlace} (hc : ∀ i, i < 2 → W.cell? ⟨b, o + i, none⟩ = cs[i]?) (hf : DataW.trod enc Tryd.prog W 0 (fun _ => true) true fuel 42 cs = some y) :
    ∃ p : Int × List UInt8, Put1 W b o p := by
  obtain ⟨xs, n, _, _, hlen, hxs, hg⟩ := DataW.trod_struct Tryd.underlying42 hf
  rw [cells42] at hlen
  match cs, hlen with
  | [c0, c1], _ =>
    have hxs' : xs.length = 2 := hxs
    match xs, hxs' with
    | [x0, x1], _ =>
      have g0 : DataW.trod enc Tryd.prog W 0 (fun _ => true) true n 3 [c0] = some x0 := by simpa [cells3] using hg 0 _ rfl
      have g1 : DataW.trod enc Tryd.prog W 0 (fun _ => true) true n 35 [c1] = some x1 := by simpa [cells35] using hg 1 _ rfl
      obtain ⟨k, rfl, hk0, hk1⟩ := int_trod (y := x0) g0
      obtain ⟨da, m, c, l, rfl, rfl, hmc, hcm, hB⟩ := bytes_trod (y := x1) g1
      exact ⟨(k, l), hc 0 (by omega), hk0, hk1, da, c, hc 1 (by omega), hmc, Nat.le_trans hmc hcm, hB⟩

theorem puts_trod {fuel : Nat} {v : Value} {y : DataW H × List MemPlace} (hf : DataW.trod enc Tryd.prog W 0 (fun _ => true) true fuel 22 [v] = some y) :
    ∃ (pa : Option Addr) (m c : Nat) (l : List (Int × List UInt8)), v = .slice pa m c ∧ l.length = m ∧ m ≤ c ∧ c ≤ maxLen ∧ Ps W pa l := by
  rcases open_slice Tryd.underlying22 hf with ⟨hcs, hx⟩ | ⟨a, len, cap, m, n, D, Pl, hcs, _, hl, hm, hmm, _, hi⟩
  · simp only [List.cons.injEq, and_true] at hcs
    exact ⟨none, 0, 0, [], hcs, rfl, Nat.le_refl _, Nat.zero_le _, Or.inl rfl⟩
  · simp only [List.cons.injEq, and_true] at hcs
    simp only [if_true] at hmm
    by_cases h0 : len = 0
    · subst h0
      exact ⟨some a, 0, cap, [], hcs, rfl, Nat.zero_le _, hm, Or.inl rfl⟩
    obtain ⟨b, off, sp⟩ := a
    have hsp : sp = none := by
      obtain ⟨cs', hc, ht⟩ := hi 0 (by omega)
      rw [cells42] at hc
      obtain ⟨_, hcl, hat⟩ := World.cells?_some hc
      have h1 := hat 0 (by omega)
      rw [List.getElem?_eq_getElem (by omega)] at h1
      have := World.cell?_spot h1
      simpa [Addr.add] using this
    subst hsp
    have key : ∀ i : Nat, ∃ p : Int × List UInt8, i < len → Put1 W b (off + i * 2) p := by
      intro i
      by_cases hil : i < len
      · obtain ⟨cs', hc, ht⟩ := hi i (by omega)
        rw [cells42] at hc
        obtain ⟨_, hcl, hat⟩ := World.cells?_some hc
        obtain ⟨p, hp⟩ := put_trod (b := b) (o := off + i * 2) (cs := cs') (fun j hj => by
          have := hat j hj
          rw [addr_add, addr_add] at this
          exact this) ht
        exact ⟨p, fun _ => hp⟩
      · exact ⟨(0, []), fun h => absurd h hil⟩
    obtain ⟨f, hfun⟩ := Classical.axiomOfChoice key
    refine ⟨some ⟨b, off, none⟩, len, cap, (List.range len).map f, hcs, by simp, hl, hm, Or.inr ⟨b, off, rfl, fun j hj => ?_⟩⟩
    have hj' : j < len := by simpa using hj
    simp only [List.getElem_map, List.getElem_range]
    exact hfun j hj'

/-- an argument of type []byte, opened. -/
theorem open_bytes {base : Nat} {v1 : Value} {d1 : DataW H} {p1 : List MemPlace} (hval : Value.okWide Tryd.prog W .any base 35 v1) (h1 : DataW.Trod enc Tryd.prog W 0 (fun _ => true) true 35 v1 d1 p1) :
    ∃ (a0 : Option Addr) (m c : Nat) (l : List UInt8), v1 = .slice a0 m c ∧ l.length = m ∧ m ≤ c ∧ c ≤ maxLen ∧ Bs W a0 l := by
  obtain ⟨a1, len, cap, rfl⟩ := okWide_slice Tryd.underlying35 hval
  obtain ⟨fuel, hf⟩ := h1
  exact bytes_trod (y := (d1, p1)) (by simpa [Value.cells] using hf)

/-- an argument of type api.Op, opened. -/
theorem open_op {base : Nat} {v1 : Value} {d1 : DataW H} {p1 : List MemPlace} (hval : Value.okWide Tryd.prog W .any base 24 v1) (h1 : DataW.Trod enc Tryd.prog W 0 (fun _ => true) true 24 v1 d1 p1) :
    ∃ (k h a n : Int) (pa : Option Addr) (m c : Nat) (l : List (Int × List UInt8)), v1 = .agg #[.int .i64 k, .int .i64 h, .int .i64 a, .int .i64 n, .slice pa m c] ∧ l.length = m ∧ m ≤ c ∧ c ≤ maxLen ∧ Ps W pa l ∧
      (-9223372036854775808 ≤ k ∧ k ≤ 9223372036854775807) ∧ (-9223372036854775808 ≤ h ∧ h ≤ 9223372036854775807) ∧ (-9223372036854775808 ≤ a ∧ a ≤ 9223372036854775807) ∧ (-9223372036854775808 ≤ n ∧ n ≤ 9223372036854775807) := by
  obtain ⟨cs, rfl, hsz⟩ := okWide_struct Tryd.underlying24 hval
  obtain ⟨l⟩ := cs
  obtain ⟨fuel, hf⟩ := h1
  have hf' : DataW.trod enc Tryd.prog W 0 (fun _ => true) true fuel 24 l = some (d1, p1) := by simpa [Value.cells] using hf
  obtain ⟨xs, n, _, _, hlen, hxs, hg⟩ := DataW.trod_struct Tryd.underlying24 hf'
  rw [cells24] at hlen
  match l, hlen with
  | [c0, c1, c2, c3, c4], _ =>
    have hxs' : xs.length = 5 := hxs
    match xs, hxs' with
    | [x0, x1, x2, x3, x4], _ =>
      have g0 : DataW.trod enc Tryd.prog W 0 (fun _ => true) true n 3 [c0] = some x0 := by simpa [cells3] using hg 0 _ rfl
      have g1 : DataW.trod enc Tryd.prog W 0 (fun _ => true) true n 3 [c1] = some x1 := by simpa [cells3] using hg 1 _ rfl
      have g2 : DataW.trod enc Tryd.prog W 0 (fun _ => true) true n 3 [c2] = some x2 := by simpa [cells3] using hg 2 _ rfl
      have g3 : DataW.trod enc Tryd.prog W 0 (fun _ => true) true n 3 [c3] = some x3 := by simpa [cells3] using hg 3 _ rfl
      have g4 : DataW.trod enc Tryd.prog W 0 (fun _ => true) true n 22 [c4] = some x4 := by simpa [cells22] using hg 4 _ rfl
      obtain ⟨k, rfl, k0, k1⟩ := int_trod (y := x0) g0
      obtain ⟨h, rfl, h0, h1⟩ := int_trod (y := x1) g1
      obtain ⟨a, rfl, a0, a1⟩ := int_trod (y := x2) g2
      obtain ⟨z, rfl, z0, z1⟩ := int_trod (y := x3) g3
      obtain ⟨pa, m, c, l, rfl, hl, hmc, hcm, hP⟩ := puts_trod (y := x4) g4
      exact ⟨k, h, a, z, pa, m, c, l, rfl, hl, hmc, hcm, hP, ⟨k0, k1⟩, ⟨h0, h1⟩, ⟨a0, a1⟩, ⟨z0, z1⟩⟩
end
end Go.Proofs.YtfdkafmomkkapaaDoor
