/- Law ScriptAnswers: the walk; an argument of type api.Answer, opened. -/
import Derived.Test.YtfdkafmomkkapaaDoorQ2
import Derived.Test.YtfdkafmomkkapaaDoorH1
import Derived.Test.YtfdkafmomkkapaaDoorM3
namespace Go.Proofs.YtfdkafmomkkapaaDoor
open Go.RowKit Go.Lib

section
open Go.ChangeShapes Go.WideShapes Go.ChangeAt Go.Deep Go.Joins
theorem cells27 : Tryd.prog.cellsOf 27 = 1 := by kernel_rfl
theorem cells47 : Tryd.prog.cellsOf 47 = 5 := by kernel_rfl
variable {H : Type} {enc : TypeId × Value → H} {W : World}
theorem code_trod {fuel : Nat} {v : Value} {y : DataW H × List MemPlace} (hf : DataW.trod enc Tryd.prog W 0 (fun _ => true) true fuel 27 [v] = some y) :
    ∃ n : Int, v = .int .i64 n ∧ -9223372036854775808 ≤ n ∧ n ≤ 9223372036854775807 := by
  obtain ⟨n, hc, _, hw⟩ := DataW.trod_int Tryd.underlying27 hf
  simp only [List.cons.injEq, and_true] at hc
  have hb := bounds_i64 hw
  exact ⟨n, hc, by omega, by omega⟩
set_option maxRecDepth 100000 in
theorem open_ans {base : Nat} {v1 : Value} {d1 : DataW H} {p1 : List MemPlace} (hval : Value.okWide Tryd.prog W .any base 47 v1) (h1 : DataW.Trod enc Tryd.prog W 0 (fun _ => true) true 47 v1 d1 p1) :
    ∃ (k z h t : Int) (pa : Option Addr) (m c : Nat) (l : List UInt8), v1 = .agg #[.int .i64 k, .int .i64 z, .int .i64 h, .int .i64 t, .slice pa m c] ∧ l.length = m ∧ m ≤ c ∧ c ≤ maxLen ∧ Bs W pa l ∧
      ((-9223372036854775808 ≤ z ∧ z ≤ 9223372036854775807) ∧ (-9223372036854775808 ≤ h ∧ h ≤ 9223372036854775807) ∧ (-9223372036854775808 ≤ t ∧ t ≤ 9223372036854775807)) := by
  obtain ⟨cs, rfl, hsz⟩ := okWide_struct Tryd.underlying47 hval
  obtain ⟨l⟩ := cs
  obtain ⟨fuel, hf⟩ := h1
  have hf' : DataW.trod enc Tryd.prog W 0 (fun _ => true) true fuel 47 l = some (d1, p1) := by simpa [Value.cells] using hf
  obtain ⟨xs, n, _, _, hlen, hxs, hg⟩ := DataW.trod_struct Tryd.underlying47 hf'
  rw [cells47] at hlen
  match l, hlen with
  | [c0, c1, c2, c3, c4], _ =>
    have hxs' : xs.length = 5 := hxs
    match xs, hxs' with
    | [x0, x1, x2, x3, x4], _ =>
      have g0 : DataW.trod enc Tryd.prog W 0 (fun _ => true) true n 3 [c0] = some x0 := by simpa [cells3] using hg 0 _ rfl
      have g1 : DataW.trod enc Tryd.prog W 0 (fun _ => true) true n 27 [c1] = some x1 := by simpa [cells27] using hg 1 _ rfl
      have g2 : DataW.trod enc Tryd.prog W 0 (fun _ => true) true n 3 [c2] = some x2 := by simpa [cells3] using hg 2 _ rfl
      have g3 : DataW.trod enc Tryd.prog W 0 (fun _ => true) true n 3 [c3] = some x3 := by simpa [cells3] using hg 3 _ rfl
      have g4 : DataW.trod enc Tryd.prog W 0 (fun _ => true) true n 35 [c4] = some x4 := by simpa [cells35] using hg 4 _ rfl
      obtain ⟨k, rfl, k0, k1⟩ := int_trod (y := x0) g0
      obtain ⟨z, rfl, z0, z1⟩ := code_trod (y := x1) g1
      obtain ⟨h, rfl, h0, h1⟩ := int_trod (y := x2) g2
      obtain ⟨t, rfl, t0, t1⟩ := int_trod (y := x3) g3
      obtain ⟨pa, m, c, l, rfl, hl, hmc, hcm, hP⟩ := bytes_trod (y := x4) g4
      exact ⟨k, z, h, t, pa, m, c, l, rfl, hl, hmc, hcm, hP, ⟨z0, z1⟩, ⟨h0, h1⟩, ⟨t0, t1⟩⟩
end

set_option maxRecDepth 100000 in
set_option maxHeartbeats 2000000 in
theorem law8_any (k z h t : Int) (pa : Option Addr) (m c : Nat) (d : List UInt8) (w : World) (hG : Gl w) (hm : d.length = m) (hmx : m ≤ maxLen) (hc : m ≤ c) (hB : Bs w pa d)
    (hk : (-9223372036854775808 ≤ z ∧ z ≤ 9223372036854775807) ∧ (-9223372036854775808 ≤ h ∧ h ≤ 9223372036854775807) ∧ (-9223372036854775808 ≤ t ∧ t ≤ 9223372036854775807)) :
    Calls Tryd.prog 8 #[.agg #[.int .i64 k, .int .i64 z, .int .i64 h, .int .i64 t, .slice pa m c]] w fun e w' => e = .returned (.bool true) ∧ Below w.heap.size w w' := by
  obtain ⟨hz, hh, ht⟩ := hk
  have hmx' : m ≤ 9223372036854775807 := hmx
  have hbl := Below.of_alloc w (.cells #[.int .i64 k, .int .i64 z, .int .i64 h, .int .i64 t, .slice pa m c] 47)
  have hG1 := hG.keep hbl
  have hM := Lib.hid hm
  by_cases h3 : (3000 : Int) < (m : Int)
  · clear hm hB
    go_enter Tryd.func8, Tryd.ntmps8
    go_wp2_with fail
    refine (awake_any _ hG1).mono ?_
    rintro e w2 ⟨rfl, hb2⟩
    go_wp2_with fail
    go_ret
    exact ⟨rfl, below_on hb2 hbl (by simp)⟩
  · have hD := hB.keep hbl
    clear hm hB
    go_enter Tryd.func8, Tryd.ntmps8
    go_upto_region 3 with fail
    have c0 : (w.alloc (.cells #[.int .i64 k, .int .i64 z, .int .i64 h, .int .i64 t, .slice pa m c] 47)).cell? ⟨w.heap.size, 0, none⟩ = some (.int .i64 k) := by simp
    have c1 : (w.alloc (.cells #[.int .i64 k, .int .i64 z, .int .i64 h, .int .i64 t, .slice pa m c] 47)).cell? ⟨w.heap.size, 1, none⟩ = some (.int .i64 z) := by simp
    have c2 : (w.alloc (.cells #[.int .i64 k, .int .i64 z, .int .i64 h, .int .i64 t, .slice pa m c] 47)).cell? ⟨w.heap.size, 2, none⟩ = some (.int .i64 h) := by simp
    have c3 : (w.alloc (.cells #[.int .i64 k, .int .i64 z, .int .i64 h, .int .i64 t, .slice pa m c] 47)).cell? ⟨w.heap.size, 3, none⟩ = some (.int .i64 t) := by simp
    have c4 : (w.alloc (.cells #[.int .i64 k, .int .i64 z, .int .i64 h, .int .i64 t, .slice pa m c] 47)).cell? ⟨w.heap.size, 4, none⟩ = some (.slice pa m c) := by simp
    generalize w.alloc (.cells #[.int .i64 k, .int .i64 z, .int .i64 h, .int .i64 t, .slice pa m c] 47) = W1 at *
    have hd := (Below.refl W1.heap.size W1).drew
    have hBd := below_on hd hbl (Nat.le_refl _)
    replace c0 := below_keep hd c0
    replace c1 := below_keep hd c1
    replace c2 := below_keep hd c2
    replace c3 := below_keep hd c3
    replace c4 := below_keep hd c4
    replace hG1 := hG1.on hd
    replace hD := hD.on hd
    clear hd hbl
    go_region_held3 (fun wx => wx.cell? ⟨w.heap.size, 0, none⟩ = some (.int .i64 k) ∧ wx.cell? ⟨w.heap.size, 1, none⟩ = some (.int .i64 z) ∧ wx.cell? ⟨w.heap.size, 2, none⟩ = some (.int .i64 h) ∧ wx.cell? ⟨w.heap.size, 3, none⟩ = some (.int .i64 t) ∧ wx.cell? ⟨w.heap.size, 4, none⟩ = some (.slice pa m c))
      (first | (exact ⟨c0, c1, c2, c3, c4⟩))
      (first
        | (go_at_call 26; refine (ans_any k z h t pa m c d _ hG1 hM.out (by omega) hc hD hz.1 hz.2 hh.1 hh.2 ht.1 ht.2).mono ?_; rintro e w6 ⟨rfl, hb6⟩; replace c0 := below_keep hb6 c0; replace c1 := below_keep hb6 c1; replace c2 := below_keep hb6 c2; replace c3 := below_keep hb6 c3; replace c4 := below_keep hb6 c4; replace hG1 := hG1.on hb6; replace hD := hD.on hb6; replace hBd := below_on hb6 hBd (Nat.le_refl _))
        | (go_at_call 27; refine (rans_any k z h t pa m c d _ hM.out (by omega) hc hD hz.1 hz.2 hh.1 hh.2 ht.1 ht.2).mono ?_; rintro e w7 ⟨rfl, hb7⟩; replace c0 := below_keep hb7 c0; replace c1 := below_keep hb7 c1; replace c2 := below_keep hb7 c2; replace c3 := below_keep hb7 c3; replace c4 := below_keep hb7 c4; replace hG1 := hG1.on hb7; replace hD := hD.on hb7; replace hBd := below_on hb7 hBd (Nat.le_refl _))
        | (go_at_call 15; refine (awake_any _ hG1).mono ?_; rintro e w9 ⟨rfl, hb9⟩; replace c0 := below_keep hb9 c0; replace c1 := below_keep hb9 c1; replace c2 := below_keep hb9 c2; replace c3 := below_keep hb9 c3; replace c4 := below_keep hb9 c4; replace hBd := below_on hb9 hBd (Nat.le_refl _)))
    go_wp2_with fail
    go_ret
    exact ⟨rfl, hBd⟩
end Go.Proofs.YtfdkafmomkkapaaDoor
