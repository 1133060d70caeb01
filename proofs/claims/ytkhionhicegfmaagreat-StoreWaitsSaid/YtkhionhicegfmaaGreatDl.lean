/- The statement StoreAgain: mounted again and again, with crashes between, it is the same, and goes on; for every input that can be read. -/
import Derived.Test.YtkhionhicegfmaaGreatRows
import Derived.ProofKit
import Derived.OpenShut
import Derived.Lib.SlBytesRowKit
import Derived.Lib.SmallJoins
import Derived.Deep.Slices
import Derived.Deep.Fields
import Derived.ChangeMaps5
import Derived.Test.YtkhionhicegfmaaGreatDb
import Derived.Test.YtkhionhicegfmaaGreatDk
namespace Go.Proofs.YtkhionhicegfmaaGreat
open Go.RowKit Go.Lib

/-- a row of ints that is only read. -/
def IntsR (w : World) (v : Value) (m : Nat) : Prop := ∃ pa c, v = .slice pa m c ∧ m ≤ c ∧ ∀ j, j < m → ∃ g o x, pa = some ⟨g, o, none⟩ ∧ w.cell? ⟨g, o + j, none⟩ = some (.int .i64 x)
set_option maxRecDepth 100000 in
theorem pick_row {w : World} {v : Value} {m : Nat} (h : IntsR w v m) (hm : m ≤ 1000) : PickOk v w := by
  intro w2 k2 k hk
  obtain ⟨pa, c, rfl, hmc, hx⟩ := h
  by_cases h0 : m = 0
  · subst h0
    go_enter Tryz.func74, Tryz.ntmps74
    go_wp2_with fail
    go_ret2
    exact ⟨0, false, rfl, rfl⟩
  · obtain ⟨g, o, x, rfl, hc⟩ := hx (k % m) (Nat.mod_lt _ (by omega))
    have hc2 := k2.cell hc (by simp)
    have hr : (k : Int).tmod (m : Int) = ((k % m : Nat) : Int) := by
      rw [Int.tmod_eq_emod_of_nonneg (by omega)]
      omega
    have hlt : k % m < m := Nat.mod_lt _ (by omega)
    have hm0 : ¬ ((m : Int) = 0) := by omega
    have hm1 : ((m : Int) == 0) = false := beq_eq_false_iff_ne.2 hm0
    have hd : decide ((m : Int) = 0) = false := decide_eq_false hm0
    have hmc1 : (m : Int) ≤ c := by omega
    generalize k % m = t at *
    clear hc hx
    go_enter Tryz.func74, Tryz.ntmps74
    go_wp2_with fail
    go_ret2
    exact ⟨x, true, rfl, rfl⟩
theorem PickOk.keep {v : Value} {w w' : World} (h : PickOk v w) (k : Chg [] w w') : PickOk v w' := fun w2 k2 j hj => h w2 (k.then k2) j hj
theorem last_i (w : World) {w0 : World} {i : Nat} {d : Ids} (h : Ma w0 i w d) : Calls Tryz.prog 14 #[.pointer (some ⟨d.P, 0, none⟩)] w fun e w' => e = .returned (.int .i64 (i : Nat)) ∧ w = w' := by
  obtain ⟨lw, lo, Lv, vs, ops, rds, dv, gs, zs, h1, -⟩ := h
  exact slast_ok w h1.store h1.mx.mgr
theorem dump_i (w : World) {w0 : World} {i : Nat} {d : Ids} (h : Ma w0 i w d) : Calls Tryz.prog 15 #[.pointer (some ⟨d.P, 0, none⟩)] w fun e w' => ∃ pb cb, e = .returned (.slice pb i cb) ∧ Chg [] w w' ∧ PutsAt w' w.heap.size (.slice pb i cb) (putsI i) ∧ i ≤ cb := by
  obtain ⟨lw, lo, Lv, vs, ops, rds, dv, gs, zs, h1, h2, -⟩ := h
  refine (sdump_ok w h1.store h1.mx.mgr h1.mx.ver h2.keys h2.len).mono ?_
  rintro e w' ⟨v, rfl, k, hp⟩
  have hp' : PutsAt w' w.heap.size v (dumpL Lv vs) := hp
  rw [h2.dump] at hp'
  obtain ⟨xs, ho, -⟩ := id hp'
  obtain ⟨pb, cb, rfl, hc⟩ := own_form ho
  rw [putsI_length] at hp' hc
  exact ⟨pb, cb, by rw [putsI_length], k, hp', hc⟩
set_option maxRecDepth 100000 in
set_option maxHeartbeats 8000000 in
theorem law3_in (w : World) {n m1 m2 : Nat} {pv tv : Value} (hn : n ≤ 20) (hp : IntsR w pv m1) (ht : IntsR w tv m2) (h1 : m1 ≤ 30) (h2 : m2 ≤ 30) : Calls Tryz.prog 3 #[.int .i64 n, pv, tv] w fun e w' => e = .returned (.bool true) ∧ Chg [] w w' := by
  have HP := Lib.hid (pick_row hp (by omega))
  have HT := Lib.hid (pick_row ht (by omega))
  obtain ⟨pa, pc, rfl, hpc, -⟩ := hp
  obtain ⟨ta, tc, rfl, htc, -⟩ := ht
  have hqq : ∀ y : Int, (y != y) = false := fun y => bne_self_eq_false y
  go_enter Tryz.func3, Tryz.ntmps3
  go_wp2_with fail
  refine (least24 w).mono ?_
  rintro e w1 ⟨rfl, k1⟩
  go_wp2_with fail
  refine (new_any2 w1).mono ?_
  rintro e w2 ⟨N, A, c, Z, rfl, k2, hD, hO, lN, lA, lZ, hAx, hZn⟩
  have hs1 := k1.size
  have hDv : Dv w 0 w2 N := ⟨k1.then k2, Or.inl ⟨rfl, A, c, Z, hD, hO, by omega, by omega, fun z hz => by have := lZ z hz; omega, hAx, hZn⟩⟩
  have HDv := Lib.hid hDv
  clear k1 k2 hD hO lN lA lZ hAx hZn hDv
  go_wp2_with fail
  go_loopw [7, 9, 10] (fun dv la ii wr => ∃ (i N : Nat), i ≤ n ∧ ii = .int .i64 i ∧ la = .int .i64 i ∧ dv = .pointer (some ⟨N, 0, none⟩) ∧ Dv w i wr N) (fun _ _ ii _ => n - (intOf ii).toNat)
  case atStart => exact ⟨0, N, by omega, rfl, rfl, rfl, HDv.out⟩
  case round =>
    obtain ⟨i, N, hi, rfl, rfl, rfl, hDv⟩ := hrel
    by_cases hlt : i < n
    · have HM := Lib.hid (mount_i wr hDv (by omega))
      clear hDv
      have hlti : (i : Int) < n := by omega
      go_wp2_with fail
      refine HM.out.mono ?_
      rintro e w3 ⟨d, rfl, hN, hMa⟩
      have HL := Lib.hid (last_i w3 hMa)
      have HMa := Lib.hid hMa
      have HN := Lib.hid hN
      have HD := Lib.hid (dump_i w3 hMa)
      clear hMa hN HM
      go_wp2_with fail
      refine HL.out.mono ?_
      rintro e w4 ⟨rfl, rfl⟩
      go_wp2_with fail
      refine HD.out.mono ?_
      rintro e w4 ⟨pb, cb, rfl, k4, -, -⟩
      have HB := Lib.hid (beg_i w4 (HMa.out.keep k4) (by omega))
      clear k4 HL HD
      go_wp2_with fail
      refine HB.out.mono ?_
      rintro e w5 ⟨rfl, q, h5⟩
      have H5 := Lib.hid h5
      have HDt := Lib.hid (data_ex w5 i (by omega))
      clear h5 HB
      go_wp2_with fail
      refine HDt.out.mono ?_
      rintro e w6 ⟨D, rfl, k6, lD, hF⟩
      have kE : Chg [] w6 (w6.alloc (.cells #[.int .i64 i, .slice (some ⟨D, 0, none⟩) 40 40] 43)) := Chg.alloc w6 _
      have yE := heap_new w6 (.cells #[.int .i64 i, .slice (some ⟨D, 0, none⟩) 40 40] 43)
      have HW := Lib.hid (wri_i _ (cp := 1) (c := 40) ((H5.out.keep k6).keep kE) (cell_is yE 0 rfl) (cell_is yE 1 rfl) (hF.bs.chg kE) (datB_length i) (by omega) (by omega))
      clear k6 lD hF kE yE HDt
      go_wp2_with fail
      refine HW.out.mono ?_
      rintro e w7 ⟨rfl, v7, h7⟩
      have HC := Lib.hid (com_i w7 h7 (by omega) (by simp) (by simp))
      clear h7 HW
      go_wp2_with fail
      refine HC.out.mono ?_
      rintro e w8 ⟨rfl, h8⟩
      have HF := Lib.hid (flu_i w8 h8 (by simp [putQ]) (by omega))
      clear h8 HC
      go_wp2_with fail
      refine HF.out.mono ?_
      rintro e w9 ⟨rfl, h9⟩
      have HR := Lib.hid (res_i w9 h9)
      have H9 := Lib.hid h9
      clear h9 HF
      go_wp2_with fail
      refine HR.out.mono ?_
      rintro e w10 ⟨rfl, k10⟩
      have h10 := H9.out.keep k10
      have kk : Chg [] w w10 := by
        obtain ⟨lw, M, X, r, T, A, c, Lr, base, ops, rds, Z, vs, gs, zs, a1, a2, a3, a4, a5, a6, a7, a8, a9, a10, a11, a12, a13, a14⟩ := h10
        exact a14
      have HCr := Lib.hid (cra_i w10 h10 (by omega) (HP.out.keep kk) (HT.out.keep kk))
      clear k10 h10 kk H9 HR
      have hN2 := HN.out
      go_wp2_with fail
      subst hN2
      refine HCr.out.mono ?_
      rintro e w11 ⟨N', rfl, hDv', k11⟩
      have HD' := Lib.hid hDv'
      clear hDv' k11 HCr
      go_wp2_with fail
      go_roundw
      case rel => exact ⟨i + 1, N', hlt, by go_num, by go_num, rfl, HD'.out⟩
      case measure => simp [intOf]; omega
    · obtain rfl : i = n := by omega
      have HM := Lib.hid (mount_i wr hDv (by omega))
      clear hDv
      go_wp2_with fail
      refine HM.out.mono ?_
      rintro e w3 ⟨d, rfl, hN, hMa⟩
      have HMa := Lib.hid hMa
      have HD := Lib.hid (dump_i w3 hMa)
      clear hMa hN HM
      go_wp2_with fail
      refine HD.out.mono ?_
      rintro e w4 ⟨pb, cb, rfl, k4, hp4, hcb⟩
      have hM4 := HMa.out.keep k4
      have HL := Lib.hid (last_i w4 hM4)
      have kk : Chg [] w w4 := by
        obtain ⟨lw, lo, Lv, vs, ops, rds, dv, gs, zs, a1, a2, a3, a4⟩ := hM4
        exact a4
      have HK := Lib.hid kk
      have HP4 := Lib.hid hp4
      clear hM4 kk k4 hp4 HD
      go_wp2_with fail
      refine HL.out.mono ?_
      rintro e w5 ⟨rfl, rfl⟩
      clear HL
      go_wp2_with fail
      go_loopw [24] (fun ii wx => ∃ j : Nat, j ≤ i ∧ ii = .int .i64 j ∧ Chg [] w4 wx) (fun ii _ => i - (intOf ii).toNat)
      case atStart => exact ⟨0, by omega, rfl, Chg.refl _ _⟩
      case round =>
        obtain ⟨j, hj, rfl, kx⟩ := hrel
        by_cases hjl : j < i
        · have hjp : j < (putsI i).length := by rw [putsI_length]; exact hjl
          obtain ⟨g, cap, gd, cd, hv, hcap, d0, d1, hb, -, -⟩ := (HP4.out.keep0 kx).get j hjp
          rw [putsI_at] at d0 hb
          have hpb : pb = some ⟨g, 0, none⟩ := by injection hv
          subst hpb
          have d0' : wr.cell? ⟨g, j * 2, none⟩ = some (.int .i64 j) := d0
          have d1' : wr.cell? ⟨g, j * 2 + 1, none⟩ = some (.slice (some ⟨gd, 0, none⟩) 40 cd) := d1
          have hb' : Bs wr (some ⟨gd, 0, none⟩) (datB j) := hb
          have kk : Chg [] wr wr := Chg.refl _ _
          have hh : ∀ wz, Chg [] wr wz → wz.cell? ⟨g, j * 2, none⟩ = some (.int .i64 j) ∧ wz.cell? ⟨g, j * 2 + 1, none⟩ = some (.slice (some ⟨gd, 0, none⟩) 40 cd) := fun wz k => ⟨k.cell d0' (by simp), k.cell d1' (by simp)⟩
          have HH := Lib.hid hh
          have HB := Lib.hid hb'
          have HX := Lib.hid kx
          have hcbi : (i : Int) ≤ cb := by omega
          have hjli : (j : Int) < i := by omega
          clear hv hcap d0 d1 hb hb' hh kx
          go_wp2_with fail
          go_region_held3 (fun wz => wz.cell? ⟨g, j * 2, none⟩ = some (.int .i64 j) ∧ wz.cell? ⟨g, j * 2 + 1, none⟩ = some (.slice (some ⟨gd, 0, none⟩) 40 cd))
            (first
              | (exact HH.out _ kk)
              | (exact HH.out _ kk.drew))
            (first
              | (go_at_call 18; refine (data_ex _ j (by omega)).mono ?_; rintro e w11 ⟨D2, rfl, k11, lD2, hF2⟩; replace kk : Chg [] wr w11 := (by first | exact kk.then k11 | exact kk.drew.then k11))
              | (go_at_call 24; refine (bytes_same _ (by first | exact HB.out.chg kk | exact HB.out.chg kk.drew) (by first | exact hF2.bs | exact hF2.bs.chg (Chg.refl [] w11).drew) (datB_length j)).mono ?_; rintro e w12 ⟨rfl, k12⟩; replace kk : Chg [] wr w12 := (by first | exact kk.then k12 | exact kk.drew.then k12)))
          all_goals
            have HF := Lib.hid (HX.out.then kk)
            clear kk k11 k12 hF2 d0' d1'
            go_wp2_with fail
            go_roundw
            case rel => exact ⟨j + 1, hjl, by go_num, HF.out⟩
            case measure => simp [intOf]; omega
        · obtain rfl : i = j := by omega
          have HX := Lib.hid (HK.out.then kx)
          clear kx
          go_wp2_with fail
          refine (awake24 wr).mono ?_
          rintro e w6 ⟨rfl, k6⟩
          have HX2 := Lib.hid (HX.out.then k6)
          clear k6
          go_wp2_with fail
          go_ret
          exact ⟨rfl, HX2.out⟩
end Go.Proofs.YtkhionhicegfmaaGreat
namespace Go.Proofs.YtkhionhicegfmaaGreat
open Go.ChangeShapes Go.WideShapes Go.ChangeAt Go.RowKit Go.Deep Go.Joins
set_option maxRecDepth 100000

theorem ownk : ownKnob Tryz.prog.godebug = none := by kernel_rfl
/-- what a contract with 'Below' gives of a row's sentence. -/
theorem post_below {H : Type} {enc : TypeId × Value → H} {f : Func} {s : ChangeSpec} {W W' : World} {args : Array Value} {v : Value} {ds gs : List (DataW H)} {before pa pv : List MemPlace} (hb : Below W.heap.size W W')
    (hW : DataW.Whole enc Tryz.prog f.params.toList s.vars false W args.toList ds gs before)
    (hres : DataW.TrodAll enc Tryz.prog W' W.heap.size (fun _ => false) false f.resultTypes.toList (v.resultList f.resultTypes.size) (s.fn H (ds ++ gs)).results [])
    (hargs : DataW.TrodAll enc Tryz.prog W' 0 (fun b => decide (b < W.heap.size)) true f.params.toList args.toList (s.fn H (ds ++ gs)).args pa)
    (hvars : DataW.TrodVars enc Tryz.prog W' (fun b => decide (b < W.heap.size)) s.vars (s.fn H (ds ++ gs)).vars pv) :
    s.post enc Tryz.prog f false true false false W args v W' :=
  ⟨ds, gs, before, [], pa, pv, hW, hres, hargs, hvars, hb.frame _, fun h => by cases h⟩

end Go.Proofs.YtkhionhicegfmaaGreat
namespace Go.Proofs.YtkhionhicegfmaaGreat
open Go.ChangeShapes Go.WideShapes Go.ChangeAt Go.RowKit Go.Deep Go.Joins Go.Lib
set_option maxRecDepth 100000
set_option maxHeartbeats 2000000 in
theorem law3_far (w : World) {n : Int} {m1 m2 c1 c2 : Nat} {pa ta : Option Addr} (h : n < 0 ∨ 20 < n ∨ 30 < m1 ∨ 30 < m2) : Calls Tryz.prog 3 #[.int .i64 n, .slice pa m1 c1, .slice ta m2 c2] w fun e w' => e = .returned (.bool true) ∧ Chg [] w w' := by
  have HA := Lib.hid (awake24 w)
  by_cases h1 : n < 0
  · have d1 : decide (n < 0) = true := decide_eq_true h1
    clear h
    go_enter Tryz.func3, Tryz.ntmps3
    go_wp2_with fail
    refine HA.out.mono ?_
    rintro e w1 ⟨rfl, k⟩
    have HK := Lib.hid k
    clear k
    go_wp2_with fail
    go_ret
    exact ⟨rfl, HK.out⟩
  have d1 : decide (n < 0) = false := decide_eq_false h1
  by_cases h2 : 20 < n
  · have d2 : decide (20 < n) = true := decide_eq_true h2
    clear h
    go_enter Tryz.func3, Tryz.ntmps3
    go_wp2_with fail
    refine HA.out.mono ?_
    rintro e w1 ⟨rfl, k⟩
    have HK := Lib.hid k
    clear k
    go_wp2_with fail
    go_ret
    exact ⟨rfl, HK.out⟩
  have d2 : decide (20 < n) = false := decide_eq_false h2
  by_cases h3 : 30 < m1
  · have h3i : (30 : Int) < m1 := by omega
    clear h
    go_enter Tryz.func3, Tryz.ntmps3
    go_wp2_with fail
    refine HA.out.mono ?_
    rintro e w1 ⟨rfl, k⟩
    have HK := Lib.hid k
    clear k
    go_wp2_with fail
    go_ret
    exact ⟨rfl, HK.out⟩
  have h4 : 30 < m2 := by omega
  have h3i : ¬ ((30 : Int) < m1) := by omega
  have h4i : (30 : Int) < m2 := by omega
  clear h
  go_enter Tryz.func3, Tryz.ntmps3
  go_wp2_with fail
  refine HA.out.mono ?_
  rintro e w1 ⟨rfl, k⟩
  have HK := Lib.hid k
  clear k
  go_wp2_with fail
  go_ret
  exact ⟨rfl, HK.out⟩
theorem law3_any (w : World) {n : Int} {m1 m2 : Nat} {pv tv : Value} (hp : IntsR w pv m1) (ht : IntsR w tv m2) : Calls Tryz.prog 3 #[.int .i64 n, pv, tv] w fun e w' => e = .returned (.bool true) ∧ Chg [] w w' := by
  by_cases h : n < 0 ∨ 20 < n ∨ 30 < m1 ∨ 30 < m2
  · obtain ⟨pa, c1, rfl, -⟩ := hp
    obtain ⟨ta, c2, rfl, -⟩ := ht
    exact law3_far w h
  · obtain ⟨k, rfl⟩ : ∃ k : Nat, n = k := ⟨n.toNat, by omega⟩
    exact law3_in w (by omega) hp ht (by omega) (by omega)
theorem laidOutA : laidOutB Tryz.prog = true := by kernel_rfl
theorem read22 : Tryz.prog.readableRec 22 = true := by kernel_rfl
theorem typesA : 100 < Tryz.prog.types.size := by have h : decide (100 < Tryz.prog.types.size) = true := by kernel_rfl
                                                  exact of_decide_eq_true h
theorem cellsA3 : Tryz.prog.cellsOf 3 = 1 := by kernel_rfl
/-- an argument of type []int, opened. -/
theorem open_row {H : Type} {enc : TypeId × Value → H} {W : World} {base : Nat} {v1 : Value} {d1 : DataW H} {p1 : List MemPlace} (hval : Value.okWide Tryz.prog W .any base 22 v1) (h1 : DataW.Trod enc Tryz.prog W 0 (fun _ => true) true 22 v1 d1 p1) : ∃ m, IntsR W v1 m := by
  obtain ⟨a1, len, cap, rfl⟩ := okWide_slice Tryz.underlying22 hval
  obtain ⟨fuel, hf⟩ := h1
  have hf' : DataW.trod enc Tryz.prog W 0 (fun _ => true) true fuel 22 [.slice a1 len cap] = some (d1, p1) := by simpa [Value.cells] using hf
  rcases open_ints Tryz.underlying22 Tryz.underlying3 cellsA3 hf' with ⟨hcs, hx⟩ | ⟨a, len', cap', zs, hcs, _, hl, hm, hz, hx, hcell, hwz⟩
  · simp only [List.cons.injEq, and_true] at hcs
    rw [hcs]
    exact ⟨0, none, 0, rfl, Nat.le_refl _, fun j hj => by omega⟩
  · simp only [List.cons.injEq, and_true] at hcs
    rw [hcs]
    simp only [if_true] at hz
    refine ⟨len', some a, cap', rfl, hl, fun j hj => ?_⟩
    have hc := hcell j (by omega)
    obtain ⟨b, off, sp⟩ := a
    have hsp : sp = none := by
      have := World.cell?_spot (hcell 0 (by omega))
      simpa [Addr.add] using this
    subst hsp
    refine ⟨b, off, zs.getD j 0, rfl, ?_⟩
    have e : (⟨b, off, none⟩ : Addr).add j = ⟨b, off + j, none⟩ := by unfold Addr.add; split <;> simp_all
    rw [← e]
    exact hc
namespace Law3
theorem contract (H : Type) (enc : TypeId × Value → H) (W : World) (base : Nat) (args : Array Value) (ds gs : List (DataW H)) (before : List MemPlace)
    (hval : ∀ (j : Nat) t v, Tryz.f3.params[j]? = some t → args[j]? = some v → Value.okWide Tryz.prog W .any base t v)
    (hW : DataW.Whole enc Tryz.prog Tryz.f3.params.toList Rows.storeAgainSpec.vars false W args.toList ds gs before) :
    Calls Tryz.prog 3 args W fun e W' => ∃ v, e = .returned v ∧ Rows.storeAgainSpec.post enc Tryz.prog Tryz.f3 false true false false W args v W' := by
  have hW' := hW
  obtain ⟨p, q, hA0, hV, rfl, hfz, hnd⟩ := hW
  have hA : DataW.TrodAll enc Tryz.prog W 0 (fun _ => true) true Tryz.f3.params.toList args.toList ds p := hA0
  rw [Tryz.params3] at hA hval
  obtain ⟨v0, vs0, d0, ds0, p0, q0, hargs, rfl, rfl, h0, r0⟩ := trodAll_cons hA
  obtain ⟨v1, vs1, d1, ds1, p1, q1, rfl, rfl, rfl, h1, r1⟩ := trodAll_cons r0
  obtain ⟨v2, vs2, d2, ds2, p2, q2, rfl, rfl, rfl, h2, r2⟩ := trodAll_cons r1
  obtain ⟨rfl, rfl, rfl⟩ := trodAll_nil r2
  obtain rfl : args = #[v0, v1, v2] := by cases args; simp_all
  obtain ⟨rfl, rfl⟩ := trodVars_none hV
  have hlt : ∀ x ∈ p0 ++ (p1 ++ (p2 ++ [])), x.block < W.heap.size := fun x hx => hW'.lt x (by simpa using hx)
  obtain ⟨a0, rfl, rfl, rfl, w0⟩ := open_int Tryz.underlying3 (hval 0 3 v0 rfl rfl) h0
  obtain ⟨m1, i1⟩ := open_row (hval 1 22 v1 rfl rfl) h1
  obtain ⟨m2, i2⟩ := open_row (hval 2 22 v2 rfl rfl) h2
  refine (law3_any W i1 i2).mono fun e W' ⟨he, hc⟩ => ?_
  have hb := hc.below0
  subst he
  exact ⟨_, rfl, post_below hb hW' (trodAll_mk1 (shut_bool Tryz.underlying4 _)) (trodAll_cons_mk (shut_int Tryz.underlying3 w0)
    (trodAll_cons_mk (Below.trod laidOutA read22 (Nat.lt_trans (by decide) typesA) h1 hb (fun x hx => hlt x (by simp [hx])))
    (trodAll_cons_mk (Below.trod laidOutA read22 (Nat.lt_trans (by decide) typesA) h2 hb (fun x hx => hlt x (by simp [hx]))) trodAll_mk0))) rfl⟩
theorem lifted (os : Os) (started : os.Started) (H : Type) (enc : TypeId × Value → H) :
    ReturnsInHanded {} Tryz.checked os 3 .any (Rows.storeAgainSpec.pre6 enc Tryz.prog Tryz.f3 Rows.storeAgainRow.domain false) (Rows.storeAgainSpec.post enc Tryz.prog Tryz.f3 false true false false) := by
  refine returnsInHanded_of_change (C := Tryz.checked) ownk started (by kernel_rfl) Tryz.func3
    (ChangeSpec.witness6 (enc := enc) (C := Tryz.checked) false ⟨#[], #[.int .i64 0, .slice none 0 0, .slice none 0 0], []⟩ 8 (by kernel_rfl) (by kernel_rfl) (by kernel_rfl) (by kernel_rfl)) ?_
  intro W base args ds gs before hval0 hW hcnd _
  exact contract H enc W base args ds gs before hval0 hW
theorem over : Rows.storeAgainRow.holds Tryz.pinned (OpenSpec.ofChange Rows.storeAgainSpec) :=
  OpenClaim.holds_of_wide 3 Tryz.f3 rfl rfl rfl rfl rfl rfl rfl ⟨rfl, rfl, rfl, rfl, rfl⟩ rfl rfl rfl rfl rfl (by kernel_rfl) Tryz.func3 (by kernel_rfl)
    (of_decide_eq_true (by kernel_rfl)) (by unfold Func.isWrapper; first | (rw [if_pos (by decide +kernel)]; kernel_rfl) | (rw [if_neg (by decide +kernel)]; exact ⟨rfl, rfl⟩))
    (fun os started H enc _ => lifted os started H enc)
theorem said : Rows.StoreAgainSaid := over
end Law3
end Go.Proofs.YtkhionhicegfmaaGreat
