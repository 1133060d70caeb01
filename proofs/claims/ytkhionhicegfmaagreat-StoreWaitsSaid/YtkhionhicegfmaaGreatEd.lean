/- The statement StoreWaits: what waits, and what is open, is gone behind a crash; for every input that can be read. Printed by mkUk.py. -/
import Derived.Test.YtkhionhicegfmaaGreatDl
import Derived.Test.YtkhionhicegfmaaGreatEc
namespace Go.Proofs.YtkhionhicegfmaaGreat
open Go.RowKit Go.Lib

/-- how far the loop has come. -/
def Ph (f k m a b c : Nat) : Prop := a ≤ f ∧ b ≤ k ∧ c ≤ m ∧ (b ≠ 0 → a = f) ∧ (c ≠ 0 → a = f ∧ b = k)
/-- a world of law 24. -/
def K24 (w : World) (K P N G : Nat) : Prop := w.heap[K]? = some (.cells #[.pointer (some ⟨N, 0, none⟩), .pointer (some ⟨P, 0, none⟩), .pointer (some ⟨G, 0, none⟩), .int .i64 0] 56 (0, 0))
theorem K24.keep {w w' : World} {K P N G : Nat} (h : K24 w K P N G) (hc : Chg [] w w') : K24 w' K P N G := hc.heap h (by simp)
theorem K24.kp {w w' : World} {K P N G : Nat} (h : K24 w K P N G) (hc : Kp w w') : K24 w' K P N G := hc _ _ h
set_option maxRecDepth 100000 in
set_option maxHeartbeats 8000000 in
theorem law4_in (w : World) {f k m : Nat} (hf : f ≤ 5) (hk : k ≤ 8) (hm : m ≤ 8) : Calls Tryz.prog 4 #[.int .i64 f, .int .i64 k, .int .i64 m] w fun e w' => e = .returned (.bool true) ∧ Chg [] w w' := by
  have hqq : ∀ y : Int, (y != y) = false := fun y => bne_self_eq_false y
  go_enter Tryz.func4, Tryz.ntmps4
  go_wp2_with fail
  refine (least24 w).mono ?_
  rintro e wa ⟨rfl, ka⟩
  go_wp2_with fail
  refine (fresh24 wa).mono ?_
  rintro e wb ⟨K, G, d, ops, rfl, kb, hK, hSt, hops⟩
  have hMn : Mn w 0 0 0 d.P d.N wb := ⟨d, wa.heap.size, _, [], fun _ => [], ops, 0, _, _, _, _, [], [], [], rfl, rfl, hSt.k, ⟨⟨fun p hp => (by cases hp), fun b x hx => (by cases hx)⟩, fun c => by simp, by omega, fun j _ => rfl, rfl, fun j _ => rfl, fun p hp => (by cases hp), rfl⟩, World.ownsRow_nil _ _ _ _, rfl, fun x hx => (by cases hx), ka.size, ka.then kb⟩
  generalize d.P = P at hK hMn
  generalize d.N = N at hK hMn
  have HM := Lib.hid hMn
  have HK := Lib.hid (show K24 wb K P N G from hK)
  clear hMn hK hSt ka kb
  go_wp2_with fail
  go_loopw [9] (fun ii wr => ∃ a b c j : Nat, a + b + c = j ∧ Ph f k m a b c ∧ ii = .int .i64 j ∧ K24 wr K P N G ∧ Mn w a b c P N wr) (fun ii _ => f + k + m - (intOf ii).toNat)
  case atStart => exact ⟨0, 0, 0, 0, rfl, by unfold Ph; omega, rfl, HK.out, HM.out⟩
  case round =>
    obtain ⟨a, b, c, j, hj, hph, rfl, hK, hMn⟩ := hrel
    unfold Ph at hph
    have HS := Lib.hid (And.intro hj hph)
    clear hj hph
    have kP : wr.cell? ⟨K, 1, none⟩ = some (.pointer (some ⟨P, 0, none⟩)) := cell_is hK 1 rfl
    by_cases hlt : j < f + k + m
    · have HB := beg_n wr hMn (by have HSo := HS.out; omega) (by have HSo := HS.out; omega)
      rw [HS.out.1] at HB
      replace HB := Lib.hid HB
      have HK := Lib.hid hK
      clear hMn hK
      go_wp2_with fail
      refine HB.out.mono ?_
      rintro e w5 ⟨rfl, ⟨q, h5⟩, kp5⟩
      have h5K := HK.out.kp kp5
      have hWr : ∀ w4 D, M1 w a b c P N q [] w4 → K24 w4 K P N G → Fo w4 D (datB j) → ∀ wx E cp, Chg [] w4 wx → wx.heap[E]? = some (.cells #[.int .i64 j, .slice (some ⟨D, 0, none⟩) 40 40] 43 (0, 0)) →
          Calls Tryz.prog 17 #[.pointer (some ⟨P, 0, none⟩), .int .i64 ((j : Nat) + 1), .slice (some ⟨E, 0, none⟩) 1 cp] wx fun e w' => e = .returned (.int .i64 0) ∧ ∃ v, M1 w a b c P N (putQ q (j : Nat) (datB j)) [((j : Int), v)] w' ∧ K24 w' K P N G := fun w4 D h4 hk4 hF wx E cp kx hE => by
        have HW := wri_n wx (cp := cp) (c := 40) (b := (j : Nat)) (h4.keep kx) (cell_is hE 0 rfl) (cell_is hE 1 rfl) (hF.bs.chg kx) (datB_length j) (by have HSo := HS.out; omega) (by have HSo := HS.out; omega)
        rw [HS.out.1] at HW
        refine HW.mono ?_
        rintro e w' ⟨rfl, ⟨v, h⟩, kp⟩
        exact ⟨rfl, v, h, (hk4.keep kx).kp kp⟩
      have HWr := Lib.hid hWr
      have HDt : Hid (∀ wx, Calls Tryz.prog 18 #[.int .i64 (j : Nat)] wx _) := Lib.hid (fun wx => data_ex wx j (by have HSo := HS.out; omega))
      have p3 : w5.cell? ⟨K, 1, none⟩ = some (.pointer (some ⟨P, 0, none⟩)) := cell_is h5K 1 rfl
      have p3d : w5.drew.cell? ⟨K, 1, none⟩ = some (.pointer (some ⟨P, 0, none⟩)) := p3
      clear hWr kp5 HB HK kP
      go_wp2_with fail
      go_region_held3 (fun wx => wx.cell? ⟨K, 1, none⟩ = some (.pointer (some ⟨P, 0, none⟩)))
        (first
          | (exact p3)
          | (exact p3d)
          | (exact pA _)
          | (exact p5)
          | (exact p5d))
        (first
          | (go_at_call 18; refine (HDt.out _).mono ?_; rintro e w6 ⟨D, rfl, k4, lD, hF⟩; have h4 : M1 w a b c P N q [] w6 := (by first | exact h5.keep k4 | exact h5.keep ((Chg.refl [] w5).drew.then k4)); have h4K : K24 w6 K P N G := (by first | exact h5K.keep k4 | exact h5K.keep ((Chg.refl [] w5).drew.then k4)); have p3 : w6.cell? ⟨K, 1, none⟩ = some (.pointer (some ⟨P, 0, none⟩)) := cell_is h4K 1 rfl; have p3d : w6.drew.cell? ⟨K, 1, none⟩ = some (.pointer (some ⟨P, 0, none⟩)) := p3; have pA : ∀ o, (w6.alloc o).cell? ⟨K, 1, none⟩ = some (.pointer (some ⟨P, 0, none⟩)) := fun o => (Chg.alloc (S := []) w6 o).cell p3 (by simp))
          | (go_at_call 17; refine (HWr.out w6 D h4 h4K hF _ _ _ (by first | exact Chg.alloc _ _ | exact (Chg.alloc _ _).drew | exact (Chg.refl [] _).drew.then_alloc _) (by first | exact heap_new _ _)).mono ?_; rintro e w7 ⟨rfl, v7, h7, h7K⟩; have p5 : w7.cell? ⟨K, 1, none⟩ = some (.pointer (some ⟨P, 0, none⟩)) := cell_is h7K 1 rfl; have p5d : w7.drew.cell? ⟨K, 1, none⟩ = some (.pointer (some ⟨P, 0, none⟩)) := p5))
      all_goals
       have HK7 := Lib.hid h7K
       have kP7 := p5
       have H7 := Lib.hid h7
       clear h5 h5K h4 h4K p3 p3d pA p5 p5d k4 lD hF h7 h7K HWr HDt
       by_cases h1 : j < f + k
       · obtain rfl : c = 0 := by have HSo := HS.out; omega
         by_cases h2 : j < f
         · obtain rfl : b = 0 := by have HSo := HS.out; omega
           obtain rfl : a = j := by have HSo := HS.out; omega
           have HC : Hid (Calls Tryz.prog 19 #[.pointer (some ⟨P, 0, none⟩), .int .i64 ((a : Nat) + 1)] w7 fun e w' => e = .returned (.int .i64 0) ∧ M3 w a P N (putQ q (a : Nat) (datB a)) [((a : Int), v7)] w' ∧ Kp w7 w') := Lib.hid (comA w7 H7.out (by have HSo := HS.out; omega) (by simp) (by simp))
           clear H7
           go_wp2_with fail
           refine HC.out.mono ?_
           rintro e w8 ⟨rfl, h8, kp8⟩
           have hK8 := HK7.out.kp kp8
           have HK8 := Lib.hid hK8
           have kP8 : w8.cell? ⟨K, 1, none⟩ = some (.pointer (some ⟨P, 0, none⟩)) := cell_is hK8 1 rfl
           have HF := Lib.hid (fluA w8 h8 (by simp [putQ]) (by have HSo := HS.out; omega))
           clear h8 kp8 hK8 HC HK7 kP7
           go_wp2_with fail
           refine HF.out.mono ?_
           rintro e w9 ⟨rfl, h9, kp9⟩
           have HE := Lib.hid (And.intro (HK8.out.kp kp9) h9)
           clear h9 kp9 HF HK8 kP8
           go_wp2_with fail
           go_roundw
           case rel => exact ⟨a + 1, 0, 0, a + 1, rfl, by unfold Ph; have HSo := HS.out; omega, by go_num, HE.out.1, HE.out.2⟩
           case measure => have HSo := HS.out; simp [intOf]; omega
         · have hab : a + b = j := by have HSo := HS.out; omega
           obtain rfl : a = f := by have HSo := HS.out; omega
           have h7' : M1 w a b 0 P N (putQ q (j : Nat) (datB j)) [(((a + b : Nat) : Int), v7)] w7 := by rw [hab]; exact H7.out
           clear hab
           have HC := com_n w7 h7' (by have HSo := HS.out; omega) (by have HSo := HS.out; omega)
           rw [HS.out.1] at HC
           replace HC := Lib.hid HC
           clear H7 h7'
           go_wp2_with fail
           refine HC.out.mono ?_
           rintro e w8 ⟨rfl, h8, kp8⟩
           have HE := Lib.hid (And.intro (HK7.out.kp kp8) h8)
           clear h8 kp8 HC HK7 kP7
           go_wp2_with fail
           go_roundw
           case rel => exact ⟨a, b + 1, 0, j + 1, by have HSo := HS.out; omega, by unfold Ph; have HSo := HS.out; omega, by go_num, HE.out.1, HE.out.2⟩
           case measure => have HSo := HS.out; simp [intOf]; omega
       · have h2 : ¬ j < f := by have HSo := HS.out; omega
         have HE := Lib.hid (And.intro HK7.out (opn_n H7.out))
         clear H7 HK7 kP7
         go_wp2_with fail
         go_roundw
         case rel => exact ⟨a, b, c + 1, j + 1, by have HSo := HS.out; omega, by unfold Ph; have HSo := HS.out; omega, by go_num, HE.out.1, HE.out.2⟩
         case measure => have HSo := HS.out; simp [intOf]; omega
    · obtain ⟨rfl, rfl, rfl⟩ : a = f ∧ b = k ∧ c = m := by have HSo := HS.out; omega
      have HQ := Lib.hid (que_n wr hMn)
      have HO := opn_of wr hMn (by have HSo := HS.out; omega) (by have HSo := HS.out; omega)
      rw [Int.natCast_add] at HO
      replace HO := Lib.hid HO
      have HMn := Lib.hid hMn
      have HK := Lib.hid hK
      clear hMn hK
      go_wp2_with fail
      refine HQ.out.mono ?_
      rintro e w4 ⟨rfl, rfl⟩
      go_wp2_with fail
      refine HO.out.mono ?_
      rintro e w4 ⟨rfl, k4⟩
      have HC := Lib.hid (cra_n w4 (HMn.out.keep k4) (by have HSo := HS.out; omega))
      have hK4 := HK.out.keep k4
      have kN : w4.cell? ⟨K, 0, none⟩ = some (.pointer (some ⟨N, 0, none⟩)) := cell_is hK4 0 rfl
      clear k4 hK4 HK HMn HQ HO kP
      go_wp2_with fail
      refine HC.out.mono ?_
      rintro e w5 ⟨N', rfl, hD, -⟩
      have HMt := Lib.hid (mount_i w5 hD (by have HSo := HS.out; omega))
      clear hD HC
      go_wp2_with fail
      refine HMt.out.mono ?_
      rintro e w6 ⟨d', rfl, -, hMa⟩
      have HMa := Lib.hid hMa
      have HD := Lib.hid (dump_i w6 hMa)
      clear hMa HMt
      go_wp2_with fail
      refine HD.out.mono ?_
      rintro e w7 ⟨pb, cb, rfl, k7, -, -⟩
      have hMa := HMa.out.keep k7
      have HMa7 := Lib.hid hMa
      have HL := Lib.hid (last_i w7 hMa)
      have HO := Lib.hid (opn_i w7 hMa)
      clear hMa k7 HD HMa
      go_wp2_with fail
      refine HL.out.mono ?_
      rintro e w8 ⟨rfl, rfl⟩
      go_wp2_with fail
      refine HO.out.mono ?_
      rintro e w8 ⟨rfl, k8⟩
      have hMa := HMa7.out.keep k8
      have HMa8 := Lib.hid hMa
      have HQ := Lib.hid (que_i w8 hMa)
      have HR := Lib.hid (res0_i w8 hMa)
      clear hMa k8 HMa7 HL HO
      go_wp2_with fail
      refine HQ.out.mono ?_
      rintro e w9 ⟨rfl, rfl⟩
      go_wp2_with fail
      refine HR.out.mono ?_
      rintro e w9 ⟨rfl, k9⟩
      have HB := Lib.hid (beg_i w9 (HMa8.out.keep k9) (by have HSo := HS.out; omega))
      clear k9 HR HQ HMa8
      go_wp2_with fail
      refine HB.out.mono ?_
      rintro e w10 ⟨rfl, q, h10⟩
      have HA := Lib.hid (awake24 w10)
      have hkk : Chg [] w w10 := by
        obtain ⟨base, d, lw, lo, Lv, vs, ops, rds, dv, gs, zs, e1, e2, e3, e4, e5, e6, e7, e8, e9⟩ := h10
        exact e9
      have HKK := Lib.hid hkk
      clear hkk h10 HB
      go_wp2_with fail
      refine HA.out.mono ?_
      rintro e w11 ⟨rfl, k11⟩
      have HF := Lib.hid (HKK.out.then k11)
      clear k11 HA HKK
      go_wp2_with fail
      go_ret
      exact ⟨rfl, HF.out⟩
end Go.Proofs.YtkhionhicegfmaaGreat
namespace Go.Proofs.YtkhionhicegfmaaGreat
open Go.ChangeShapes Go.WideShapes Go.ChangeAt Go.RowKit Go.Deep Go.Joins Go.Lib
set_option maxRecDepth 100000
set_option maxHeartbeats 2000000 in
theorem law4_far (w : World) {x y z : Int} (h : x < 0 ∨ 5 < x ∨ y < 0 ∨ 8 < y ∨ z < 0 ∨ 8 < z) : Calls Tryz.prog 4 #[.int .i64 x, .int .i64 y, .int .i64 z] w fun e w' => e = .returned (.bool true) ∧ Chg [] w w' := by
  have HA := Lib.hid (awake24 w)
  by_cases h1 : x < 0
  · have d1 : decide (x < 0) = true := decide_eq_true h1
    clear h
    go_enter Tryz.func4, Tryz.ntmps4
    go_wp2_with fail
    refine HA.out.mono ?_
    rintro e w1 ⟨rfl, k⟩
    have HK := Lib.hid k
    clear k
    go_wp2_with fail
    go_ret
    exact ⟨rfl, HK.out⟩
  have d1 : decide (x < 0) = false := decide_eq_false h1
  by_cases h2 : 5 < x
  · have d2 : decide (5 < x) = true := decide_eq_true h2
    clear h
    go_enter Tryz.func4, Tryz.ntmps4
    go_wp2_with fail
    refine HA.out.mono ?_
    rintro e w1 ⟨rfl, k⟩
    have HK := Lib.hid k
    clear k
    go_wp2_with fail
    go_ret
    exact ⟨rfl, HK.out⟩
  have d2 : decide (5 < x) = false := decide_eq_false h2
  by_cases h3 : y < 0
  · have d3 : decide (y < 0) = true := decide_eq_true h3
    clear h
    go_enter Tryz.func4, Tryz.ntmps4
    go_wp2_with fail
    refine HA.out.mono ?_
    rintro e w1 ⟨rfl, k⟩
    have HK := Lib.hid k
    clear k
    go_wp2_with fail
    go_ret
    exact ⟨rfl, HK.out⟩
  have d3 : decide (y < 0) = false := decide_eq_false h3
  by_cases h4 : 8 < y
  · have d4 : decide (8 < y) = true := decide_eq_true h4
    clear h
    go_enter Tryz.func4, Tryz.ntmps4
    go_wp2_with fail
    refine HA.out.mono ?_
    rintro e w1 ⟨rfl, k⟩
    have HK := Lib.hid k
    clear k
    go_wp2_with fail
    go_ret
    exact ⟨rfl, HK.out⟩
  have d4 : decide (8 < y) = false := decide_eq_false h4
  by_cases h5 : z < 0
  · have d5 : decide (z < 0) = true := decide_eq_true h5
    clear h
    go_enter Tryz.func4, Tryz.ntmps4
    go_wp2_with fail
    refine HA.out.mono ?_
    rintro e w1 ⟨rfl, k⟩
    have HK := Lib.hid k
    clear k
    go_wp2_with fail
    go_ret
    exact ⟨rfl, HK.out⟩
  have d5 : decide (z < 0) = false := decide_eq_false h5
  have h6 : 8 < z := by omega
  have d6 : decide (8 < z) = true := decide_eq_true h6
  clear h
  go_enter Tryz.func4, Tryz.ntmps4
  go_wp2_with fail
  refine HA.out.mono ?_
  rintro e w1 ⟨rfl, k⟩
  have HK := Lib.hid k
  clear k
  go_wp2_with fail
  go_ret
  exact ⟨rfl, HK.out⟩
theorem law4_any (w : World) {x y z : Int} : Calls Tryz.prog 4 #[.int .i64 x, .int .i64 y, .int .i64 z] w fun e w' => e = .returned (.bool true) ∧ Chg [] w w' := by
  by_cases h : x < 0 ∨ 5 < x ∨ y < 0 ∨ 8 < y ∨ z < 0 ∨ 8 < z
  · exact law4_far w h
  · obtain ⟨f, rfl⟩ : ∃ k : Nat, x = k := ⟨x.toNat, by omega⟩
    obtain ⟨k, rfl⟩ : ∃ k : Nat, y = k := ⟨y.toNat, by omega⟩
    obtain ⟨m, rfl⟩ : ∃ k : Nat, z = k := ⟨z.toNat, by omega⟩
    exact law4_in w (by omega) (by omega) (by omega)
namespace Law4
theorem contract (H : Type) (enc : TypeId × Value → H) (W : World) (base : Nat) (args : Array Value) (ds gs : List (DataW H)) (before : List MemPlace)
    (hval : ∀ (j : Nat) t v, Tryz.f4.params[j]? = some t → args[j]? = some v → Value.okWide Tryz.prog W .any base t v)
    (hW : DataW.Whole enc Tryz.prog Tryz.f4.params.toList Rows.storeWaitsSpec.vars false W args.toList ds gs before) :
    Calls Tryz.prog 4 args W fun e W' => ∃ v, e = .returned v ∧ Rows.storeWaitsSpec.post enc Tryz.prog Tryz.f4 false true false false W args v W' := by
  have hW' := hW
  obtain ⟨p, q, hA0, hV, rfl, hfz, hnd⟩ := hW
  have hA : DataW.TrodAll enc Tryz.prog W 0 (fun _ => true) true Tryz.f4.params.toList args.toList ds p := hA0
  rw [Tryz.params4] at hA hval
  obtain ⟨v0, vs0, d0, ds0, p0, q0, hargs, rfl, rfl, h0, r0⟩ := trodAll_cons hA
  obtain ⟨v1, vs1, d1, ds1, p1, q1, rfl, rfl, rfl, h1, r1⟩ := trodAll_cons r0
  obtain ⟨v2, vs2, d2, ds2, p2, q2, rfl, rfl, rfl, h2, r2⟩ := trodAll_cons r1
  obtain ⟨rfl, rfl, rfl⟩ := trodAll_nil r2
  obtain rfl : args = #[v0, v1, v2] := by cases args; simp_all
  obtain ⟨rfl, rfl⟩ := trodVars_none hV
  obtain ⟨a0, rfl, rfl, rfl, w0⟩ := open_int Tryz.underlying3 (hval 0 3 v0 rfl rfl) h0
  obtain ⟨a1, rfl, rfl, rfl, w1⟩ := open_int Tryz.underlying3 (hval 1 3 v1 rfl rfl) h1
  obtain ⟨a2, rfl, rfl, rfl, w2⟩ := open_int Tryz.underlying3 (hval 2 3 v2 rfl rfl) h2
  refine (law4_any W).mono fun e W' ⟨he, hc⟩ => ?_
  subst he
  exact ⟨_, rfl, post_below hc.below0 hW' (trodAll_mk1 (shut_bool Tryz.underlying4 _)) (trodAll_cons_mk (shut_int Tryz.underlying3 w0) (trodAll_cons_mk (shut_int Tryz.underlying3 w1) (trodAll_cons_mk (shut_int Tryz.underlying3 w2) trodAll_mk0))) rfl⟩
theorem lifted (os : Os) (started : os.Started) (H : Type) (enc : TypeId × Value → H) :
    ReturnsInHanded {} Tryz.checked os 4 .any (Rows.storeWaitsSpec.pre6 enc Tryz.prog Tryz.f4 Rows.storeWaitsRow.domain false) (Rows.storeWaitsSpec.post enc Tryz.prog Tryz.f4 false true false false) := by
  refine returnsInHanded_of_change (C := Tryz.checked) ownk started (by kernel_rfl) Tryz.func4
    (ChangeSpec.witness6 (enc := enc) (C := Tryz.checked) false ⟨#[], #[.int .i64 0, .int .i64 0, .int .i64 0], []⟩ 8 (by kernel_rfl) (by kernel_rfl) (by kernel_rfl) (by kernel_rfl)) ?_
  intro W base args ds gs before hval0 hW hcnd _
  exact contract H enc W base args ds gs before hval0 hW
theorem over : Rows.storeWaitsRow.holds Tryz.pinned (OpenSpec.ofChange Rows.storeWaitsSpec) :=
  OpenClaim.holds_of_wide 4 Tryz.f4 rfl rfl rfl rfl rfl rfl rfl ⟨rfl, rfl, rfl, rfl, rfl⟩ rfl rfl rfl rfl rfl (by kernel_rfl) Tryz.func4 (by kernel_rfl)
    (of_decide_eq_true (by kernel_rfl)) (by unfold Func.isWrapper; first | (rw [if_pos (by decide +kernel)]; kernel_rfl) | (rw [if_neg (by decide +kernel)]; exact ⟨rfl, rfl⟩))
    (fun os started H enc _ => lifted os started H enc)
theorem said : Rows.StoreWaitsSaid := over
end Law4
end Go.Proofs.YtkhionhicegfmaaGreat
