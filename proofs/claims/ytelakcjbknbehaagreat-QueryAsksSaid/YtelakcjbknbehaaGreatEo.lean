/- Lemmas and walks. -/
import Derived.Deep.CutBlock
import Derived.Test.YtelakcjbknbehaaGreatEj
import Derived.Test.YtelakcjbknbehaaGreatEl
import Derived.Test.YtelakcjbknbehaaGreatEm
import Derived.Test.YtelakcjbknbehaaGreatEn
namespace Go.Proofs.YtelakcjbknbehaaGreat
open Go.RowKit Go.Lib Ieee

def opC (op : BinOp) (a b : Nat) : Nat := match floatBits op .f64 a b with | some d => canB d | none => nanB
theorem opC_some {op : BinOp} {a b d : Nat} (h : floatBits op .f64 a b = some d) : opC op a b = canB d := by unfold opC; rw [h]
theorem run_flop {op : BinOp} (hop : op = .add ∨ op = .sub ∨ op = .mul ∨ op = .quo) (t : TypeId) (a b : Nat) (w : World) :
  ∃ c w', (binOp op t (.float .f64 a) (.float .f64 b)).run Tryz.prog w = .ok (.float .f64 c) w' ∧ canB c = opC op a b ∧ c < 18446744073709551616 ∧ Chg [] w w' := by
 cases h : floatBits op .f64 a b with
 | some d =>
  have hlt := floatBits_wf h
  exact ⟨d, w, run_float_arith w op t .f64 a b d h, (opC_some h).symm, by simpa [Lit.wf] using hlt, Chg.refl _ _⟩
 | none =>
  refine ⟨(Question.nanBits .f64 a b).cut (w.tape w.drawn (.nanBits .f64 a b)), w.drew, ?_, ?_, ?_, (Chg.refl _ _).drew⟩
  ·rcases hop with rfl | rfl | rfl | rfl <;> (unfold floatBits at h; simp only at h; simp [binOp, Op.floatArith, h, Question.forced])
  ·have : isNaNB ((Question.nanBits .f64 a b).cut (w.tape w.drawn (.nanBits .f64 a b))) = true := by
    show isNaNB ((w.tape w.drawn (.nanBits .f64 a b) % 2) * 9223372036854775808 + 9218868437227405312 + 1 + (w.tape w.drawn (.nanBits .f64 a b) / 2) % 4503599627370495) = true
    have h1 : w.tape w.drawn (.nanBits .f64 a b) % 2 < 2 := Nat.mod_lt _ (by decide)
    have h2 : (w.tape w.drawn (.nanBits .f64 a b) / 2) % 4503599627370495 < 4503599627370495 := Nat.mod_lt _ (by decide)
    generalize w.tape w.drawn (.nanBits .f64 a b) % 2 = u at *
    generalize (w.tape w.drawn (.nanBits .f64 a b) / 2) % 4503599627370495 = q at *
    unfold isNaNB magB
    refine decide_eq_true ?_
    rcases (by omega : u = 0 ∨ u = 1) with rfl | rfl <;> omega
   unfold canB opC
   rw [if_pos this, h]
  ·show (w.tape w.drawn (.nanBits .f64 a b) % 2) * 9223372036854775808 + 9218868437227405312 + 1 + (w.tape w.drawn (.nanBits .f64 a b) / 2) % 4503599627370495 < 18446744073709551616
   have h1 : w.tape w.drawn (.nanBits .f64 a b) % 2 < 2 := Nat.mod_lt _ (by decide)
   have h2 : (w.tape w.drawn (.nanBits .f64 a b) / 2) % 4503599627370495 < 4503599627370495 := Nat.mod_lt _ (by decide)
   omega
theorem read_isnan {b : Nat} (h : isNaNB b = true) : ∃ s t, double.read b = .nan s t := by
 have hm := of_decide_eq_true h
 unfold magB at hm
 unfold Format.read
 rw [signW]
 simp only []
 have e2 : double.binade = 4503599627370496 := by decide
 have e3 : double.infRung = 9218868437227405312 := by decide
 rw [e2, e3, if_neg (by omega), if_neg (by omega), if_neg (by omega)]
 exact ⟨_, _, rfl⟩
theorem fbits_nanl {op : BinOp} {a b : Nat} (h : isNaNB a = true) : floatBits op .f64 a b = none := by
 obtain ⟨s, t, e⟩ := read_isnan h
 unfold floatBits
 cases op <;> simp only [FloatKind.format, Format.add, Format.sub, Format.mul, Format.div, e] <;> rfl
theorem fbits_nanr {op : BinOp} {a b : Nat} (h : isNaNB b = true) : floatBits op .f64 a b = none := by
 obtain ⟨s, t, e⟩ := read_isnan h
 unfold floatBits
 cases op <;> simp only [FloatKind.format, Format.add, Format.sub, Format.mul, Format.div, e] <;> cases double.read a <;> rfl
theorem isnan_can (a : Nat) : isNaNB (canB a) = isNaNB a := by
 unfold canB
 cases h : isNaNB a
 ·rw [if_neg (by decide), h]
 ·rw [if_pos rfl]; decide
theorem canB_canB (a : Nat) : canB (canB a) = canB a := by
 cases h : isNaNB a
 ·have e : canB a = a := by unfold canB; rw [h, if_neg (by decide)]
  rw [e, e]
 ·have e : canB a = nanB := by unfold canB; rw [h, if_pos rfl]
  rw [e]; decide
theorem opC_canl (op : BinOp) (a b : Nat) : opC op (canB a) b = opC op a b := by
 cases h : isNaNB a
 ·unfold canB; rw [h, if_neg (by decide)]
 ·unfold opC; rw [fbits_nanl h, fbits_nanl (by rw [isnan_can]; exact h)]
theorem opC_canr (op : BinOp) (a b : Nat) : opC op a (canB b) = opC op a b := by
 cases h : isNaNB b
 ·unfold canB; rw [h, if_neg (by decide)]
 ·unfold opC; rw [fbits_nanr h, fbits_nanr (by rw [isnan_can]; exact h)]
set_option maxRecDepth 100000 in
theorem plain_any (b : Nat) (w : World) : Calls Tryz.prog 145 #[.float .f64 b] w fun e w' => e = .returned (.float .f64 (canB b)) ∧ w = w' := by
 have HB := Lib.hid (fbits_any b w)
 have HF := Lib.hid (fromBits_any (canB b) w)
 rw [canB_canB] at HF
 go_enter Tryz.func145, Tryz.ntmps145
 go_wp2_with fail
 refine HB.out.mono ?_
 rintro e w1 ⟨rfl, rfl⟩
 go_wp2_with fail
 refine HF.out.mono ?_
 rintro e w1 ⟨rfl, rfl⟩
 go_wp2_with fail
 go_ret
 exact ⟨rfl, rfl⟩
set_option maxRecDepth 100000 in
theorem same_any (a b : Nat) (w : World) : Calls Tryz.prog 150 #[.float .f64 a, .float .f64 b] w fun e w' => e = .returned (.bool (canB a == canB b)) ∧ w = w' := by
 have HA := Lib.hid (fbits_any a w)
 have HB := Lib.hid (fbits_any b w)
 have he : ((canB a : Int) == (canB b : Int)) = (canB a == canB b) := by
  rw [Bool.eq_iff_iff, beq_iff_eq, beq_iff_eq]
  exact Int.ofNat_inj
 generalize canB a = x at *
 generalize canB b = y at *
 generalize hz : (x == y) = z at *
 go_enter Tryz.func150, Tryz.ntmps150
 go_wp2_with fail
 refine HA.out.mono ?_
 rintro e w1 ⟨rfl, rfl⟩
 go_wp2_with fail
 refine HB.out.mono ?_
 rintro e w1 ⟨rfl, rfl⟩
 go_wp2_with fail
 go_ret
 exact ⟨by first | rfl | rw [← he], rfl⟩
def negC (l : List Nat) : Bool := decide (0 < l.length) && l.all (fun x => clsB x == 5)
theorem negC_take {l : List Nat} {j : Nat} (h : j < l.length) : (l.take (j + 1)).all (fun x => clsB x == 5) = ((l.take j).all (fun x => clsB x == 5) && (clsB l[j] == 5)) := by
 rw [List.take_succ_eq_append_getElem h, List.all_append]
 simp
set_option maxRecDepth 100000 in
set_option maxHeartbeats 4000000 in
theorem negative_any (w : World) {g o n cp : Nat} {l : List Nat} (hl : l.length = n) (hn2 : n ≤ 1000000) (hF : Fl w (some ⟨g, o, none⟩) l) (hc : ∀ x ∈ l, x < 18446744073709551616) :
  Calls Tryz.prog 142 #[.slice (some ⟨g, o, none⟩) n cp] w fun e w' => e = .returned (.bool (negC l)) ∧ w = w' := by
 have HF := Lib.hid hF
 have HL := Lib.hid hl
 have HC := Lib.hid hc
 clear hF hl hc
 go_enter Tryz.func142, Tryz.ntmps142
 go_wp2_with fail
 go_loopw [4, 7] (fun _ i wr => w = wr ∧ ∃ j : Nat, j ≤ n ∧ i = .int .i64 j ∧ Hid ((l.take j).all (fun x => clsB x == 5) = true)) (fun _ i _ => n - (intOf i).toNat)
 case atStart => exact ⟨rfl, 0, Nat.zero_le _, rfl, Lib.hid rfl⟩
 case round =>
  obtain ⟨rfl, j, hj, rfl, hy⟩ := hrel
  rcases Nat.lt_or_ge j n with hlt | hge
  ·have hlt' : (j : Int) < n := by omega
   have hjl : j < l.length := by have := HL.out; omega
   obtain ⟨x, hx⟩ : ∃ x, x = l[j] := ⟨_, rfl⟩
   have cj : w.cell? ⟨g, o + j, none⟩ = some (.float .f64 x) := by rw [hx]; exact fl_at HF.out j hjl
   have hxl : x ∈ l := by rw [hx]; exact List.getElem_mem _
   have HK := Lib.hid (class_any x w (HC.out x hxl))
   have HT := Lib.hid (negC_take hjl)
   rw [← hx] at HT
   have HXL := Lib.hid hxl
   clear hx hxl
   by_cases he : clsB x = 5
   ·have HN := Lib.hid (show (l.take (j + 1)).all (fun x => clsB x == 5) = true by rw [HT.out, hy.out, he]; rfl)
    rw [he] at HK
    clear he
    go_wp2_with fail
    refine HK.out.mono ?_
    rintro e w2 ⟨rfl, rfl⟩
    go_wp2_with fail
    go_roundw
    case rel => exact ⟨trivial, j + 1, hlt, by go_num, HN⟩
    case measure => simp [intOf]; omega
   ·have HN := Lib.hid (show negC l = false by
     unfold negC
     have : l.all (fun x => clsB x == 5) = false := by
      rw [List.all_eq_false]
      exact ⟨x, HXL.out, by simpa using he⟩
     rw [this, Bool.and_false])
    have he2 : (clsB x == 5) = false := by simpa using he
    generalize clsB x = y at *
    go_wp2_with fail
    refine HK.out.mono ?_
    rintro e w2 ⟨rfl, rfl⟩
    go_wp2_with fail
    go_ret
    exact ⟨by rw [HN.out]; rfl, rfl⟩
  ·obtain rfl : j = n := by omega
   have hnl : ¬ ((j : Int) < j) := by omega
   have HE := Lib.hid (show negC l = decide (0 < j) by
    have h1 := hy.out
    rw [List.take_of_length_le (by have := HL.out; omega)] at h1
    unfold negC
    rw [h1, Bool.and_true, HL.out])
   clear hy
   go_wp2_with fail
   go_ret
   exact ⟨by rw [HE.out]; rfl, rfl⟩
set_option maxRecDepth 100000 in
theorem copysign_neg (w : World) : Calls Tryz.prog 143 #[.float .f64 0, .float .f64 13830554455654793216] w fun e w' => e = .returned (.float .f64 9223372036854775808) ∧ w = w' := by
 have hb := fun b => run_bits b
 have hf := fun n : Int => run_from n
 go_enter Tryz.func143, Tryz.ntmps143
 go_wp2_with fail
 go_ret
 exact ⟨rfl, rfl⟩
def geA (a b : Nat) : Bool := FloatKind.f64.format.order (magB a) (magB b) == some .gt || FloatKind.f64.format.order (magB a) (magB b) == some .eq
theorem mag_nan {b : Nat} (h : isNaNB b = true) : isNaNB (magB b) = true := by
 have hm := of_decide_eq_true h
 unfold magB at hm
 unfold isNaNB magB
 refine decide_eq_true ?_
 omega
theorem geA_can (a b : Nat) : geA (canB a) b = geA a b := by
 cases h : isNaNB a
 ·have e : canB a = a := by unfold canB; rw [h, if_neg (by decide)]
  rw [e]
 ·have e1 : FloatKind.f64.format.order (magB a) (magB b) = none := nan_order (mag_nan h) _
  have e2 : FloatKind.f64.format.order (magB (canB a)) (magB b) = none := nan_order (mag_nan (by rw [isnan_can]; exact h)) _
  unfold geA
  rw [e1, e2]
def stepC (p : Nat × Nat) (x : Nat) : Nat × Nat :=
 let t := opC .add p.1 x
 (t, opC .add p.2 (if geA p.1 x then opC .add (opC .sub p.1 t) x else opC .add (opC .sub x t) p.1))
def sumC (l : List Nat) : Nat :=
 if negC l then 9223372036854775808 else
  let p := l.foldl stepC (0, 0)
  if isNaNB p.2 then p.1 else opC .add p.1 p.2
theorem stepC_1 (p : Nat × Nat) (x : Nat) : (stepC p x).1 = opC .add p.1 x := rfl
theorem stepC_ge {p : Nat × Nat} {x : Nat} (h : geA p.1 x = true) : (stepC p x).2 = opC .add p.2 (opC .add (opC .sub p.1 (opC .add p.1 x)) x) := by
 unfold stepC; simp only [h, if_true]
theorem stepC_lt {p : Nat × Nat} {x : Nat} (h : geA p.1 x = false) : (stepC p x).2 = opC .add p.2 (opC .add (opC .sub x (opC .add p.1 x)) p.1) := by
 unfold stepC; simp [h]
set_option maxRecDepth 100000 in
set_option maxHeartbeats 4000000 in
theorem fsum_any (w : World) {g o n cp : Nat} {l : List Nat} (hl : l.length = n) (hn2 : n ≤ 1000000) (hF : Fl w (some ⟨g, o, none⟩) l) (hc : ∀ x ∈ l, x < 18446744073709551616) :
  Calls Tryz.prog 67 #[.slice (some ⟨g, o, none⟩) n cp] w fun e w' => e = .returned (.float .f64 (sumC l)) ∧ Chg [] w w' := by
 have HF := Lib.hid hF
 have HL := Lib.hid hl
 have HC := Lib.hid hc
 have HNEG := Lib.hid (negative_any w (cp := cp) hl hn2 hF hc)
 clear hF hl hc
 cases hneg : negC l with
 | true =>
  have HS := Lib.hid (show sumC l = 9223372036854775808 by unfold sumC; rw [if_pos hneg])
  rw [hneg] at HNEG
  have HCO := Lib.hid (copysign_neg w)
  clear hneg
  go_enter Tryz.func67, Tryz.ntmps67
  go_wp2_with fail
  refine HNEG.out.mono ?_
  rintro e w1 ⟨rfl, rfl⟩
  go_wp2_with fail
  refine HCO.out.mono ?_
  rintro e w1 ⟨rfl, rfl⟩
  go_wp2_with fail
  go_ret
  exact ⟨by rw [HS.out]; rfl, Chg.refl _ _⟩
 | false =>
  have HS := Lib.hid (show sumC l = if isNaNB (l.foldl stepC (0, 0)).2 then (l.foldl stepC (0, 0)).1 else opC .add (l.foldl stepC (0, 0)).1 (l.foldl stepC (0, 0)).2 by unfold sumC; rw [if_neg (by rw [hneg]; decide)])
  rw [hneg] at HNEG
  clear hneg
  go_enter Tryz.func67, Tryz.ntmps67
  go_wp2_with fail
  refine HNEG.out.mono ?_
  rintro e w1 ⟨rfl, rfl⟩
  go_wp2_with fail
  go_loopw [3, 4, 6, 7, 13] (fun s c _ _ i wr => ∃ (j a b : Nat), Chg [] w wr ∧ j ≤ n ∧ i = .int .i64 j ∧ s = .float .f64 a ∧ c = .float .f64 b ∧ a < 18446744073709551616 ∧ Hid ((l.take j).foldl stepC (0, 0) = (canB a, canB b))) (fun _ _ _ _ i _ => n - (intOf i).toNat)
  case atStart => exact ⟨0, 0, 0, Chg.refl _ _, Nat.zero_le _, rfl, rfl, rfl, by decide, Lib.hid (by rw [List.take_zero, List.foldl_nil]; decide)⟩
  case round =>
   obtain ⟨j, a, b, kr, hj, rfl, rfl, rfl, ha, hy⟩ := hrel
   rcases Nat.lt_or_ge j n with hlt | hge
   ·have hlt' : (j : Int) < n := by omega
    have hjl : j < l.length := by have := HL.out; omega
    obtain ⟨x, hx⟩ : ∃ x, x = l[j] := ⟨_, rfl⟩
    have cj : wr.cell? ⟨g, o + j, none⟩ = some (.float .f64 x) := by rw [hx]; exact kr.cell (fl_at HF.out j hjl) (by simp)
    have hxl : x < 18446744073709551616 := by rw [hx]; exact HC.out _ (List.getElem_mem _)
    have HFD := Lib.hid (show (l.take (j + 1)).foldl stepC (0, 0) = stepC (canB a, canB b) x by rw [hx, List.take_succ_eq_append_getElem hjl, List.foldl_append, hy.out]; rfl)
    clear hx
    obtain ⟨t, w1, rt, ct, lt, k1⟩ := run_flop (op := .add) (Or.inl rfl) 33 a x wr
    have HA1 := Lib.hid (abs_any a w1 ha)
    have HA2 := Lib.hid (abs_any x w1 hxl)
    have CT := Lib.hid ct
    have LT := Lib.hid lt
    clear ct lt ha hxl
    cases hge : geA a x with
    | true =>
     obtain ⟨d, w2, rd, cd, -, k2⟩ := run_flop (op := .sub) (Or.inr (Or.inl rfl)) 33 a t w1
     obtain ⟨d2, w3, rd2, cd2, -, k3⟩ := run_flop (op := .add) (Or.inl rfl) 33 d x w2
     obtain ⟨c, w4, rc, cc, -, k4⟩ := run_flop (op := .add) (Or.inl rfl) 33 b d2 w3
     have HN := Lib.hid (show (l.take (j + 1)).foldl stepC (0, 0) = (canB t, canB c) by
      rw [HFD.out]
      refine Prod.ext ?_ ?_
      ·rw [stepC_1, CT.out]; exact opC_canl _ _ _
      ·rw [stepC_ge (by rw [geA_can]; exact hge), cc]
       show opC .add (canB b) (opC .add (opC .sub (canB a) (opC .add (canB a) x)) x) = opC .add b d2
       rw [opC_canl, opC_canl .sub, opC_canl .add a x, ← CT.out, opC_canr, ← cd, opC_canl, ← cd2, opC_canr])
     have kE := (((kr.then k1).then k2).then k3).then k4
     unfold geA at hge
     generalize magB a = ma at *
     generalize magB x = mx at *
     clear kr k1 k2 k3 k4 cd cd2 cc
     go_wp2_with fail
     refine HA1.out.mono ?_
     rintro e w5 ⟨rfl, rfl⟩
     go_wp2_with fail
     refine HA2.out.mono ?_
     rintro e w5 ⟨rfl, rfl⟩
     go_wp2_with fail
     go_roundw
     case rel => exact ⟨j + 1, t, c, kE, hlt, by go_num, rfl, rfl, LT.out, HN⟩
     case measure => simp [intOf]; omega
    | false =>
     obtain ⟨d, w2, rd, cd, -, k2⟩ := run_flop (op := .sub) (Or.inr (Or.inl rfl)) 33 x t w1
     obtain ⟨d2, w3, rd2, cd2, -, k3⟩ := run_flop (op := .add) (Or.inl rfl) 33 d a w2
     obtain ⟨c, w4, rc, cc, -, k4⟩ := run_flop (op := .add) (Or.inl rfl) 33 b d2 w3
     have HN := Lib.hid (show (l.take (j + 1)).foldl stepC (0, 0) = (canB t, canB c) by
      rw [HFD.out]
      refine Prod.ext ?_ ?_
      ·rw [stepC_1, CT.out]; exact opC_canl _ _ _
      ·rw [stepC_lt (by rw [geA_can]; exact hge), cc]
       show opC .add (canB b) (opC .add (opC .sub x (opC .add (canB a) x)) (canB a)) = opC .add b d2
       rw [opC_canl, opC_canr .add _ a, opC_canl .add a x, ← CT.out, opC_canr, ← cd, opC_canl, ← cd2, opC_canr])
     have kE := (((kr.then k1).then k2).then k3).then k4
     unfold geA at hge
     generalize magB a = ma at *
     generalize magB x = mx at *
     clear kr k1 k2 k3 k4 cd cd2 cc
     go_wp2_with fail
     refine HA1.out.mono ?_
     rintro e w5 ⟨rfl, rfl⟩
     go_wp2_with fail
     refine HA2.out.mono ?_
     rintro e w5 ⟨rfl, rfl⟩
     go_wp2_with fail
     go_roundw
     case rel => exact ⟨j + 1, t, c, kE, hlt, by go_num, rfl, rfl, LT.out, HN⟩
     case measure => simp [intOf]; omega
   ·obtain rfl : j = n := by omega
    have hnl : ¬ ((j : Int) < j) := by omega
    have h1 := hy.out
    rw [List.take_of_length_le (by have := HL.out; omega)] at h1
    rw [h1] at HS
    simp only [isnan_can] at HS
    have hor := order_fmt b
    clear h1 hy
    cases hnan : isNaNB b with
    | true =>
     rw [hnan] at hor
     rw [hnan, if_pos rfl] at HS
     have HP := Lib.hid (plain_any a wr)
     clear hnan
     go_wp2_with fail
     refine HP.out.mono ?_
     rintro e w5 ⟨rfl, rfl⟩
     go_wp2_with fail
     go_ret
     exact ⟨by rw [HS.out]; rfl, kr⟩
    | false =>
     rw [hnan] at hor
     rw [hnan, if_neg (by decide), opC_canl, opC_canr] at HS
     obtain ⟨t, w1, rt, ct, lt, k1⟩ := run_flop (op := .add) (Or.inl rfl) 33 a b wr
     rw [← ct] at HS
     have HP := Lib.hid (plain_any t w1)
     have kE := kr.then k1
     clear hnan ct lt
     go_wp2_with fail
     refine HP.out.mono ?_
     rintro e w5 ⟨rfl, rfl⟩
     go_wp2_with fail
     go_ret
     exact ⟨by rw [HS.out]; rfl, kE⟩
def lessK (a x : Nat) : Nat := if keyB x < keyB a then x else a
def minB (l : List Nat) : Nat := if nanB ∈ l then nanB else l.foldl lessK (l.headD 0)
theorem lessK_pick {a x : Nat} (h : keyB x < keyB a) : lessK a x = x := if_pos h
theorem lessK_keep {a x : Nat} (h : ¬ keyB x < keyB a) : lessK a x = a := if_neg h
theorem run_fromI (n : Int) (w : World) : (convert 3 33 (.int .i64 n)).run Tryz.prog w = .ok (.float .f64 (intB n)) w :=
 run_convert_int_float w 3 33 .i64 .f64 n (by rw [Tryz.underlying3]; rfl) Tryz.underlying33
def meanC (l : List Nat) : Nat := opC .quo (sumC l) (intB l.length)
set_option maxRecDepth 100000 in
set_option maxHeartbeats 4000000 in
theorem fmin_any (w : World) {g o n cp : Nat} {l : List Nat} (hl : l.length = n) (hn : 0 < n) (hn2 : n ≤ 1000000) (hF : Fl w (some ⟨g, o, none⟩) l) (hc : ∀ x ∈ l, CanB x) :
  Calls Tryz.prog 108 #[.slice (some ⟨g, o, none⟩) n cp, .int .i64 (-1)] w fun e w' => e = .returned (.tuple #[.float .f64 (minB l), .int .i64 0]) ∧ w = w' := by
 have HF := Lib.hid hF
 have HL := Lib.hid hl
 have HC := Lib.hid hc
 have hn0 : ((n : Int) == 0) = false := beq_false_of_ne (by omega)
 have hnp : (0 : Int) < n := by omega
 obtain ⟨x0, hx0⟩ : ∃ x0, x0 = l.headD 0 := ⟨_, rfl⟩
 have c0 : w.cell? ⟨g, o, none⟩ = some (.float .f64 x0) := by
  have := fl_at hF 0 (by omega)
  rw [hx0]
  cases l with
  | nil => simp at hl; omega
  | cons a l => simpa using this
 have hm0 : x0 ∈ l := by
  rw [hx0]
  cases l with
  | nil => simp at hl; omega
  | cons a l => exact List.mem_cons_self
 have HX0 := Lib.hid (And.intro hx0 hm0)
 clear hF hl hc hx0 hm0
 go_enter Tryz.func108, Tryz.ntmps108
 go_wp2_with fail
 go_loopw [6, 8, 17] (fun out _ i wr => w = wr ∧ ∃ (j : Nat) (y : Nat), j ≤ n ∧ i = .int .i64 j ∧ out = .float .f64 y ∧ Hid (y = (l.take j).foldl lessK x0 ∧ nanB ∉ l.take j ∧ y ∈ l)) (fun _ _ i _ => n - (intOf i).toNat)
 case atStart => exact ⟨rfl, 0, x0, Nat.zero_le _, rfl, rfl, Lib.hid ⟨rfl, by simp, HX0.out.2⟩⟩
 case round =>
  obtain ⟨rfl, j, y, hj, rfl, rfl, hy⟩ := hrel
  rcases Nat.lt_or_ge j n with hlt | hge
  ·have hlt' : (j : Int) < n := by omega
   have hjl : j < l.length := by have := HL.out; omega
   obtain ⟨x, hx⟩ : ∃ x, x = l[j] := ⟨_, rfl⟩
   have cj : w.cell? ⟨g, o + j, none⟩ = some (.float .f64 x) := by rw [hx]; exact fl_at HF.out j hjl
   have hxl : x ∈ l := by rw [hx]; exact List.getElem_mem _
   have hxc := HC.out x hxl
   have hor := order_fmt x
   have HTK := Lib.hid (show l.take (j + 1) = l.take j ++ [x] by rw [hx]; exact List.take_succ_eq_append_getElem hjl)
   have HXL := Lib.hid hxl
   clear hx hxl
   cases hnan : isNaNB x with
   | true =>
    rw [hnan] at hor
    have HN := Lib.hid (show minB l = nanB by
     have e := (nan_can hxc).1 hnan
     exact if_pos (e ▸ HXL.out))
    have HE := Lib.hid ((nan_can hxc).1 hnan)
    have HCAN := Lib.hid (canB_of hxc)
    have HB := Lib.hid (fbits_any x w)
    rw [HCAN.out] at HB
    have HFR := Lib.hid (fromBits_any x w)
    rw [HCAN.out] at HFR
    clear hnan hxc
    go_wp2_with fail
    refine HB.out.mono ?_
    rintro e w1 ⟨rfl, rfl⟩
    go_wp2_with fail
    refine HFR.out.mono ?_
    rintro e w1 ⟨rfl, rfl⟩
    go_wp2_with fail
    go_ret2
    exact ⟨by rw [HN.out, ← HE.out]; rfl, rfl⟩
   | false =>
    rw [hnan] at hor
    have hxn : x ≠ nanB := fun e => by rw [(nan_can hxc).2 e] at hnan; cases hnan
    have HXN := Lib.hid hxn
    have hyc := HC.out y hy.out.2.2
    have HK := Lib.hid (fcmp_any x y w hxc hyc)
    clear hnan hxc hyc hxn
    have HTN := Lib.hid (show nanB ∉ l.take (j + 1) by rw [HTK.out]; simp; exact ⟨hy.out.2.1, fun e => HXN.out e.symm⟩)
    have HFD := Lib.hid (show (l.take (j + 1)).foldl lessK x0 = lessK y x by rw [HTK.out, List.foldl_append, ← hy.out.1]; rfl)
    by_cases hk : keyB x < keyB y
    ·have e1 : cmpK (keyB x) (keyB y) = -1 := by unfold cmpK; rw [if_pos hk]
     rw [e1] at HK
     have HM := Lib.hid (lessK_pick hk)
     clear hk e1
     go_wp2_with fail
     refine HK.out.mono ?_
     rintro e w1 ⟨rfl, rfl⟩
     go_wp2_with fail
     go_roundw
     case rel => exact ⟨trivial, j + 1, x, hlt, by go_num, rfl, Lib.hid ⟨by rw [HFD.out, HM.out], HTN.out, HXL.out⟩⟩
     case measure => simp [intOf]; omega
    ·obtain ⟨c, hc, hc2⟩ : ∃ c, cmpK (keyB x) (keyB y) = c ∧ (c = 0 ∨ c = 1) := by
      refine ⟨_, rfl, ?_⟩
      by_cases h1 : keyB y < keyB x
      ·exact Or.inr (by unfold cmpK; rw [if_neg hk, if_pos h1])
      ·exact Or.inl (by unfold cmpK; rw [if_neg hk, if_neg h1])
     rw [hc] at HK
     have HM := Lib.hid (lessK_keep hk)
     clear hk hc
     rcases hc2 with rfl | rfl
     all_goals
      go_wp2_with fail
      refine HK.out.mono ?_
      rintro e w1 ⟨rfl, rfl⟩
      go_wp2_with fail
      go_roundw
      case rel => exact ⟨trivial, j + 1, y, hlt, by go_num, rfl, Lib.hid ⟨by rw [HFD.out, HM.out], HTN.out, hy.out.2.2⟩⟩
      case measure => simp [intOf]; omega
  ·obtain rfl : j = n := by omega
   have hnl : ¬ ((j : Int) < j) := by omega
   have HE := Lib.hid (show minB l = y by
    have h1 := hy.out
    rw [List.take_of_length_le (by have := HL.out; omega)] at h1
    unfold minB
    rw [if_neg h1.2.1, h1.1, HX0.out.1])
   clear hy
   go_wp2_with fail
   go_ret2
   exact ⟨by rw [HE.out]; rfl, rfl⟩
set_option maxRecDepth 100000 in
set_option maxHeartbeats 2000000 in
theorem fmean_any (w : World) {g o n cp : Nat} {l : List Nat} (hl : l.length = n) (hn : 0 < n) (hn2 : n ≤ 1000000) (hF : Fl w (some ⟨g, o, none⟩) l) (hc : ∀ x ∈ l, x < 18446744073709551616) :
  Calls Tryz.prog 72 #[.slice (some ⟨g, o, none⟩) n cp] w fun e w' => e = .returned (.tuple #[.float .f64 (meanC l), .int .i64 0]) ∧ Chg [] w w' := by
 have HS := Lib.hid (fsum_any w (cp := cp) hl hn2 hF hc)
 have HM := Lib.hid (show meanC l = opC .quo (sumC l) (intB n) by unfold meanC; rw [hl])
 have hn0 : ((n : Int) == 0) = false := beq_false_of_ne (by omega)
 have hcv := fun w => run_fromI (n : Int) w
 clear hF hl hc
 generalize sumC l = s at *
 generalize intB n = z at *
 go_enter Tryz.func72, Tryz.ntmps72
 go_wp2_with fail
 refine HS.out.mono ?_
 rintro e w1 ⟨rfl, k1⟩
 obtain ⟨t, w2, rt, ct, lt, k2⟩ := run_flop (op := .quo) (Or.inr (Or.inr (Or.inr rfl))) 33 s z w1
 rw [← ct] at HM
 have HP := Lib.hid (plain_any t w2)
 have kE := k1.then k2
 clear k1 k2 ct lt
 go_wp2_with fail
 refine HP.out.mono ?_
 rintro e w5 ⟨rfl, rfl⟩
 go_wp2_with fail
 go_ret2
 exact ⟨by rw [HM.out]; rfl, kE⟩
set_option maxRecDepth 100000 in
theorem fmean71 (w : World) {g o n cp : Nat} {l : List Nat} (hl : l.length = n) (hn : 0 < n) (hn2 : n ≤ 1000000) (hF : Fl w (some ⟨g, o, none⟩) l) (hc : ∀ x ∈ l, x < 18446744073709551616) :
  Calls Tryz.prog 71 #[.slice (some ⟨g, o, none⟩) n cp] w fun e w' => e = .returned (.tuple #[.float .f64 (meanC l), .int .i64 0]) ∧ Chg [] w w' := by
 have HM := Lib.hid (fmean_any w (cp := cp) hl hn hn2 hF hc)
 clear hl hF hc
 go_enter Tryz.func71, Tryz.ntmps71
 go_wp2_with fail
 refine HM.out.mono ?_
 rintro e w2 ⟨rfl, k2⟩
 go_wp2_with fail
 go_ret2
 exact ⟨rfl, k2⟩
section
variable {lw P k : Nat} {hd : Int} {c : Nat → Nat}
set_option maxRecDepth 100000 in
theorem fleast_any (w : World) {g o n cp : Nat} {l : List Nat} (hl : l.length = n) (hn : 0 < n) (hn2 : n ≤ 1000000) (hF : Fl w (some ⟨g, o, none⟩) l) (hc : ∀ x ∈ l, CanB x) :
  Calls Tryz.prog 73 #[.slice (some ⟨g, o, none⟩) n cp] w fun e w' => e = .returned (.tuple #[.float .f64 (minB l), .int .i64 0]) ∧ w = w' := by
 have H47 : Calls Tryz.prog 74 #[.slice (some ⟨g, o, none⟩) n cp] w fun e w' => e = .returned (.tuple #[.float .f64 (minB l), .int .i64 0]) ∧ w = w' := by
  have HM := Lib.hid (fmin_any w (cp := cp) hl hn hn2 hF hc)
  clear hl hF hc
  go_enter Tryz.func74, Tryz.ntmps74
  go_wp2_with fail
  refine HM.out.mono ?_
  rintro e w2 ⟨rfl, rfl⟩
  go_wp2_with fail
  go_ret2
  exact ⟨rfl, rfl⟩
 have HM := Lib.hid H47
 clear hl hF hc H47
 go_enter Tryz.func73, Tryz.ntmps73
 go_wp2_with fail
 refine HM.out.mono ?_
 rintro e w2 ⟨rfl, rfl⟩
 go_wp2_with fail
 go_ret2
 exact ⟨rfl, rfl⟩
end
end Go.Proofs.YtelakcjbknbehaaGreat
namespace Go.Proofs.YtelakcjbknbehaaGreat
open Go.RowKit Go.Lib

set_option maxRecDepth 100000 in
theorem small_any (w : World) {pa : Option Addr} {N cp : Nat} : Calls Tryz.prog 7 #[.slice pa N cp] w fun e w' => e = .returned (.bool (decide ((N : Int) ≤ 60))) ∧ w = w' := by
 go_enter Tryz.func7, Tryz.ntmps7
 go_wp2_with fail
 go_ret
 exact ⟨rfl, rfl⟩
def FlT (w : World) (p : Option Addr) (l : List Nat) : Prop := Fl w p l ∧ (l = [] ∨ ∃ g o cs, p = some ⟨g, o, none⟩ ∧ w.heap[g]? = some (.cells cs 33 (0, 0)))
theorem FlT.k33 {w w' : World} {p : Option Addr} {l : List Nat} (h : FlT w p l) (hk : K33 w w') : FlT w' p l := by
 obtain ⟨U, h1, h2⟩ := hk
 rcases h.2 with e | ⟨g, o, cs, e, hg⟩
 ·exact ⟨Or.inl e, Or.inl e⟩
 ·subst e
  have hn : g ∉ U := fun hm => h2 g hm _ _ hg
  refine ⟨?_, Or.inr ⟨g, o, cs, rfl, h1.heap hg hn⟩⟩
  rcases h.1 with e | ⟨b, o', e, hc⟩
  ·exact Or.inl e
  ·cases e
   exact Or.inr ⟨g, o, rfl, fun j hj => h1.cell (hc j hj) hn⟩
theorem Ow.k33 {base : Nat} {w w' : World} (h : Ow base w w') : K33 w w' := by
 obtain ⟨U, u1, u2⟩ := h
 exact ⟨U, u1, fun x hx cs fr hh => absurd ((u2 x hx).2 _ _ _ hh) (by decide)⟩
section
variable {lw P k : Nat} {hd : Int} {c : Nat → Nat}
end
end Go.Proofs.YtelakcjbknbehaaGreat
namespace Go.Proofs.YtelakcjbknbehaaGreat
open Go.RowKit Go.Lib Ieee

set_option maxRecDepth 100000 in
theorem rclean_any (b : Nat) (w : World) : Calls Tryz.prog 146 #[.float .f64 b] w fun e w' => e = .returned (.float .f64 (canB b)) ∧ w = w' := by
 have hor := order_fmt b
 have HF := Lib.hid (rfrom_any 9221120237041090560 w (by decide))
 rw [show canB 9221120237041090560 = 9221120237041090560 by decide] at HF
 cases h : isNaNB b with
 | true =>
  rw [h] at hor
  have HC := Lib.hid (show canB b = 9221120237041090560 by unfold canB; rw [h, if_pos rfl]; rfl)
  clear h
  go_enter Tryz.func146, Tryz.ntmps146
  go_wp2_with fail
  refine HF.out.mono ?_
  rintro e w1 ⟨rfl, rfl⟩
  go_wp2_with fail
  go_ret
  exact ⟨by rw [HC.out]; rfl, rfl⟩
 | false =>
  rw [h] at hor
  have HC := Lib.hid (show canB b = b by unfold canB; rw [h, if_neg (by decide)])
  clear h
  go_enter Tryz.func146, Tryz.ntmps146
  go_wp2_with fail
  go_ret
  exact ⟨by rw [HC.out]; rfl, rfl⟩
theorem inf_gt {m : Nat} (h : m ≤ 9218868437227405312) : (FloatKind.f64.format.order m 9218868437227405311 == some .gt) = decide (m = 9218868437227405312) := by
 have f1 := (fin_num (b := 9218868437227405311) (by decide))
 by_cases e : m = 9218868437227405312
 ·subst e
  obtain ⟨n, j, r2, -⟩ := read_fin f1.1
  have : FloatKind.f64.format.order 9218868437227405312 9218868437227405311 = some .gt := by
   show double.order 9218868437227405312 9218868437227405311 = some .gt
   unfold Format.order
   rw [read_inf (by decide) (by decide), r2]
   rfl
  rw [this]
  rfl
 ·have f2 := (fin_num (b := m) (by omega))
  have : FloatKind.f64.format.order m 9218868437227405311 = some (compare (rv m) (rv 9218868437227405311)) := order_fin f2.1 f1.1
  rw [this, decide_eq_false e, beq_eq_false_iff_ne]
  intro h2
  have h3 := Int.compare_eq_gt.1 (Option.some.inj h2)
  rw [f2.2.1, f1.2.1] at h3
  have := valR_mono (show m ≤ 9218868437227405311 by omega)
  omega
set_option maxRecDepth 100000 in
set_option maxHeartbeats 4000000 in
theorem rclass_any (x : Nat) (w : World) (h : CanB x) : Calls Tryz.prog 77 #[.float .f64 x] w fun e w' => e = .returned (.int .i64 (clsB x)) ∧ w = w' := by
 have HB := Lib.hid (rbits_any x w)
 rw [canB_of h] at HB
 have hA := and_sign h.1
 have hN := andNot_sign h.1
 obtain ⟨c, hc⟩ : ∃ c, c = clsB x := ⟨_, rfl⟩
 rw [← hc]
 unfold clsB at hc
 cases hnan : isNaNB x with
 | true =>
  rw [if_pos hnan] at hc
  have hg : (9218868437227405312 : Int) < (magB x : Int) := by have := of_decide_eq_true hnan; omega
  have HC := Lib.hid hc
  clear hnan hc h
  generalize magB x = m at *
  go_enter Tryz.func77, Tryz.ntmps77
  go_wp2_with fail
  refine HB.out.mono ?_
  rintro e w1 ⟨rfl, rfl⟩
  go_wp2_with fail
  go_ret
  exact ⟨by rw [HC.out]; rfl, rfl⟩
 | false =>
  rw [if_neg (by rw [hnan]; decide)] at hc
  have hm : magB x ≤ 9218868437227405312 := by have := of_decide_eq_false hnan; omega
  rw [inf_gt hm] at hc
  have hng : ¬ (9218868437227405312 : Int) < (magB x : Int) := by omega
  have HC := Lib.hid hc
  have HM := Lib.hid hm
  clear hnan hc h hm
  generalize magB x = m at *
  have key : ∀ k : Int, (if m = 0 then (6 : Int) else if m < 4503599627370496 then 7 else if decide (m = 9218868437227405312) = true then 9 else 8) = k → ∀ s : Bool, (s = true ↔ ¬ x < 9223372036854775808) → c = if s then 11 - k else k := by
   intro k hk s hs
   rw [HC.out]
   show (if x < 9223372036854775808 then _ else _) = _
   rw [hk]
   by_cases hx : x < 9223372036854775808
   ·rw [if_pos hx, if_neg (fun e => (hs.1 e) hx)]
   ·rw [if_neg hx, if_pos (hs.2 hx)]
  have HKY := Lib.hid key
  clear key HC
  by_cases hx : x < 9223372036854775808
  all_goals
   first | rw [if_pos hx] at hA | rw [if_neg hx] at hA
   by_cases h9 : m = 9218868437227405312
   ·subst h9
    have HE := Lib.hid (HKY.out 9 (by decide))
    go_enter Tryz.func77, Tryz.ntmps77
    go_wp2_with fail
    refine HB.out.mono ?_
    rintro e w1 ⟨rfl, rfl⟩
    go_wp2_with fail
    go_ret
    first | exact ⟨by rw [HE.out true (by simp [hx])]; rfl, rfl⟩ | exact ⟨by rw [HE.out false (by simp [hx])]; rfl, rfl⟩
   ·have h9' : ((m : Int) == 9218868437227405312) = false := beq_false_of_ne (by omega)
    by_cases h0 : m = 0
    ·subst h0
     have HE := Lib.hid (HKY.out 6 (if_pos rfl))
     go_enter Tryz.func77, Tryz.ntmps77
     go_wp2_with fail
     refine HB.out.mono ?_
     rintro e w1 ⟨rfl, rfl⟩
     go_wp2_with fail
     go_ret
     first | exact ⟨by rw [HE.out true (by simp [hx])]; rfl, rfl⟩ | exact ⟨by rw [HE.out false (by simp [hx])]; rfl, rfl⟩
    ·have h0' : ((m : Int) == 0) = false := beq_false_of_ne (by omega)
     by_cases h1 : m < 4503599627370496
     ·have h1' : (m : Int) < 4503599627370496 := by omega
      have HE := Lib.hid (HKY.out 7 (by rw [if_neg h0, if_pos h1]))
      clear h9 h0 h1 HKY HM
      generalize (m : Int) = z at *
      go_enter Tryz.func77, Tryz.ntmps77
      go_wp2_with fail
      refine HB.out.mono ?_
      rintro e w1 ⟨rfl, rfl⟩
      go_wp2_with fail
      go_ret
      first | exact ⟨by rw [HE.out true (by simp [hx])]; rfl, rfl⟩ | exact ⟨by rw [HE.out false (by simp [hx])]; rfl, rfl⟩
     ·have h1' : ¬ (m : Int) < 4503599627370496 := by omega
      have HE := Lib.hid (HKY.out 8 (by rw [if_neg h0, if_neg h1, if_neg (by simpa using h9)]))
      clear h9 h0 h1 HKY HM
      generalize (m : Int) = z at *
      go_enter Tryz.func77, Tryz.ntmps77
      go_wp2_with fail
      refine HB.out.mono ?_
      rintro e w1 ⟨rfl, rfl⟩
      go_wp2_with fail
      go_ret
      first | exact ⟨by rw [HE.out true (by simp [hx])]; rfl, rfl⟩ | exact ⟨by rw [HE.out false (by simp [hx])]; rfl, rfl⟩
theorem order_eqs (b : Nat) : (FloatKind.f64.format.order b b == some .eq) = !isNaNB b := by
 have := order_fmt b
 unfold bne at this
 rw [← this, Bool.not_not]
set_option maxRecDepth 100000 in
set_option maxHeartbeats 8000000 in
theorem rsum_any (w : World) {g o n cp : Nat} {l : List Nat} (hl : l.length = n) (hn2 : n ≤ 1000000) (hF : Fl w (some ⟨g, o, none⟩) l) (hc : ∀ x ∈ l, CanB x) :
  Calls Tryz.prog 68 #[.slice (some ⟨g, o, none⟩) n cp] w fun e w' => e = .returned (.float .f64 (sumC l)) ∧ Chg [] w w' := by
 have HF := Lib.hid hF
 have HL := Lib.hid hl
 have HC := Lib.hid hc
 clear hF hl hc
 go_enter Tryz.func68, Tryz.ntmps68
 go_wp2_with fail
 go_loopw [3, 4, 5, 6, 7, 8, 9, 10] (fun s c mn i _ _ _ _ wr => ∃ (j a b : Nat) (u : Bool), Chg [] w wr ∧ j ≤ n ∧ i = .int .i64 j ∧ s = .float .f64 a ∧ c = .float .f64 b ∧ mn = .bool u ∧ a < 18446744073709551616 ∧ Hid ((l.take j).foldl stepC (0, 0) = (canB a, canB b)) ∧ Hid (u = (decide (0 < n) && (l.take j).all (fun x => clsB x == 5)))) (fun _ _ _ i _ _ _ _ _ => n - (intOf i).toNat)
 case atStart => exact ⟨0, 0, 0, decide (0 < n), Chg.refl _ _, Nat.zero_le _, rfl, rfl, rfl, by first | rfl | trivial, by decide, Lib.hid (by rw [List.take_zero, List.foldl_nil]; decide), Lib.hid (by simp)⟩
 case round =>
  obtain ⟨j, a, b, u, kr, hj, rfl, rfl, rfl, rfl, ha, hy, hu⟩ := hrel
  rcases Nat.lt_or_ge j n with hlt | hge0
  ·have hlt' : (j : Int) < n := by omega
   have hjl : j < l.length := by have := HL.out; omega
   obtain ⟨x, hx⟩ : ∃ x, x = l[j] := ⟨_, rfl⟩
   have cj : wr.cell? ⟨g, o + j, none⟩ = some (.float .f64 x) := by rw [hx]; exact kr.cell (fl_at HF.out j hjl) (by simp)
   have hxc : CanB x := by rw [hx]; exact HC.out _ (List.getElem_mem _)
   have HFD := Lib.hid (show (l.take (j + 1)).foldl stepC (0, 0) = stepC (canB a, canB b) x by rw [hx, List.take_succ_eq_append_getElem hjl, List.foldl_append, hy.out]; rfl)
   have HT := Lib.hid (negC_take hjl)
   rw [← hx] at HT
   clear hx
   have HKL := Lib.hid (rclass_any x wr hxc)
   obtain ⟨t, w1, rt, ct, lt, k1⟩ := run_flop (op := .add) (Or.inl rfl) 33 a x wr
   have HA1 := Lib.hid (abs_any a w1 ha)
   have HA2 := Lib.hid (abs_any x w1 hxc.1)
   have CT := Lib.hid ct
   have LT := Lib.hid lt
   clear ct lt ha hxc
   obtain ⟨v, hv⟩ : ∃ v, v = (clsB x == 5) := ⟨_, rfl⟩
   have hv2 := hv.symm
   cases u with
   | true =>
    have HU2 := Lib.hid (show v = (decide (0 < n) && (l.take (j + 1)).all (fun x => clsB x == 5)) by
     rw [HT.out, ← Bool.and_assoc, ← hu.out, ← hv]; rfl)
    generalize clsB x = cx at *
    clear hv
    cases hge : geA a x with
    | true =>
      obtain ⟨d, w2, rd, cd, -, k2⟩ := run_flop (op := .sub) (Or.inr (Or.inl rfl)) 33 a t w1
      obtain ⟨d2, w3, rd2, cd2, -, k3⟩ := run_flop (op := .add) (Or.inl rfl) 33 d x w2
      obtain ⟨c, w4, rc, cc, -, k4⟩ := run_flop (op := .add) (Or.inl rfl) 33 b d2 w3
      have HNN := Lib.hid (show (l.take (j + 1)).foldl stepC (0, 0) = (canB t, canB c) by
       rw [HFD.out]
       refine Prod.ext ?_ ?_
       ·rw [stepC_1, CT.out]; exact opC_canl _ _ _
       ·rw [stepC_ge (by rw [geA_can]; exact hge), cc]
        show opC .add (canB b) (opC .add (opC .sub (canB a) (opC .add (canB a) x)) x) = opC .add b d2
        rw [opC_canl, opC_canl .sub, opC_canl .add a x, ← CT.out, opC_canr, ← cd, opC_canl, ← cd2, opC_canr])
      have kE := (((kr.then k1).then k2).then k3).then k4
      unfold geA at hge
      generalize magB a = ma at *
      generalize magB x = mx at *
      clear kr k1 k2 k3 k4 cd cd2 cc
      go_wp2_with fail
      refine HKL.out.mono ?_
      rintro e w5 ⟨rfl, rfl⟩
      go_wp2_with fail
      refine HA1.out.mono ?_
      rintro e w5 ⟨rfl, rfl⟩
      go_wp2_with fail
      refine HA2.out.mono ?_
      rintro e w5 ⟨rfl, rfl⟩
      go_wp2_with fail
      go_roundw
      case rel => exact ⟨j + 1, t, c, v, kE, hlt, by go_num, rfl, rfl, rfl, LT.out, HNN, HU2⟩
      case measure => simp [intOf]; omega
    | false =>
      obtain ⟨d, w2, rd, cd, -, k2⟩ := run_flop (op := .sub) (Or.inr (Or.inl rfl)) 33 x t w1
      obtain ⟨d2, w3, rd2, cd2, -, k3⟩ := run_flop (op := .add) (Or.inl rfl) 33 d a w2
      obtain ⟨c, w4, rc, cc, -, k4⟩ := run_flop (op := .add) (Or.inl rfl) 33 b d2 w3
      have HNN := Lib.hid (show (l.take (j + 1)).foldl stepC (0, 0) = (canB t, canB c) by
       rw [HFD.out]
       refine Prod.ext ?_ ?_
       ·rw [stepC_1, CT.out]; exact opC_canl _ _ _
       ·rw [stepC_lt (by rw [geA_can]; exact hge), cc]
        show opC .add (canB b) (opC .add (opC .sub x (opC .add (canB a) x)) (canB a)) = opC .add b d2
        rw [opC_canl, opC_canr .add _ a, opC_canl .add a x, ← CT.out, opC_canr, ← cd, opC_canl, ← cd2, opC_canr])
      have kE := (((kr.then k1).then k2).then k3).then k4
      unfold geA at hge
      generalize magB a = ma at *
      generalize magB x = mx at *
      clear kr k1 k2 k3 k4 cd cd2 cc
      go_wp2_with fail
      refine HKL.out.mono ?_
      rintro e w5 ⟨rfl, rfl⟩
      go_wp2_with fail
      refine HA1.out.mono ?_
      rintro e w5 ⟨rfl, rfl⟩
      go_wp2_with fail
      refine HA2.out.mono ?_
      rintro e w5 ⟨rfl, rfl⟩
      go_wp2_with fail
      go_roundw
      case rel => exact ⟨j + 1, t, c, v, kE, hlt, by go_num, rfl, rfl, rfl, LT.out, HNN, HU2⟩
      case measure => simp [intOf]; omega
   | false =>
    have HU2 := Lib.hid (show false = (decide (0 < n) && (l.take (j + 1)).all (fun x => clsB x == 5)) by
     rw [HT.out, ← Bool.and_assoc, ← hu.out]; rfl)
    clear hv hv2
    cases hge : geA a x with
    | true =>
      obtain ⟨d, w2, rd, cd, -, k2⟩ := run_flop (op := .sub) (Or.inr (Or.inl rfl)) 33 a t w1
      obtain ⟨d2, w3, rd2, cd2, -, k3⟩ := run_flop (op := .add) (Or.inl rfl) 33 d x w2
      obtain ⟨c, w4, rc, cc, -, k4⟩ := run_flop (op := .add) (Or.inl rfl) 33 b d2 w3
      have HNN := Lib.hid (show (l.take (j + 1)).foldl stepC (0, 0) = (canB t, canB c) by
       rw [HFD.out]
       refine Prod.ext ?_ ?_
       ·rw [stepC_1, CT.out]; exact opC_canl _ _ _
       ·rw [stepC_ge (by rw [geA_can]; exact hge), cc]
        show opC .add (canB b) (opC .add (opC .sub (canB a) (opC .add (canB a) x)) x) = opC .add b d2
        rw [opC_canl, opC_canl .sub, opC_canl .add a x, ← CT.out, opC_canr, ← cd, opC_canl, ← cd2, opC_canr])
      have kE := (((kr.then k1).then k2).then k3).then k4
      unfold geA at hge
      generalize magB a = ma at *
      generalize magB x = mx at *
      clear kr k1 k2 k3 k4 cd cd2 cc
      go_wp2_with fail
      refine HA1.out.mono ?_
      rintro e w5 ⟨rfl, rfl⟩
      go_wp2_with fail
      refine HA2.out.mono ?_
      rintro e w5 ⟨rfl, rfl⟩
      go_wp2_with fail
      go_roundw
      case rel => exact ⟨j + 1, t, c, false, kE, hlt, by go_num, rfl, rfl, rfl, LT.out, HNN, HU2⟩
      case measure => simp [intOf]; omega
    | false =>
      obtain ⟨d, w2, rd, cd, -, k2⟩ := run_flop (op := .sub) (Or.inr (Or.inl rfl)) 33 x t w1
      obtain ⟨d2, w3, rd2, cd2, -, k3⟩ := run_flop (op := .add) (Or.inl rfl) 33 d a w2
      obtain ⟨c, w4, rc, cc, -, k4⟩ := run_flop (op := .add) (Or.inl rfl) 33 b d2 w3
      have HNN := Lib.hid (show (l.take (j + 1)).foldl stepC (0, 0) = (canB t, canB c) by
       rw [HFD.out]
       refine Prod.ext ?_ ?_
       ·rw [stepC_1, CT.out]; exact opC_canl _ _ _
       ·rw [stepC_lt (by rw [geA_can]; exact hge), cc]
        show opC .add (canB b) (opC .add (opC .sub x (opC .add (canB a) x)) (canB a)) = opC .add b d2
        rw [opC_canl, opC_canr .add _ a, opC_canl .add a x, ← CT.out, opC_canr, ← cd, opC_canl, ← cd2, opC_canr])
      have kE := (((kr.then k1).then k2).then k3).then k4
      unfold geA at hge
      generalize magB a = ma at *
      generalize magB x = mx at *
      clear kr k1 k2 k3 k4 cd cd2 cc
      go_wp2_with fail
      refine HA1.out.mono ?_
      rintro e w5 ⟨rfl, rfl⟩
      go_wp2_with fail
      refine HA2.out.mono ?_
      rintro e w5 ⟨rfl, rfl⟩
      go_wp2_with fail
      go_roundw
      case rel => exact ⟨j + 1, t, c, false, kE, hlt, by go_num, rfl, rfl, rfl, LT.out, HNN, HU2⟩
      case measure => simp [intOf]; omega
  ·obtain rfl : j = n := by omega
   have hnl : ¬ ((j : Int) < j) := by omega
   have htl : l.take j = l := List.take_of_length_le (by have := HL.out; omega)
   have h1 := hy.out
   have h2 := hu.out
   rw [htl] at h1 h2
   have hneg : negC l = u := by unfold negC; rw [HL.out]; exact h2.symm
   clear h2 htl hy hu
   cases u with
   | true =>
    have HS := Lib.hid (show sumC l = 9223372036854775808 by unfold sumC; rw [if_pos hneg])
    have HFR := Lib.hid (rfrom_any 9223372036854775808 wr (by decide))
    rw [show canB 9223372036854775808 = 9223372036854775808 by decide] at HFR
    clear h1 hneg
    go_wp2_with fail
    refine HFR.out.mono ?_
    rintro e w5 ⟨rfl, rfl⟩
    go_wp2_with fail
    go_ret
    exact ⟨by rw [HS.out]; rfl, kr⟩
   | false =>
    have HS := Lib.hid (show sumC l = if isNaNB (canB b) then canB a else opC .add (canB a) (canB b) by
     unfold sumC; rw [if_neg (by rw [hneg]; decide), h1])
    rw [isnan_can] at HS
    have hor := order_fmt b
    clear h1 hneg
    cases hnan : isNaNB b with
    | true =>
     have hoq : (FloatKind.f64.format.order b b == some .eq) = false := by rw [order_eqs, hnan]; rfl
     clear hor
     rw [hnan, if_pos rfl] at HS
     have hoa := order_fmt a
     have HFR := Lib.hid (rfrom_any 9221120237041090560 wr (by decide))
     rw [show canB 9221120237041090560 = 9221120237041090560 by decide] at HFR
     clear hnan
     cases han : isNaNB a with
     | true =>
      rw [han] at hoa
      have HC2 := Lib.hid (show canB a = 9221120237041090560 by unfold canB; rw [han, if_pos rfl]; rfl)
      clear han
      go_wp2_with fail
      refine HFR.out.mono ?_
      rintro e w5 ⟨rfl, rfl⟩
      go_wp2_with fail
      go_ret
      exact ⟨by rw [HS.out, HC2.out]; rfl, kr⟩
     | false =>
      rw [han] at hoa
      have HC2 := Lib.hid (show canB a = a by unfold canB; rw [han, if_neg (by decide)])
      clear han
      go_wp2_with fail
      go_ret
      exact ⟨by rw [HS.out, HC2.out]; rfl, kr⟩
    | false =>
     have hoq : (FloatKind.f64.format.order b b == some .eq) = true := by rw [order_eqs, hnan]; rfl
     clear hor
     rw [hnan, if_neg (by decide), opC_canl, opC_canr] at HS
     obtain ⟨t, w1, rt, ct, lt, k1⟩ := run_flop (op := .add) (Or.inl rfl) 33 a b wr
     rw [← ct] at HS
     have hot := order_fmt t
     have kE := kr.then k1
     have HFR := Lib.hid (rfrom_any 9221120237041090560 w1 (by decide))
     rw [show canB 9221120237041090560 = 9221120237041090560 by decide] at HFR
     clear hnan ct lt k1 kr
     cases han : isNaNB t with
     | true =>
      rw [han] at hot
      have HC2 := Lib.hid (show canB t = 9221120237041090560 by unfold canB; rw [han, if_pos rfl]; rfl)
      clear han
      go_wp2_with fail
      refine HFR.out.mono ?_
      rintro e w5 ⟨rfl, rfl⟩
      go_wp2_with fail
      go_ret
      exact ⟨by rw [HS.out, HC2.out]; rfl, kE⟩
     | false =>
      rw [han] at hot
      have HC2 := Lib.hid (show canB t = t by unfold canB; rw [han, if_neg (by decide)])
      clear han
      go_wp2_with fail
      go_ret
      exact ⟨by rw [HS.out, HC2.out]; rfl, kE⟩
set_option maxRecDepth 100000 in
set_option maxHeartbeats 2000000 in
theorem rmean_any (w : World) {g o n cp : Nat} {l : List Nat} (hl : l.length = n) (hn : 0 < n) (hn2 : n ≤ 1000000) (hF : Fl w (some ⟨g, o, none⟩) l) (hc : ∀ x ∈ l, CanB x) :
  Calls Tryz.prog 69 #[.slice (some ⟨g, o, none⟩) n cp] w fun e w' => e = .returned (.tuple #[.float .f64 (meanC l), .int .i64 0]) ∧ Chg [] w w' := by
 have HS := Lib.hid (rsum_any w (cp := cp) hl hn2 hF hc)
 have HM := Lib.hid (show meanC l = opC .quo (sumC l) (intB n) by unfold meanC; rw [hl])
 have hn0 : ((n : Int) == 0) = false := beq_false_of_ne (by omega)
 have hcv := fun w => run_fromI (n : Int) w
 clear hF hl hc
 generalize sumC l = s at *
 generalize intB n = z at *
 go_enter Tryz.func69, Tryz.ntmps69
 go_wp2_with fail
 refine HS.out.mono ?_
 rintro e w1 ⟨rfl, k1⟩
 obtain ⟨t, w2, rt, ct, lt, k2⟩ := run_flop (op := .quo) (Or.inr (Or.inr (Or.inr rfl))) 33 s z w1
 rw [← ct] at HM
 have HP := Lib.hid (rclean_any t w2)
 have kE := k1.then k2
 clear k1 k2 ct lt
 go_wp2_with fail
 refine HP.out.mono ?_
 rintro e w5 ⟨rfl, rfl⟩
 go_wp2_with fail
 go_ret2
 exact ⟨by rw [HM.out]; rfl, kE⟩
end Go.Proofs.YtelakcjbknbehaaGreat
namespace Go.Proofs.YtelakcjbknbehaaGreat
open Go.RowKit Go.Lib

set_option maxRecDepth 100000 in
set_option maxHeartbeats 4000000 in
theorem rleast_any (w : World) {g o n cp : Nat} {l : List Nat} (hl : l.length = n) (hn : 0 < n) (hn2 : n ≤ 1000000) (hF : Fl w (some ⟨g, o, none⟩) l) (hc : ∀ x ∈ l, CanB x) :
  Calls Tryz.prog 13 #[.slice (some ⟨g, o, none⟩) n cp, .int .i64 (-1)] w fun e w' => e = .returned (.tuple #[.float .f64 (minB l), .int .i64 0]) ∧ Chg [] w w' := by
 have HF := Lib.hid hF
 have HL := Lib.hid hl
 have HC := Lib.hid hc
 have hn0 : ((n : Int) == 0) = false := beq_false_of_ne (by omega)
 have hnp : (0 : Int) < n := by omega
 obtain ⟨x0, hx0⟩ : ∃ x0, x0 = l.headD 0 := ⟨_, rfl⟩
 have c0 : w.cell? ⟨g, o, none⟩ = some (.float .f64 x0) := by
  have := fl_at hF 0 (by omega)
  rw [hx0]
  cases l with
  | nil => simp at hl; omega
  | cons a l => simpa using this
 have hm0 : x0 ∈ l := by
  rw [hx0]
  cases l with
  | nil => simp at hl; omega
  | cons a l => exact List.mem_cons_self
 have HX0 := Lib.hid (And.intro hx0 hm0)
 clear hF hl hc hx0 hm0
 go_enter Tryz.func13, Tryz.ntmps13
 go_wp2_with fail
 go_loopw [6, 7] (fun out i wr => ∃ (j y : Nat), Chg [] w wr ∧ j ≤ n ∧ i = .int .i64 j ∧ out = .float .f64 y ∧ Hid (y = (l.take j).foldl lessK x0 ∧ nanB ∉ l.take j ∧ y ∈ l)) (fun _ i _ => n - (intOf i).toNat)
 case atStart => exact ⟨0, x0, Chg.refl _ _, Nat.zero_le _, rfl, rfl, Lib.hid ⟨rfl, by simp, HX0.out.2⟩⟩
 case round =>
  obtain ⟨j, y, kr, hj, rfl, rfl, hy⟩ := hrel
  rcases Nat.lt_or_ge j n with hlt | hge
  ·have hlt' : (j : Int) < n := by omega
   have hjl : j < l.length := by have := HL.out; omega
   obtain ⟨x, hx⟩ : ∃ x, x = l[j] := ⟨_, rfl⟩
   have cj : wr.cell? ⟨g, o + j, none⟩ = some (.float .f64 x) := by rw [hx]; exact kr.cell (fl_at HF.out j hjl) (by simp)
   have hxl : x ∈ l := by rw [hx]; exact List.getElem_mem _
   have hxc := HC.out x hxl
   have hor := order_fmt x
   have HTK := Lib.hid (show l.take (j + 1) = l.take j ++ [x] by rw [hx]; exact List.take_succ_eq_append_getElem hjl)
   have HXL := Lib.hid hxl
   clear hx hxl
   cases hnan : isNaNB x with
   | true =>
    rw [hnan] at hor
    have HN := Lib.hid (show minB l = nanB by
     have e := (nan_can hxc).1 hnan
     exact if_pos (e ▸ HXL.out))
    have HFR := Lib.hid (fun w => rfrom_any 9221120237041090560 w (by decide))
    rw [show canB 9221120237041090560 = nanB from by decide] at HFR
    clear hnan hxc
    go_wp2_with fail
    go_region_held3 (fun wx => wx.cell? ⟨g, o + j, none⟩ = some (.float .f64 x)) (first | (exact cj)) (first | fail)
    go_wp2_with fail
    refine (HFR.out _).mono ?_
    rintro e w1 ⟨rfl, rfl⟩
    go_wp2_with fail
    go_ret2
    exact ⟨by rw [HN.out]; rfl, kr.drew⟩
   | false =>
    rw [hnan] at hor
    have hxn : x ≠ nanB := fun e => by rw [(nan_can hxc).2 e] at hnan; cases hnan
    have HXN := Lib.hid hxn
    have hyc := HC.out y hy.out.2.2
    have HK := Lib.hid (fun w => rcmp_any x y w hxc hyc)
    clear hnan hxc hyc hxn
    have HTN := Lib.hid (show nanB ∉ l.take (j + 1) by rw [HTK.out]; simp; exact ⟨hy.out.2.1, fun e => HXN.out e.symm⟩)
    have HFD := Lib.hid (show (l.take (j + 1)).foldl lessK x0 = lessK y x by rw [HTK.out, List.foldl_append, ← hy.out.1]; rfl)
    by_cases hk : keyB x < keyB y
    ·have e1 : cmpK (keyB x) (keyB y) = -1 := by unfold cmpK; rw [if_pos hk]
     rw [e1] at HK
     have HM := Lib.hid (lessK_pick hk)
     clear hk e1
     go_wp2_with fail
     go_region_held3 (fun wx => wx.cell? ⟨g, o + j, none⟩ = some (.float .f64 x)) (first | (exact cj)) (first | fail)
     have cj2 : wr.drew.cell? ⟨g, o + j, none⟩ = some (.float .f64 x) := cj
     go_wp2_with fail
     refine (HK.out _).mono ?_
     rintro e w1 ⟨rfl, rfl⟩
     go_wp2_with fail
     go_roundw
     case rel => exact ⟨j + 1, x, kr.drew, hlt, by go_num, rfl, Lib.hid ⟨by rw [HFD.out, HM.out], HTN.out, HXL.out⟩⟩
     case measure => simp [intOf]; omega
    ·obtain ⟨c, hc, hc2⟩ : ∃ c, cmpK (keyB x) (keyB y) = c ∧ (c = 0 ∨ c = 1) := by
      refine ⟨_, rfl, ?_⟩
      by_cases h1 : keyB y < keyB x
      ·exact Or.inr (by unfold cmpK; rw [if_neg hk, if_pos h1])
      ·exact Or.inl (by unfold cmpK; rw [if_neg hk, if_neg h1])
     rw [hc] at HK
     have HM := Lib.hid (lessK_keep hk)
     clear hk hc
     rcases hc2 with rfl | rfl
     all_goals
      go_wp2_with fail
      go_region_held3 (fun wx => wx.cell? ⟨g, o + j, none⟩ = some (.float .f64 x)) (first | (exact cj)) (first | fail)
      have cj2 : wr.drew.cell? ⟨g, o + j, none⟩ = some (.float .f64 x) := cj
      go_wp2_with fail
      refine (HK.out _).mono ?_
      rintro e w1 ⟨rfl, rfl⟩
      go_wp2_with fail
      go_roundw
      case rel => exact ⟨j + 1, y, kr.drew, hlt, by go_num, rfl, Lib.hid ⟨by rw [HFD.out, HM.out], HTN.out, hy.out.2.2⟩⟩
      case measure => simp [intOf]; omega
  ·obtain rfl : j = n := by omega
   have hnl : ¬ ((j : Int) < j) := by omega
   have HE := Lib.hid (show minB l = y by
    have h1 := hy.out
    rw [List.take_of_length_le (by have := HL.out; omega)] at h1
    unfold minB
    rw [if_neg h1.2.1, h1.1, HX0.out.1])
   clear hy
   go_wp2_with fail
   go_ret2
   exact ⟨by rw [HE.out]; rfl, kr⟩
end Go.Proofs.YtelakcjbknbehaaGreat
namespace Go.Proofs.YtelakcjbknbehaaGreat
open Go.RowKit Go.Lib Ieee

def SlF (w : World) (pa : Option Addr) (cp : Nat) (l : List Nat) : Prop := (l = [] ∧ pa = none ∧ cp = 0) ∨ (l ≠ [] ∧ l.length ≤ cp ∧ ∃ g o, pa = some ⟨g, o, none⟩ ∧ FlT w (some ⟨g, o, none⟩) l)
theorem SlF.k33 {w w' : World} {pa : Option Addr} {cp : Nat} {l : List Nat} (h : SlF w pa cp l) (k : K33 w w') : SlF w' pa cp l := by
 rcases h with h | ⟨h1, h2, g, o, h3, h4⟩
 ·exact Or.inl h
 ·exact Or.inr ⟨h1, h2, g, o, h3, h4.k33 k⟩
theorem Chg.of_eq {w w' : World} (h : w = w') : Chg [] w w' := by subst h; exact Chg.refl _ _
def mV (f : List Nat → Nat) (l : List Nat) : Nat := if l.isEmpty then 0 else f l
def mK (l : List Nat) : Nat := if l.isEmpty then 14 else 0
theorem sumC_nil : sumC [] = 0 := by decide +kernel
set_option maxRecDepth 100000 in
set_option maxHeartbeats 2000000 in
theorem nil142 (w : World) : Calls Tryz.prog 142 #[.slice none 0 0] w fun e w' => e = .returned (.bool false) ∧ w = w' := by
 go_enter Tryz.func142, Tryz.ntmps142
 go_wp2_with fail
 go_loopw [7] (fun i wr => i = .int .i64 0 ∧ w = wr) (fun _ _ => 0)
 case atStart => exact ⟨rfl, rfl⟩
 case round =>
  obtain ⟨rfl, rfl⟩ := hrel
  go_wp2_with fail
  go_ret
  exact ⟨rfl, rfl⟩
set_option maxRecDepth 100000 in
set_option maxHeartbeats 2000000 in
theorem nil67 (w : World) : Calls Tryz.prog 67 #[.slice none 0 0] w fun e w' => e = .returned (.float .f64 0) ∧ w = w' := by
 have ha : ∀ w, (binOp .add 33 (.float .f64 0) (.float .f64 0)).run Tryz.prog w = .ok (.float .f64 0) w := fun w => by kernel_rfl
 have hq : ∀ w, (binOp .neq 33 (.float .f64 0) (.float .f64 0)).run Tryz.prog w = .ok (.bool false) w := fun w => by kernel_rfl
 go_enter Tryz.func67, Tryz.ntmps67
 go_wp2_with fail
 refine (nil142 _).mono ?_
 rintro e w1 ⟨rfl, rfl⟩
 go_wp2_with fail
 go_loopw [3, 4, 13] (fun s t i wr => s = .float .f64 0 ∧ t = .float .f64 0 ∧ i = .int .i64 0 ∧ w = wr) (fun _ _ _ _ => 0)
 case atStart => exact ⟨rfl, rfl, rfl, rfl⟩
 case round =>
  obtain ⟨rfl, rfl, rfl, rfl⟩ := hrel
  go_wp2_with (first | (go_at_call 145; refine (plain_zero _).mono ?_; rintro e w2 ⟨rfl, rfl⟩))
  go_ret
  exact ⟨rfl, rfl⟩
set_option maxRecDepth 100000 in
set_option maxHeartbeats 2000000 in
theorem nil66 (w : World) : Calls Tryz.prog 66 #[.slice none 0 0] w fun e w' => e = .returned (.tuple #[.float .f64 (sumC []), .int .i64 0]) ∧ w = w' := by
 go_enter Tryz.func66, Tryz.ntmps66
 go_wp2_with (first | (go_at_call 67; refine (nil67 _).mono ?_; rintro e w2 ⟨rfl, rfl⟩))
 go_ret2
 exact ⟨by rw [sumC_nil]; rfl, rfl⟩
set_option maxRecDepth 100000 in
set_option maxHeartbeats 2000000 in
theorem nil72 (w : World) : Calls Tryz.prog 72 #[.slice none 0 0] w fun e w' => e = .returned (.tuple #[.float .f64 0, .int .i64 14]) ∧ w = w' := by
 go_enter Tryz.func72, Tryz.ntmps72
 go_wp2_with fail
 go_ret2
 exact ⟨rfl, rfl⟩
set_option maxRecDepth 100000 in
set_option maxHeartbeats 2000000 in
theorem nil71 (w : World) : Calls Tryz.prog 71 #[.slice none 0 0] w fun e w' => e = .returned (.tuple #[.float .f64 0, .int .i64 14]) ∧ w = w' := by
 go_enter Tryz.func71, Tryz.ntmps71
 go_wp2_with (first | (go_at_call 72; refine (nil72 _).mono ?_; rintro e w2 ⟨rfl, rfl⟩))
 go_ret2
 exact ⟨rfl, rfl⟩
set_option maxRecDepth 100000 in
set_option maxHeartbeats 2000000 in
theorem nil108m (w : World) : Calls Tryz.prog 108 #[.slice none 0 0, .int .i64 (-1)] w fun e w' => e = .returned (.tuple #[.float .f64 0, .int .i64 14]) ∧ w = w' := by
 go_enter Tryz.func108, Tryz.ntmps108
 go_wp2_with fail
 go_ret2
 exact ⟨rfl, rfl⟩
set_option maxRecDepth 100000 in
set_option maxHeartbeats 2000000 in
theorem nil108 (w : World) : Calls Tryz.prog 108 #[.slice none 0 0, .int .i64 1] w fun e w' => e = .returned (.tuple #[.float .f64 0, .int .i64 14]) ∧ w = w' := by
 go_enter Tryz.func108, Tryz.ntmps108
 go_wp2_with fail
 go_ret2
 exact ⟨rfl, rfl⟩
set_option maxRecDepth 100000 in
set_option maxHeartbeats 2000000 in
theorem nil74 (w : World) : Calls Tryz.prog 74 #[.slice none 0 0] w fun e w' => e = .returned (.tuple #[.float .f64 0, .int .i64 14]) ∧ w = w' := by
 go_enter Tryz.func74, Tryz.ntmps74
 go_wp2_with (first | (go_at_call 108; refine (nil108m _).mono ?_; rintro e w2 ⟨rfl, rfl⟩))
 go_ret2
 exact ⟨rfl, rfl⟩
set_option maxRecDepth 100000 in
set_option maxHeartbeats 2000000 in
theorem nil73 (w : World) : Calls Tryz.prog 73 #[.slice none 0 0] w fun e w' => e = .returned (.tuple #[.float .f64 0, .int .i64 14]) ∧ w = w' := by
 go_enter Tryz.func73, Tryz.ntmps73
 go_wp2_with (first | (go_at_call 74; refine (nil74 _).mono ?_; rintro e w2 ⟨rfl, rfl⟩))
 go_ret2
 exact ⟨rfl, rfl⟩
set_option maxRecDepth 100000 in
set_option maxHeartbeats 2000000 in
theorem nil47 (w : World) : Calls Tryz.prog 47 #[.slice none 0 0] w fun e w' => e = .returned (.tuple #[.float .f64 0, .int .i64 14]) ∧ w = w' := by
 go_enter Tryz.func47, Tryz.ntmps47
 go_wp2_with (first | (go_at_call 108; refine (nil108 _).mono ?_; rintro e w2 ⟨rfl, rfl⟩))
 go_ret2
 exact ⟨rfl, rfl⟩
set_option maxRecDepth 100000 in
set_option maxHeartbeats 2000000 in
theorem nil46 (w : World) : Calls Tryz.prog 46 #[.slice none 0 0] w fun e w' => e = .returned (.tuple #[.float .f64 0, .int .i64 14]) ∧ w = w' := by
 go_enter Tryz.func46, Tryz.ntmps46
 go_wp2_with (first | (go_at_call 47; refine (nil47 _).mono ?_; rintro e w2 ⟨rfl, rfl⟩))
 go_ret2
 exact ⟨rfl, rfl⟩
set_option maxRecDepth 100000 in
set_option maxHeartbeats 2000000 in
theorem sum66 (w : World) {g o n cp : Nat} {l : List Nat} (hl : l.length = n) (hn2 : n ≤ 1000000) (hF : Fl w (some ⟨g, o, none⟩) l) (hc : ∀ x ∈ l, x < 18446744073709551616) :
  Calls Tryz.prog 66 #[.slice (some ⟨g, o, none⟩) n cp] w fun e w' => e = .returned (.tuple #[.float .f64 (sumC l), .int .i64 0]) ∧ Chg [] w w' := by
 have HM := Lib.hid (fsum_any w (cp := cp) hl hn2 hF hc)
 clear hl hF hc
 go_enter Tryz.func66, Tryz.ntmps66
 go_wp2_with (first | (go_at_call 67; refine HM.out.mono ?_; rintro e w2 ⟨rfl, k2⟩))
 go_ret2
 exact ⟨rfl, k2⟩
theorem s66 (w : World) {pa : Option Addr} {cp : Nat} {l : List Nat} (h : SlF w pa cp l) (hc : ∀ x ∈ l, CanB x) (hn : l.length ≤ 2000) :
  Calls Tryz.prog 66 #[.slice pa l.length cp] w fun e w' => e = .returned (.tuple #[.float .f64 (sumC l), .int .i64 (0)]) ∧ Chg [] w w' := by
 rcases h with ⟨rfl, rfl, rfl⟩ | ⟨hne, hcp, g, o, rfl, hF, -⟩
 ·exact (nil66 w).mono fun e w' h => ⟨h.1, Chg.of_eq h.2⟩
 ·have hl : 0 < l.length := List.length_pos_iff.2 hne
  refine Calls.mono (sum66 w (cp := cp) rfl (by omega) hF (fun x hx => (hc x hx).1)) ?_
  rintro e w' ⟨rfl, k⟩
  exact ⟨rfl, k⟩
theorem s71 (w : World) {pa : Option Addr} {cp : Nat} {l : List Nat} (h : SlF w pa cp l) (hc : ∀ x ∈ l, CanB x) (hn : l.length ≤ 2000) :
  Calls Tryz.prog 71 #[.slice pa l.length cp] w fun e w' => e = .returned (.tuple #[.float .f64 (mV meanC l), .int .i64 (mK l)]) ∧ Chg [] w w' := by
 rcases h with ⟨rfl, rfl, rfl⟩ | ⟨hne, hcp, g, o, rfl, hF, -⟩
 ·exact (nil71 w).mono fun e w' h => ⟨h.1, Chg.of_eq h.2⟩
 ·have hl : 0 < l.length := List.length_pos_iff.2 hne
  have e1 : l.isEmpty = false := by cases l <;> simp_all
  refine Calls.mono (fmean71 w (cp := cp) rfl hl (by omega) hF (fun x hx => (hc x hx).1)) ?_
  rintro e w' ⟨rfl, k⟩
  exact ⟨by simp [mV, mK, e1], k⟩
theorem s73 (w : World) {pa : Option Addr} {cp : Nat} {l : List Nat} (h : SlF w pa cp l) (hc : ∀ x ∈ l, CanB x) (hn : l.length ≤ 2000) :
  Calls Tryz.prog 73 #[.slice pa l.length cp] w fun e w' => e = .returned (.tuple #[.float .f64 (mV minB l), .int .i64 (mK l)]) ∧ Chg [] w w' := by
 rcases h with ⟨rfl, rfl, rfl⟩ | ⟨hne, hcp, g, o, rfl, hF, -⟩
 ·exact (nil73 w).mono fun e w' h => ⟨h.1, Chg.of_eq h.2⟩
 ·have hl : 0 < l.length := List.length_pos_iff.2 hne
  have e1 : l.isEmpty = false := by cases l <;> simp_all
  refine Calls.mono (fleast_any w (cp := cp) rfl hl (by omega) hF hc) ?_
  rintro e w' ⟨rfl, k⟩
  exact ⟨by simp [mV, mK, e1], Chg.of_eq k⟩
theorem s46 (w : World) {pa : Option Addr} {cp : Nat} {l : List Nat} (h : SlF w pa cp l) (hc : ∀ x ∈ l, CanB x) (hn : l.length ≤ 2000) :
  Calls Tryz.prog 46 #[.slice pa l.length cp] w fun e w' => e = .returned (.tuple #[.float .f64 (mV maxB l), .int .i64 (mK l)]) ∧ Chg [] w w' := by
 rcases h with ⟨rfl, rfl, rfl⟩ | ⟨hne, hcp, g, o, rfl, hF, -⟩
 ·exact (nil46 w).mono fun e w' h => ⟨h.1, Chg.of_eq h.2⟩
 ·have hl : 0 < l.length := List.length_pos_iff.2 hne
  have e1 : l.isEmpty = false := by cases l <;> simp_all
  refine Calls.mono (fmax_any w (cp := cp) rfl hl (by omega) hF hc) ?_
  rintro e w' ⟨rfl, k⟩
  exact ⟨by simp [mV, mK, e1], Chg.of_eq k⟩
set_option maxRecDepth 100000 in
set_option maxHeartbeats 2000000 in
theorem nil68 (w : World) : Calls Tryz.prog 68 #[.slice none 0 0] w fun e w' => e = .returned (.float .f64 0) ∧ Chg [] w w' := by
 have ha : ∀ w, (binOp .add 33 (.float .f64 0) (.float .f64 0)).run Tryz.prog w = .ok (.float .f64 0) w := fun w => by kernel_rfl
 have hq : ∀ w, (binOp .neq 33 (.float .f64 0) (.float .f64 0)).run Tryz.prog w = .ok (.bool false) w := fun w => by kernel_rfl
 have hp : ∀ w, (binOp .eql 33 (.float .f64 0) (.float .f64 0)).run Tryz.prog w = .ok (.bool true) w := fun w => by kernel_rfl
 go_enter Tryz.func68, Tryz.ntmps68
 go_wp2_with fail
 go_loopw [3, 4, 5, 6, 7, 8, 9, 10] (fun s c mn i _ _ _ _ wr => s = .float .f64 0 ∧ c = .float .f64 0 ∧ mn = .bool false ∧ i = .int .i64 0 ∧ Chg [] w wr) (fun _ _ _ _ _ _ _ _ _ => 0)
 case atStart => exact ⟨rfl, rfl, rfl, rfl, Chg.refl _ _⟩
 case round =>
  obtain ⟨rfl, rfl, rfl, rfl, kr⟩ := hrel
  go_wp2_with fail
  go_ret
  exact ⟨rfl, kr⟩
set_option maxRecDepth 100000 in
set_option maxHeartbeats 2000000 in
theorem nil69 (w : World) : Calls Tryz.prog 69 #[.slice none 0 0] w fun e w' => e = .returned (.tuple #[.float .f64 0, .int .i64 14]) ∧ w = w' := by
 go_enter Tryz.func69, Tryz.ntmps69
 go_wp2_with fail
 go_ret2
 exact ⟨rfl, rfl⟩
set_option maxRecDepth 100000 in
set_option maxHeartbeats 2000000 in
theorem nil13m (w : World) : Calls Tryz.prog 13 #[.slice none 0 0, .int .i64 (-1)] w fun e w' => e = .returned (.tuple #[.float .f64 0, .int .i64 14]) ∧ w = w' := by
 go_enter Tryz.func13, Tryz.ntmps13
 go_wp2_with fail
 go_ret2
 exact ⟨rfl, rfl⟩
set_option maxRecDepth 100000 in
set_option maxHeartbeats 2000000 in
theorem nil13 (w : World) : Calls Tryz.prog 13 #[.slice none 0 0, .int .i64 1] w fun e w' => e = .returned (.tuple #[.float .f64 0, .int .i64 14]) ∧ w = w' := by
 go_enter Tryz.func13, Tryz.ntmps13
 go_wp2_with fail
 go_ret2
 exact ⟨rfl, rfl⟩
theorem s68 (w : World) {pa : Option Addr} {cp : Nat} {l : List Nat} (h : SlF w pa cp l) (hc : ∀ x ∈ l, CanB x) (hn : l.length ≤ 2000) :
  Calls Tryz.prog 68 #[.slice pa l.length cp] w fun e w' => e = .returned (.float .f64 (sumC l)) ∧ Chg [] w w' := by
 rcases h with ⟨rfl, rfl, rfl⟩ | ⟨hne, hcp, g, o, rfl, hF, -⟩
 ·exact (nil68 w).mono fun e w' h => ⟨by rw [h.1, sumC_nil], h.2⟩
 ·have hl : 0 < l.length := List.length_pos_iff.2 hne
  refine Calls.mono (rsum_any w (cp := cp) rfl (by omega) hF hc) ?_
  rintro e w' ⟨rfl, k⟩
  exact ⟨rfl, k⟩
theorem s69 (w : World) {pa : Option Addr} {cp : Nat} {l : List Nat} (h : SlF w pa cp l) (hc : ∀ x ∈ l, CanB x) (hn : l.length ≤ 2000) :
  Calls Tryz.prog 69 #[.slice pa l.length cp] w fun e w' => e = .returned (.tuple #[.float .f64 (mV meanC l), .int .i64 (mK l)]) ∧ Chg [] w w' := by
 rcases h with ⟨rfl, rfl, rfl⟩ | ⟨hne, hcp, g, o, rfl, hF, -⟩
 ·exact (nil69 w).mono fun e w' h => ⟨h.1, Chg.of_eq h.2⟩
 ·have hl : 0 < l.length := List.length_pos_iff.2 hne
  have e1 : l.isEmpty = false := by cases l <;> simp_all
  refine Calls.mono (rmean_any w (cp := cp) rfl hl (by omega) hF hc) ?_
  rintro e w' ⟨rfl, k⟩
  exact ⟨by simp [mV, mK, e1], k⟩
theorem s13m (w : World) {pa : Option Addr} {cp : Nat} {l : List Nat} (h : SlF w pa cp l) (hc : ∀ x ∈ l, CanB x) (hn : l.length ≤ 2000) :
  Calls Tryz.prog 13 #[.slice pa l.length cp, .int .i64 (-1)] w fun e w' => e = .returned (.tuple #[.float .f64 (mV minB l), .int .i64 (mK l)]) ∧ Chg [] w w' := by
 rcases h with ⟨rfl, rfl, rfl⟩ | ⟨hne, hcp, g, o, rfl, hF, -⟩
 ·exact (nil13m w).mono fun e w' h => ⟨h.1, Chg.of_eq h.2⟩
 ·have hl : 0 < l.length := List.length_pos_iff.2 hne
  have e1 : l.isEmpty = false := by cases l <;> simp_all
  refine Calls.mono (rleast_any w (cp := cp) rfl hl (by omega) hF hc) ?_
  rintro e w' ⟨rfl, k⟩
  exact ⟨by simp [mV, mK, e1], k⟩
theorem s13 (w : World) {pa : Option Addr} {cp : Nat} {l : List Nat} (h : SlF w pa cp l) (hc : ∀ x ∈ l, CanB x) (hn : l.length ≤ 2000) :
  Calls Tryz.prog 13 #[.slice pa l.length cp, .int .i64 1] w fun e w' => e = .returned (.tuple #[.float .f64 (mV maxB l), .int .i64 (mK l)]) ∧ Chg [] w w' := by
 rcases h with ⟨rfl, rfl, rfl⟩ | ⟨hne, hcp, g, o, rfl, hF, -⟩
 ·exact (nil13 w).mono fun e w' h => ⟨h.1, Chg.of_eq h.2⟩
 ·have hl : 0 < l.length := List.length_pos_iff.2 hne
  have e1 : l.isEmpty = false := by cases l <;> simp_all
  refine Calls.mono (rmost_any w (cp := cp) rfl hl (by omega) hF hc) ?_
  rintro e w' ⟨rfl, k⟩
  exact ⟨by simp [mV, mK, e1], k⟩
def Ask (fn P : Nat) (hd f n : Int) (J K : World → Prop) (l : List Nat) (code : Nat) : Prop :=
 ∀ w, J w → Calls Tryz.prog fn #[.pointer (some ⟨P, 0, none⟩), .int .i64 hd, .int .i64 f, .int .i64 n] w fun e w' => ∃ pa cp, e = .returned (.tuple #[.slice pa l.length cp, .int .i64 code]) ∧ SlF w' pa cp l ∧ K w'
def anV (code v : Nat) : Nat := if code = 0 then v else 0
def anK (code k : Nat) : Nat := if code = 0 then k else code
set_option maxRecDepth 100000 in
set_option maxHeartbeats 2000000 in
theorem pq_sum (w : World) {J K : World → Prop} {P : Nat} {hd f n : Int} {l : List Nat} {code : Nat} (hA : Ask 15 P hd f n J K l code) (hcl : ∀ w w', K w → Chg [] w w' → K w') (hc : ∀ x ∈ l, CanB x) (hn : l.length ≤ 2000) (h : J w) :
  Calls Tryz.prog 26 #[.pointer (some ⟨P, 0, none⟩), .int .i64 hd, .int .i64 f, .int .i64 n] w fun e w' => e = .returned (.tuple #[.float .f64 (anV code (sumC l)), .int .i64 (anK code (0))]) ∧ K w' := by
 have H45 : Calls Tryz.prog 45 #[.pointer (some ⟨P, 0, none⟩), .int .i64 hd, .int .i64 f, .int .i64 n, .func (.func 66) #[] #[]] w fun e w' => e = .returned (.tuple #[.float .f64 (anV code (sumC l)), .int .i64 (anK code (0))]) ∧ K w' := by
  have HC := Lib.hid (hA w h)
  have HCL := Lib.hid hcl
  have HCN := Lib.hid hc
  clear h hA hcl hc
  obtain ⟨N, hN⟩ : ∃ N, N = l.length := ⟨_, rfl⟩
  rw [← hN] at HC
  have HNN := Lib.hid (And.intro hN hn)
  clear hN hn
  by_cases hz : code = 0
  ·subst hz
   go_enter Tryz.func45, Tryz.ntmps45
   go_wp2_with fail
   refine HC.out.mono ?_
   rintro e w1 ⟨pa, cp, rfl, hF, hj⟩
   have HS := Lib.hid (s66 w1 hF HCN.out HNN.out.2)
   rw [← HNN.out.1] at HS
   have HJ := Lib.hid hj
   clear HC hF hj
   go_wp2_with (first | (go_at_call 66; refine HS.out.mono ?_; rintro e w2 ⟨rfl, k2⟩))
   go_ret2
   exact ⟨rfl, HCL.out _ _ HJ.out k2⟩
  ·have hz2 : (code : Int) ≠ 0 := by omega
   have HV := Lib.hid (show anV code (sumC l) = 0 ∧ anK code (0) = code from ⟨if_neg hz, if_neg hz⟩)
   go_enter Tryz.func45, Tryz.ntmps45
   go_wp2_with fail
   refine HC.out.mono ?_
   rintro e w1 ⟨pa, cp, rfl, -, hj⟩
   have HJ := Lib.hid hj
   clear HC hj
   go_wp2_with fail
   go_ret2
   exact ⟨by rw [HV.out.1, HV.out.2]; rfl, HJ.out⟩
 have HQ := Lib.hid H45
 clear h H45 hA hcl hc
 go_enter Tryz.func26, Tryz.ntmps26
 go_wp2_with fail
 refine HQ.out.mono ?_
 rintro e w1 ⟨rfl, hr⟩
 have HR := Lib.hid hr
 clear hr
 go_wp2_with fail
 go_ret2
 exact ⟨rfl, HR.out⟩
set_option maxRecDepth 100000 in
set_option maxHeartbeats 2000000 in
theorem pq_mean (w : World) {J K : World → Prop} {P : Nat} {hd f n : Int} {l : List Nat} {code : Nat} (hA : Ask 15 P hd f n J K l code) (hcl : ∀ w w', K w → Chg [] w w' → K w') (hc : ∀ x ∈ l, CanB x) (hn : l.length ≤ 2000) (h : J w) :
  Calls Tryz.prog 28 #[.pointer (some ⟨P, 0, none⟩), .int .i64 hd, .int .i64 f, .int .i64 n] w fun e w' => e = .returned (.tuple #[.float .f64 (anV code (mV meanC l)), .int .i64 (anK code (mK l))]) ∧ K w' := by
 have H45 : Calls Tryz.prog 45 #[.pointer (some ⟨P, 0, none⟩), .int .i64 hd, .int .i64 f, .int .i64 n, .func (.func 71) #[] #[]] w fun e w' => e = .returned (.tuple #[.float .f64 (anV code (mV meanC l)), .int .i64 (anK code (mK l))]) ∧ K w' := by
  have HC := Lib.hid (hA w h)
  have HCL := Lib.hid hcl
  have HCN := Lib.hid hc
  clear h hA hcl hc
  obtain ⟨N, hN⟩ : ∃ N, N = l.length := ⟨_, rfl⟩
  rw [← hN] at HC
  have HNN := Lib.hid (And.intro hN hn)
  clear hN hn
  by_cases hz : code = 0
  ·subst hz
   go_enter Tryz.func45, Tryz.ntmps45
   go_wp2_with fail
   refine HC.out.mono ?_
   rintro e w1 ⟨pa, cp, rfl, hF, hj⟩
   have HS := Lib.hid (s71 w1 hF HCN.out HNN.out.2)
   rw [← HNN.out.1] at HS
   have HJ := Lib.hid hj
   clear HC hF hj
   go_wp2_with (first | (go_at_call 71; refine HS.out.mono ?_; rintro e w2 ⟨rfl, k2⟩))
   go_ret2
   exact ⟨rfl, HCL.out _ _ HJ.out k2⟩
  ·have hz2 : (code : Int) ≠ 0 := by omega
   have HV := Lib.hid (show anV code (mV meanC l) = 0 ∧ anK code (mK l) = code from ⟨if_neg hz, if_neg hz⟩)
   go_enter Tryz.func45, Tryz.ntmps45
   go_wp2_with fail
   refine HC.out.mono ?_
   rintro e w1 ⟨pa, cp, rfl, -, hj⟩
   have HJ := Lib.hid hj
   clear HC hj
   go_wp2_with fail
   go_ret2
   exact ⟨by rw [HV.out.1, HV.out.2]; rfl, HJ.out⟩
 have HQ := Lib.hid H45
 clear h H45 hA hcl hc
 go_enter Tryz.func28, Tryz.ntmps28
 go_wp2_with fail
 refine HQ.out.mono ?_
 rintro e w1 ⟨rfl, hr⟩
 have HR := Lib.hid hr
 clear hr
 go_wp2_with fail
 go_ret2
 exact ⟨rfl, HR.out⟩
set_option maxRecDepth 100000 in
set_option maxHeartbeats 2000000 in
theorem pq_least (w : World) {J K : World → Prop} {P : Nat} {hd f n : Int} {l : List Nat} {code : Nat} (hA : Ask 15 P hd f n J K l code) (hcl : ∀ w w', K w → Chg [] w w' → K w') (hc : ∀ x ∈ l, CanB x) (hn : l.length ≤ 2000) (h : J w) :
  Calls Tryz.prog 29 #[.pointer (some ⟨P, 0, none⟩), .int .i64 hd, .int .i64 f, .int .i64 n] w fun e w' => e = .returned (.tuple #[.float .f64 (anV code (mV minB l)), .int .i64 (anK code (mK l))]) ∧ K w' := by
 have H45 : Calls Tryz.prog 45 #[.pointer (some ⟨P, 0, none⟩), .int .i64 hd, .int .i64 f, .int .i64 n, .func (.func 73) #[] #[]] w fun e w' => e = .returned (.tuple #[.float .f64 (anV code (mV minB l)), .int .i64 (anK code (mK l))]) ∧ K w' := by
  have HC := Lib.hid (hA w h)
  have HCL := Lib.hid hcl
  have HCN := Lib.hid hc
  clear h hA hcl hc
  obtain ⟨N, hN⟩ : ∃ N, N = l.length := ⟨_, rfl⟩
  rw [← hN] at HC
  have HNN := Lib.hid (And.intro hN hn)
  clear hN hn
  by_cases hz : code = 0
  ·subst hz
   go_enter Tryz.func45, Tryz.ntmps45
   go_wp2_with fail
   refine HC.out.mono ?_
   rintro e w1 ⟨pa, cp, rfl, hF, hj⟩
   have HS := Lib.hid (s73 w1 hF HCN.out HNN.out.2)
   rw [← HNN.out.1] at HS
   have HJ := Lib.hid hj
   clear HC hF hj
   go_wp2_with (first | (go_at_call 73; refine HS.out.mono ?_; rintro e w2 ⟨rfl, k2⟩))
   go_ret2
   exact ⟨rfl, HCL.out _ _ HJ.out k2⟩
  ·have hz2 : (code : Int) ≠ 0 := by omega
   have HV := Lib.hid (show anV code (mV minB l) = 0 ∧ anK code (mK l) = code from ⟨if_neg hz, if_neg hz⟩)
   go_enter Tryz.func45, Tryz.ntmps45
   go_wp2_with fail
   refine HC.out.mono ?_
   rintro e w1 ⟨pa, cp, rfl, -, hj⟩
   have HJ := Lib.hid hj
   clear HC hj
   go_wp2_with fail
   go_ret2
   exact ⟨by rw [HV.out.1, HV.out.2]; rfl, HJ.out⟩
 have HQ := Lib.hid H45
 clear h H45 hA hcl hc
 go_enter Tryz.func29, Tryz.ntmps29
 go_wp2_with fail
 refine HQ.out.mono ?_
 rintro e w1 ⟨rfl, hr⟩
 have HR := Lib.hid hr
 clear hr
 go_wp2_with fail
 go_ret2
 exact ⟨rfl, HR.out⟩
set_option maxRecDepth 100000 in
set_option maxHeartbeats 2000000 in
theorem pq_most (w : World) {J K : World → Prop} {P : Nat} {hd f n : Int} {l : List Nat} {code : Nat} (hA : Ask 15 P hd f n J K l code) (hcl : ∀ w w', K w → Chg [] w w' → K w') (hc : ∀ x ∈ l, CanB x) (hn : l.length ≤ 2000) (h : J w) :
  Calls Tryz.prog 12 #[.pointer (some ⟨P, 0, none⟩), .int .i64 hd, .int .i64 f, .int .i64 n] w fun e w' => e = .returned (.tuple #[.float .f64 (anV code (mV maxB l)), .int .i64 (anK code (mK l))]) ∧ K w' := by
 have H45 : Calls Tryz.prog 45 #[.pointer (some ⟨P, 0, none⟩), .int .i64 hd, .int .i64 f, .int .i64 n, .func (.func 46) #[] #[]] w fun e w' => e = .returned (.tuple #[.float .f64 (anV code (mV maxB l)), .int .i64 (anK code (mK l))]) ∧ K w' := by
  have HC := Lib.hid (hA w h)
  have HCL := Lib.hid hcl
  have HCN := Lib.hid hc
  clear h hA hcl hc
  obtain ⟨N, hN⟩ : ∃ N, N = l.length := ⟨_, rfl⟩
  rw [← hN] at HC
  have HNN := Lib.hid (And.intro hN hn)
  clear hN hn
  by_cases hz : code = 0
  ·subst hz
   go_enter Tryz.func45, Tryz.ntmps45
   go_wp2_with fail
   refine HC.out.mono ?_
   rintro e w1 ⟨pa, cp, rfl, hF, hj⟩
   have HS := Lib.hid (s46 w1 hF HCN.out HNN.out.2)
   rw [← HNN.out.1] at HS
   have HJ := Lib.hid hj
   clear HC hF hj
   go_wp2_with (first | (go_at_call 46; refine HS.out.mono ?_; rintro e w2 ⟨rfl, k2⟩))
   go_ret2
   exact ⟨rfl, HCL.out _ _ HJ.out k2⟩
  ·have hz2 : (code : Int) ≠ 0 := by omega
   have HV := Lib.hid (show anV code (mV maxB l) = 0 ∧ anK code (mK l) = code from ⟨if_neg hz, if_neg hz⟩)
   go_enter Tryz.func45, Tryz.ntmps45
   go_wp2_with fail
   refine HC.out.mono ?_
   rintro e w1 ⟨pa, cp, rfl, -, hj⟩
   have HJ := Lib.hid hj
   clear HC hj
   go_wp2_with fail
   go_ret2
   exact ⟨by rw [HV.out.1, HV.out.2]; rfl, HJ.out⟩
 have HQ := Lib.hid H45
 clear h H45 hA hcl hc
 go_enter Tryz.func12, Tryz.ntmps12
 go_wp2_with fail
 refine HQ.out.mono ?_
 rintro e w1 ⟨rfl, hr⟩
 have HR := Lib.hid hr
 clear hr
 go_wp2_with fail
 go_ret2
 exact ⟨rfl, HR.out⟩
def BlkQ (B q : Nat) (w : World) : Prop := w.heap[B]? = some (.cells #[.float .f64 q] 33 (0, 0))
set_option maxRecDepth 100000 in
set_option maxHeartbeats 2000000 in
theorem q75 (w : World) {B N cp q z k : Nat} {pa : Option Addr} (hB : w.cell? ⟨B, 0, none⟩ = some (.float .f64 q)) (hQ : Calls Tryz.prog 76 #[.slice pa N cp, .float .f64 q] w fun e w' => e = .returned (.tuple #[.float .f64 z, .int .i64 k]) ∧ Chg [] w w') :
  Calls Tryz.prog 75 #[.slice pa N cp, .pointer (some ⟨B, 0, none⟩)] w fun e w' => e = .returned (.tuple #[.float .f64 z, .int .i64 k]) ∧ Chg [] w w' := by
 have HQ := Lib.hid hQ
 clear hQ
 go_enter Tryz.func75, Tryz.ntmps75
 go_wp2_with fail
 refine HQ.out.mono ?_
 rintro e w1 ⟨rfl, k1⟩
 go_wp2_with fail
 go_ret2
 exact ⟨rfl, k1⟩
set_option maxRecDepth 100000 in
set_option maxHeartbeats 2000000 in
theorem pq_quant (w : World) {J K : World → Prop} {P : Nat} {hd f n : Int} {l : List Nat} {code : Nat} {q z k : Nat} (hA : ∀ B, Ask 15 P hd f n (fun w => J w ∧ BlkQ B q w) (fun w => K w ∧ BlkQ B q w) l code) (hcl : ∀ w w', K w → Chg [] w w' → K w') (hJ : ∀ w w', J w → Chg [] w w' → J w')
  (hQ : ∀ w pa cp, SlF w pa cp l → Calls Tryz.prog 76 #[.slice pa l.length cp, .float .f64 q] w fun e w' => e = .returned (.tuple #[.float .f64 z, .int .i64 k]) ∧ Chg [] w w') (h : J w) :
  Calls Tryz.prog 30 #[.pointer (some ⟨P, 0, none⟩), .int .i64 hd, .int .i64 f, .int .i64 n, .float .f64 q] w fun e w' => e = .returned (.tuple #[.float .f64 (anV code z), .int .i64 (anK code k)]) ∧ K w' := by
 have H45 : ∀ W B, J W → BlkQ B q W → Calls Tryz.prog 45 #[.pointer (some ⟨P, 0, none⟩), .int .i64 hd, .int .i64 f, .int .i64 n, .func (.func 75) #[] #[.pointer (some ⟨B, 0, none⟩)]] W fun e w' => e = .returned (.tuple #[.float .f64 (anV code z), .int .i64 (anK code k)]) ∧ K w' := by
  intro W B hJW hB
  have HC := Lib.hid (hA B W ⟨hJW, hB⟩)
  have HCL := Lib.hid hcl
  have HQ := Lib.hid hQ
  clear h hA hcl hQ hJ hJW hB
  obtain ⟨N, hN⟩ : ∃ N, N = l.length := ⟨_, rfl⟩
  rw [← hN] at HC HQ
  clear hN
  by_cases hz : code = 0
  ·subst hz
   go_enter Tryz.func45, Tryz.ntmps45
   go_wp2_with fail
   refine HC.out.mono ?_
   rintro e w1 ⟨pa, cp, rfl, hF, hj, hb⟩
   have HS := Lib.hid (q75 w1 (B := B) (cell_is hb 0 rfl) (HQ.out w1 pa cp hF))
   have HJ := Lib.hid hj
   clear HC hF hj hb HQ
   go_wp2_with (first | (go_at_call 75; refine HS.out.mono ?_; rintro e w2 ⟨rfl, k2⟩))
   go_ret2
   exact ⟨rfl, HCL.out _ _ HJ.out k2⟩
  ·have hz2 : (code : Int) ≠ 0 := by omega
   have HV := Lib.hid (show anV code z = 0 ∧ anK code k = code from ⟨if_neg hz, if_neg hz⟩)
   go_enter Tryz.func45, Tryz.ntmps45
   go_wp2_with fail
   refine HC.out.mono ?_
   rintro e w1 ⟨pa, cp, rfl, -, hj, -⟩
   have HJ := Lib.hid hj
   clear HC hj
   go_wp2_with fail
   go_ret2
   exact ⟨by rw [HV.out.1, HV.out.2]; rfl, HJ.out⟩
 have ka : Chg [] w (w.alloc (.cells #[.float .f64 q] 33)) := Chg.alloc w _
 have HH := Lib.hid (H45 (w.alloc (.cells #[.float .f64 q] 33)) w.heap.size (hJ _ _ h ka) (heap_new w _))
 clear h H45 hA hcl hJ hQ
 go_enter Tryz.func30, Tryz.ntmps30
 go_wp2_with fail
 refine HH.out.mono ?_
 rintro e w1 ⟨rfl, hr⟩
 have HR := Lib.hid hr
 clear hr
 go_wp2_with fail
 go_ret2
 exact ⟨rfl, HR.out⟩
set_option maxRecDepth 100000 in
set_option maxHeartbeats 2000000 in
theorem rq_sum (w : World) {J K : World → Prop} {P : Nat} {hd f n : Int} {l : List Nat} {code : Nat} (hA : Ask 25 P hd f n J K l code) (hcl : ∀ w w', K w → Chg [] w w' → K w') (hc : ∀ x ∈ l, CanB x) (hn : l.length ≤ 2000) (h : J w) :
  Calls Tryz.prog 27 #[.pointer (some ⟨P, 0, none⟩), .int .i64 hd, .int .i64 f, .int .i64 n, .int .i64 1, .float .f64 0] w fun e w' => e = .returned (.tuple #[.float .f64 (anV code (sumC l)), .int .i64 (anK code (0))]) ∧ K w' := by
 have HC := Lib.hid (hA w h)
 have HCL := Lib.hid hcl
 have HCN := Lib.hid hc
 clear h hA hcl hc
 obtain ⟨N, hN⟩ : ∃ N, N = l.length := ⟨_, rfl⟩
 rw [← hN] at HC
 have HNN := Lib.hid (And.intro hN hn)
 clear hN hn
 by_cases hz : code = 0
 ·subst hz
  go_enter Tryz.func27, Tryz.ntmps27
  go_wp2_with fail
  refine HC.out.mono ?_
  rintro e w1 ⟨pa, cp, rfl, hF, hj⟩
  have HS := Lib.hid (s68 w1 hF HCN.out HNN.out.2)
  rw [← HNN.out.1] at HS
  have HJ := Lib.hid hj
  clear HC hF hj
  go_wp2_with (first | (go_at_call 68; refine HS.out.mono ?_; rintro e w2 ⟨rfl, k2⟩))
  go_ret2
  exact ⟨rfl, HCL.out _ _ HJ.out k2⟩
 ·have hz2 : (code : Int) ≠ 0 := by omega
  have HV := Lib.hid (show anV code (sumC l) = 0 ∧ anK code (0) = code from ⟨if_neg hz, if_neg hz⟩)
  go_enter Tryz.func27, Tryz.ntmps27
  go_wp2_with fail
  refine HC.out.mono ?_
  rintro e w1 ⟨pa, cp, rfl, -, hj⟩
  have HJ := Lib.hid hj
  clear HC hj
  go_wp2_with fail
  go_ret2
  exact ⟨by rw [HV.out.1, HV.out.2]; rfl, HJ.out⟩
set_option maxRecDepth 100000 in
set_option maxHeartbeats 2000000 in
theorem rq_mean (w : World) {J K : World → Prop} {P : Nat} {hd f n : Int} {l : List Nat} {code : Nat} (hA : Ask 25 P hd f n J K l code) (hcl : ∀ w w', K w → Chg [] w w' → K w') (hc : ∀ x ∈ l, CanB x) (hn : l.length ≤ 2000) (h : J w) :
  Calls Tryz.prog 27 #[.pointer (some ⟨P, 0, none⟩), .int .i64 hd, .int .i64 f, .int .i64 n, .int .i64 2, .float .f64 0] w fun e w' => e = .returned (.tuple #[.float .f64 (anV code (mV meanC l)), .int .i64 (anK code (mK l))]) ∧ K w' := by
 have HC := Lib.hid (hA w h)
 have HCL := Lib.hid hcl
 have HCN := Lib.hid hc
 clear h hA hcl hc
 obtain ⟨N, hN⟩ : ∃ N, N = l.length := ⟨_, rfl⟩
 rw [← hN] at HC
 have HNN := Lib.hid (And.intro hN hn)
 clear hN hn
 by_cases hz : code = 0
 ·subst hz
  go_enter Tryz.func27, Tryz.ntmps27
  go_wp2_with fail
  refine HC.out.mono ?_
  rintro e w1 ⟨pa, cp, rfl, hF, hj⟩
  have HS := Lib.hid (s69 w1 hF HCN.out HNN.out.2)
  rw [← HNN.out.1] at HS
  have HJ := Lib.hid hj
  clear HC hF hj
  go_wp2_with (first | (go_at_call 69; refine HS.out.mono ?_; rintro e w2 ⟨rfl, k2⟩))
  go_ret2
  exact ⟨rfl, HCL.out _ _ HJ.out k2⟩
 ·have hz2 : (code : Int) ≠ 0 := by omega
  have HV := Lib.hid (show anV code (mV meanC l) = 0 ∧ anK code (mK l) = code from ⟨if_neg hz, if_neg hz⟩)
  go_enter Tryz.func27, Tryz.ntmps27
  go_wp2_with fail
  refine HC.out.mono ?_
  rintro e w1 ⟨pa, cp, rfl, -, hj⟩
  have HJ := Lib.hid hj
  clear HC hj
  go_wp2_with fail
  go_ret2
  exact ⟨by rw [HV.out.1, HV.out.2]; rfl, HJ.out⟩
set_option maxRecDepth 100000 in
set_option maxHeartbeats 2000000 in
theorem rq_least (w : World) {J K : World → Prop} {P : Nat} {hd f n : Int} {l : List Nat} {code : Nat} (hA : Ask 25 P hd f n J K l code) (hcl : ∀ w w', K w → Chg [] w w' → K w') (hc : ∀ x ∈ l, CanB x) (hn : l.length ≤ 2000) (h : J w) :
  Calls Tryz.prog 27 #[.pointer (some ⟨P, 0, none⟩), .int .i64 hd, .int .i64 f, .int .i64 n, .int .i64 3, .float .f64 0] w fun e w' => e = .returned (.tuple #[.float .f64 (anV code (mV minB l)), .int .i64 (anK code (mK l))]) ∧ K w' := by
 have HC := Lib.hid (hA w h)
 have HCL := Lib.hid hcl
 have HCN := Lib.hid hc
 clear h hA hcl hc
 obtain ⟨N, hN⟩ : ∃ N, N = l.length := ⟨_, rfl⟩
 rw [← hN] at HC
 have HNN := Lib.hid (And.intro hN hn)
 clear hN hn
 by_cases hz : code = 0
 ·subst hz
  go_enter Tryz.func27, Tryz.ntmps27
  go_wp2_with fail
  refine HC.out.mono ?_
  rintro e w1 ⟨pa, cp, rfl, hF, hj⟩
  have HS := Lib.hid (s13m w1 hF HCN.out HNN.out.2)
  rw [← HNN.out.1] at HS
  have HJ := Lib.hid hj
  clear HC hF hj
  go_wp2_with (first | (go_at_call 13; refine HS.out.mono ?_; rintro e w2 ⟨rfl, k2⟩))
  go_ret2
  exact ⟨rfl, HCL.out _ _ HJ.out k2⟩
 ·have hz2 : (code : Int) ≠ 0 := by omega
  have HV := Lib.hid (show anV code (mV minB l) = 0 ∧ anK code (mK l) = code from ⟨if_neg hz, if_neg hz⟩)
  go_enter Tryz.func27, Tryz.ntmps27
  go_wp2_with fail
  refine HC.out.mono ?_
  rintro e w1 ⟨pa, cp, rfl, -, hj⟩
  have HJ := Lib.hid hj
  clear HC hj
  go_wp2_with fail
  go_ret2
  exact ⟨by rw [HV.out.1, HV.out.2]; rfl, HJ.out⟩
set_option maxRecDepth 100000 in
set_option maxHeartbeats 2000000 in
theorem rq_most (w : World) {J K : World → Prop} {P : Nat} {hd f n : Int} {l : List Nat} {code : Nat} (hA : Ask 25 P hd f n J K l code) (hcl : ∀ w w', K w → Chg [] w w' → K w') (hc : ∀ x ∈ l, CanB x) (hn : l.length ≤ 2000) (h : J w) :
  Calls Tryz.prog 27 #[.pointer (some ⟨P, 0, none⟩), .int .i64 hd, .int .i64 f, .int .i64 n, .int .i64 4, .float .f64 0] w fun e w' => e = .returned (.tuple #[.float .f64 (anV code (mV maxB l)), .int .i64 (anK code (mK l))]) ∧ K w' := by
 have HC := Lib.hid (hA w h)
 have HCL := Lib.hid hcl
 have HCN := Lib.hid hc
 clear h hA hcl hc
 obtain ⟨N, hN⟩ : ∃ N, N = l.length := ⟨_, rfl⟩
 rw [← hN] at HC
 have HNN := Lib.hid (And.intro hN hn)
 clear hN hn
 by_cases hz : code = 0
 ·subst hz
  go_enter Tryz.func27, Tryz.ntmps27
  go_wp2_with fail
  refine HC.out.mono ?_
  rintro e w1 ⟨pa, cp, rfl, hF, hj⟩
  have HS := Lib.hid (s13 w1 hF HCN.out HNN.out.2)
  rw [← HNN.out.1] at HS
  have HJ := Lib.hid hj
  clear HC hF hj
  go_wp2_with (first | (go_at_call 13; refine HS.out.mono ?_; rintro e w2 ⟨rfl, k2⟩))
  go_ret2
  exact ⟨rfl, HCL.out _ _ HJ.out k2⟩
 ·have hz2 : (code : Int) ≠ 0 := by omega
  have HV := Lib.hid (show anV code (mV maxB l) = 0 ∧ anK code (mK l) = code from ⟨if_neg hz, if_neg hz⟩)
  go_enter Tryz.func27, Tryz.ntmps27
  go_wp2_with fail
  refine HC.out.mono ?_
  rintro e w1 ⟨pa, cp, rfl, -, hj⟩
  have HJ := Lib.hid hj
  clear HC hj
  go_wp2_with fail
  go_ret2
  exact ⟨by rw [HV.out.1, HV.out.2]; rfl, HJ.out⟩
set_option maxRecDepth 100000 in
set_option maxHeartbeats 2000000 in
theorem rq_quant (w : World) {J K : World → Prop} {P : Nat} {hd f n : Int} {l : List Nat} {code : Nat} {q z k : Nat} (hA : Ask 25 P hd f n J K l code) (hcl : ∀ w w', K w → Chg [] w w' → K w') (hQ : ∀ w pa cp, SlF w pa cp l → Calls Tryz.prog 70 #[.slice pa l.length cp, .float .f64 q] w fun e w' => e = .returned (.tuple #[.float .f64 z, .int .i64 k]) ∧ Chg [] w w') (h : J w) :
  Calls Tryz.prog 27 #[.pointer (some ⟨P, 0, none⟩), .int .i64 hd, .int .i64 f, .int .i64 n, .int .i64 5, .float .f64 q] w fun e w' => e = .returned (.tuple #[.float .f64 (anV code (z)), .int .i64 (anK code (k))]) ∧ K w' := by
 have HC := Lib.hid (hA w h)
 have HCL := Lib.hid hcl
 have HCN := Lib.hid hQ
 clear h hA hcl hQ
 obtain ⟨N, hN⟩ : ∃ N, N = l.length := ⟨_, rfl⟩
 rw [← hN] at HC
 have HNN := Lib.hid (hN)
 clear hN
 by_cases hz : code = 0
 ·subst hz
  go_enter Tryz.func27, Tryz.ntmps27
  go_wp2_with fail
  refine HC.out.mono ?_
  rintro e w1 ⟨pa, cp, rfl, hF, hj⟩
  have HS := Lib.hid (HCN.out w1 pa cp hF)
  rw [← HNN.out] at HS
  have HJ := Lib.hid hj
  clear HC hF hj
  go_wp2_with (first | (go_at_call 70; refine HS.out.mono ?_; rintro e w2 ⟨rfl, k2⟩))
  go_ret2
  exact ⟨rfl, HCL.out _ _ HJ.out k2⟩
 ·have hz2 : (code : Int) ≠ 0 := by omega
  have HV := Lib.hid (show anV code (z) = 0 ∧ anK code (k) = code from ⟨if_neg hz, if_neg hz⟩)
  go_enter Tryz.func27, Tryz.ntmps27
  go_wp2_with fail
  refine HC.out.mono ?_
  rintro e w1 ⟨pa, cp, rfl, -, hj⟩
  have HJ := Lib.hid hj
  clear HC hj
  go_wp2_with fail
  go_ret2
  exact ⟨by rw [HV.out.1, HV.out.2]; rfl, HJ.out⟩
end Go.Proofs.YtelakcjbknbehaaGreat
namespace Go.Proofs.YtelakcjbknbehaaGreat
open Go.RowKit Go.Lib

structure AsO (w : World) (lw n P G : Nat) (c : Nat → Nat) (F : Int) (ks kr : Nat) : Prop where
 all : ∃ d s g q0 base q lo Y D V U Tv xs L S sl, ∃ j : Nat, d.P = P ∧ Jop w lw d s g q0 j base q [] ks lo G Y D V U n kr Tv xs n n n L S [] ∧ lw ≤ lo ∧ s.bl = n ∧ CellQ q c ∧ CellQ (viewG [] L n) c ∧ L.length ≤ 16 * n ∧ SpX w base d.V sl ∧ SpI sl F 0 ∧ SpI S F 0
theorem AsO.of_fro {w : World} {lw n P G : Nat} {c : Nat → Nat} (h : FrO w lw n 0 0 0 0 P G c c) (F : Int) : AsO w lw n P G c F 0 0 := by
 obtain ⟨d, s, g, q0, base, q, Ls, lo, Y, D, V, U, Tv, xs, L, S, Pz, j, h1, h2, h3, h4, h5, h6, h7, h8, h9, hL, hA, hB, hC, hD, hE, hF, hG, hH⟩ := h.all
 obtain rfl : Ls = [] := List.eq_nil_of_length_eq_zero (by omega)
 obtain rfl : Pz = [] := List.eq_nil_of_length_eq_zero (by omega)
 obtain rfl : S = [] := List.eq_nil_of_length_eq_zero (by omega)
 obtain ⟨v, l, v1, v2, v3⟩ := h2.so.su.sp
 obtain rfl : l = [] := List.eq_nil_of_length_eq_zero (by omega)
 exact ⟨d, s, g, q0, base, q, lo, Y, D, V, U, Tv, xs, L, [], [], j, h1, h2, h3, h4, h6, h7, hL, ⟨v, v1, v3⟩, Or.inl ⟨rfl, rfl⟩, Or.inl ⟨rfl, rfl⟩⟩
theorem AsO.keep {w w' : World} {lw n P G ks kr : Nat} {c : Nat → Nat} {F : Int} (h : AsO w lw n P G c F ks kr) (k : Chg [] w w') : AsO w' lw n P G c F ks kr := by
 obtain ⟨d, s, g, q0, base, q, lo, Y, D, V, U, Tv, xs, L, S, sl, j, h1, h2, h3, h4, h5, h6, h7, h8, h9⟩ := h.all
 exact ⟨d, s, g, q0, base, q, lo, Y, D, V, U, Tv, xs, L, S, sl, j, h1, h2.keep k, h3, h4, h5, h6, h7, h8.keep0 k, h9⟩
theorem K33.of_chg {w w' : World} (k : Chg [] w w') : K33 w w' := ⟨[], k, fun x hx => by cases hx⟩
theorem readsC_17 {f n : Nat} (h : f + n ≤ 1290) : readsC f n ≤ 17 := by unfold readsC; omega
theorem cells_ne {c : Nat → Nat} {f n : Nat} (h : 0 < n) : cellsC c f n ≠ [] := fun e => by
 have := congrArg List.length e
 rw [cellsC_len] at this
 simp at this
 omega
theorem as_s (w : World) {lw n P G ks kr f m : Nat} {c : Nat → Nat} (h : AsO w lw n P G c ((f / 5 : Nat) : Int) ks kr) (hk : ks ≤ 900) (hm : 0 < m) (hm2 : m ≤ 2000) (hfm : f + m ≤ 1290) :
  Calls Tryz.prog 15 #[.pointer (some ⟨P, 0, none⟩), .int .i64 ((n + 1 : Nat) : Int), .int .i64 f, .int .i64 m] w fun e w' =>
  ∃ pa cp k', e = .returned (.tuple #[.slice pa m cp, .int .i64 0]) ∧ SlF w' pa cp (cellsC c f m) ∧ AsO w' lw n P G c ((f / 5 : Nat) : Int) k' kr ∧ k' ≤ ks + 17 ∧ K33 w w' ∧ Kp lw w w' := by
 obtain ⟨d, s, g, q0, base, q, lo, Y, D, V, U, Tv, xs, L, S, sl, j, h1, h2, h3, h4, h5, h6, h7, h8, h9, hA⟩ := h.all
 have h17 := readsC_17 hfm
 have hr := qcells_s w h2.so.fr h2.so.su h5 h8 h9 (by omega) hm hm2 hfm
 have e1 : (begP s).h = ((n + 1 : Nat) : Int) := by show s.bl + 1 = _; rw [h4]; rfl
 rw [h1, e1] at hr
 refine Calls.mono hr ?_
 rintro e w' ⟨gx, o, cp, k', rfl, a1, a2, a3, a4, a5, a6, a7, a8, sl', a9, aA⟩
 obtain ⟨sv, b1, b2⟩ := fs_read a8 h2.so.su.vw h2.so.su.sp
 obtain ⟨rv, c1, c2⟩ := h2.ro.rv
 obtain ⟨r1, r2⟩ := h2.ro.keepS b2 (fun rv' hr' g' hg' => fun hs => h2.dj sv rv' g' b1 hr' hs hg')
 have hdj : DjR w' d.Q V := fun sv' rv' g' hs hr hg' hrg => by
  obtain ⟨T, -, -, s1, s2, e1, e2, -, e4⟩ := a8
  rw [r2] at hr
  rw [e2] at hs
  cases hs
  rcases e4 g' hg' with e | e
  ·exact h2.dj s1 rv' g' e1 hr e hrg
  ·rw [c1] at hr
   cases hr
   exact absurd (c2 g' hrg) (by omega)
 obtain ⟨cs7, a7⟩ := a7
 exact ⟨_, cp, k', rfl, Or.inr ⟨cells_ne hm, by rw [cellsC_len]; exact a1, gx, o, rfl, a4, Or.inr ⟨gx, o, cs7, rfl, a7⟩⟩, ⟨d, s, g, q0, base, q, lo, Y, D, V, U, Tv, xs, L, S, sl', j, h1, ⟨h2.so.step a3 a5, r1, hdj⟩, h3, h4, h5, h6, h7, a9, aA, hA⟩, by omega, a3.k33, Kp.of_ow a3 h2.so.low.1⟩
def ansE (f n : Int) : Nat := if n < 0 then 1 else if n > 2000 then 7 else if f < 0 ∨ f > 1290 - n then 2 else 0
def ansL (c : Nat → Nat) (f n : Int) : List Nat := if ansE f n = 0 then cellsC c f.toNat n.toNat else []
def ansF (f : Int) : Int := ((f.toNat / 5 : Nat) : Int)
theorem ansL_len (c : Nat → Nat) (f n : Int) : (ansL c f n).length ≤ 2000 := by
 unfold ansL
 split
 ·rename_i h
  rw [cellsC_len]
  unfold ansE at h
  split at h
  ·cases h
  ·split at h
   ·cases h
   ·omega
 ·simp
set_option maxRecDepth 100000 in
set_option maxHeartbeats 2000000 in
theorem qcells_no {base : Nat} {d : Ids} {p : Par} {F : World → Prop} (w : World) {q : Int → List UInt8} {L : List (Int × Value)} {k : Nat} (hf : Fr base d p F) (h : Su w base d p F q L k) (f n : Int) (hz : ansE f n ≠ 0 ∨ n = 0) :
  Calls Tryz.prog 15 #[.pointer (some ⟨d.P, 0, none⟩), .int .i64 p.h, .int .i64 f, .int .i64 n] w fun e w' => e = .returned (.tuple #[.slice none 0 0, .int .i64 (ansE f n)]) ∧ Chg [] w w' := by
 have HC := Lib.hid (ccount_need w (hf.need _ h.env))
 clear h
 unfold ansE at hz ⊢
 by_cases c1 : n < 0
 ·rw [if_pos c1]
  clear hz
  go_enter Tryz.func15, Tryz.ntmps15
  go_wp2_with fail
  go_step3
  go_wp2_with fail
  refine HC.out.mono ?_
  rintro e w1 ⟨rfl, k1⟩
  go_wp2_with fail
  simp only [Exit.noGoto]
  go_ret2
  exact ⟨rfl, k1⟩
 rw [if_neg c1] at hz ⊢
 by_cases c2 : n > 2000
 ·rw [if_pos c2]
  clear hz
  go_enter Tryz.func15, Tryz.ntmps15
  go_wp2_with fail
  go_step3
  go_wp2_with fail
  refine HC.out.mono ?_
  rintro e w1 ⟨rfl, k1⟩
  go_wp2_with fail
  simp only [Exit.noGoto]
  go_ret2
  exact ⟨rfl, k1⟩
 rw [if_neg c2] at hz ⊢
 have hw : IntKind.i64.wrap (1290 - n) = 1290 - n := by rw [IntKind.wrap_i64]; omega
 by_cases c3 : f < 0
 ·rw [if_pos (Or.inl c3)]
  clear hz
  go_enter Tryz.func15, Tryz.ntmps15
  go_wp2_with fail
  go_step3
  go_wp2_with fail
  refine HC.out.mono ?_
  rintro e w1 ⟨rfl, k1⟩
  go_wp2_with fail
  simp only [Exit.noGoto]
  go_ret2
  exact ⟨rfl, k1⟩
 by_cases c4 : f > 1290 - n
 ·rw [if_pos (Or.inr c4)]
  clear hz
  go_enter Tryz.func15, Tryz.ntmps15
  go_wp2_with fail
  go_step3
  go_wp2_with fail
  refine HC.out.mono ?_
  rintro e w1 ⟨rfl, k1⟩
  go_wp2_with fail
  simp only [Exit.noGoto]
  go_ret2
  exact ⟨rfl, k1⟩
 rw [if_neg (by omega)] at hz ⊢
 obtain rfl : n = 0 := by omega
 clear hz
 go_enter Tryz.func15, Tryz.ntmps15
 go_wp2_with fail
 go_step3
 go_wp2_with fail
 refine HC.out.mono ?_
 rintro e w1 ⟨rfl, k1⟩
 go_wp2_with fail
 simp only [Exit.noGoto]
 go_ret2
 exact ⟨rfl, k1⟩
def Jx (wst : World) (n P G : Nat) (c : Nat → Nat) (F : Int) (i : Nat) (R : World → Prop) (w : World) : Prop :=
 (∃ ks kr, AsO w wst.heap.size n P G c F ks kr ∧ ks ≤ 17 * i ∧ kr ≤ 258 * i) ∧ Chg [] wst w ∧ R w
def KR (R : World → Prop) : Prop := ∀ w w', R w → K33 w w' → R w'
section
variable {wst : World} {n P G i : Nat} {c : Nat → Nat} {F : Int} {R : World → Prop}
theorem Jx.keep {w w' : World} (h : Jx wst n P G c F i R w) (hR : KR R) (k : Chg [] w w') : Jx wst n P G c F i R w' := by
 obtain ⟨⟨ks, kr, h1, h2⟩, h3, h4⟩ := h
 exact ⟨⟨ks, kr, h1.keep k, h2⟩, h3.then k, hR _ _ h4 (K33.of_chg k)⟩
theorem Jx.weak {w : World} (h : Jx wst n P G c F i R w) : Jx wst n P G c F (i + 1) R w := by
 obtain ⟨⟨ks, kr, h1, h2, h3⟩, h4⟩ := h
 exact ⟨⟨ks, kr, h1, by omega, by omega⟩, h4⟩
theorem Jx.turn {R' : World → Prop} {w : World} (h : Jx wst n P G c F i R w) (hr : R' w) : Jx wst n P G c F i R' w := ⟨h.1, h.2.1, hr⟩
theorem ansE_0 {f m : Int} (h : ansE f m = 0) : 0 ≤ m ∧ m ≤ 2000 ∧ 0 ≤ f ∧ f + m ≤ 1290 := by
 unfold ansE at h
 split at h
 ·cases h
 ·split at h
  ·cases h
  ·split at h
   ·cases h
   ·omega
theorem ansL_nil {f m : Int} (h : ansE f m ≠ 0 ∨ m = 0) : ansL c f m = [] := by
 unfold ansL
 split
 ·rcases h with h | h
  ·contradiction
  ·subst h; rfl
 ·rfl
theorem ask_s (hR : KR R) (hi : i ≤ 20) (f m : Int) : Ask 15 P ((n + 1 : Nat) : Int) f m (Jx wst n P G c (ansF f) i R) (Jx wst n P G c (ansF f) (i + 1) R) (ansL c f m) (ansE f m) := by
 intro w hJ
 by_cases hz : ansE f m ≠ 0 ∨ m = 0
 ·obtain ⟨⟨ks, kr, h, -⟩, -⟩ := id hJ
  obtain ⟨d, s, g, q0, base, q, lo, Y, D, V, U, Tv, xs, L, S, sl, j, h1, h2, h3, h4, -⟩ := h.all
  have hr := qcells_no w h2.so.fr h2.so.su f m hz
  have e1 : (begP s).h = ((n + 1 : Nat) : Int) := by show s.bl + 1 = _; rw [h4]; rfl
  rw [h1, e1] at hr
  rw [ansL_nil hz]
  refine Calls.mono hr ?_
  rintro e w' ⟨rfl, k⟩
  exact ⟨none, 0, rfl, Or.inl ⟨rfl, rfl, rfl⟩, (hJ.keep hR k).weak⟩
 ·have h0 : ansE f m = 0 := Decidable.not_not.1 (fun h => hz (Or.inl h))
  have hm : m ≠ 0 := fun h => hz (Or.inr h)
  obtain ⟨b0, b1, b2, b3⟩ := ansE_0 h0
  obtain ⟨a, rfl⟩ : ∃ a : Nat, f = a := ⟨f.toNat, by omega⟩
  obtain ⟨b, rfl⟩ : ∃ b : Nat, m = b := ⟨m.toNat, by omega⟩
  obtain ⟨⟨ks, kr, h, hks, hkr⟩, k0, hr⟩ := hJ
  have eL : ansL c (a : Int) (b : Int) = cellsC c a b := by unfold ansL; rw [if_pos h0]; rfl
  rw [eL, h0]
  refine (as_s w h (by omega) (by omega) (by omega) (by omega)).mono ?_
  rintro e w' ⟨pa, cp, k', rfl, a1, a2, a3, a4, a5⟩
  exact ⟨pa, cp, by rw [cellsC_len]; rfl, a1, ⟨k', kr, a2, by omega, by omega⟩, chg_kp k0 a5, hR _ _ hr a4⟩
end
theorem chg_app {base e size n : Nat} {v v' : Value} {cells : List Value} {w w' : World} (h : AppendedV base e size w v n cells v' w') : Chg v.ownBlock.toList w w' := by
 have h3 := h.2.2
 cases hv : v.ownBlock with
 | none => rw [hv] at h3; exact Chg.of_grown0 h3
 | some k => rw [hv] at h3; exact Chg.of_grown h3
theorem own_bt {w : World} {b0 n : Nat} {v : Value} {xs : List Value} (h : w.ownsRow b0 5 1 v n xs) (hn : 0 < n) : ∃ g cap, v = .slice (some ⟨g, 0, none⟩) n cap ∧ n ≤ cap ∧ Bt w g := by
 rcases h.2 with ⟨_, h0⟩ | ⟨g, cap, cur, e, hA, hg, hc, _⟩
 ·omega
 ·exact ⟨g, cap, e, hc, _, hg⟩
section
variable {lo G Y D V U n k : Nat} {Tv : Value} {xs : List Value} {num giv dn : Int} {L : List (Int × Int × List UInt8)} {S : List (Int × Int)} {P : List (Int × List UInt8)}
theorem RfO.g13 {w : World} (h : RfO w lo G Y D V U n k Tv xs num giv dn L S P) : w.cell? ⟨G, 13, none⟩ = some (.int .i64 258) := by
 obtain ⟨a, b, qv, qhv, m1, -⟩ := h.m
 exact cell_is m1 13 rfl
set_option maxRecDepth 100000 in
set_option maxHeartbeats 2000000 in
theorem rcells_no (w : World) (h : RfO w lo G Y D V U n k Tv xs num giv dn L S P) (hh f m : Int) (hz : ansE f m ≠ 0 ∨ m = 0) :
  Calls Tryz.prog 25 #[.pointer (some ⟨G, 0, none⟩), .int .i64 hh, .int .i64 f, .int .i64 m] w fun e w' => e = .returned (.tuple #[.slice none 0 0, .int .i64 (ansE f m)]) ∧ Chg [] w w' := by
 have g13 := h.g13
 clear h
 unfold ansE at hz ⊢
 by_cases c1 : m < 0
 ·rw [if_pos c1]
  clear hz
  go_enter Tryz.func25, Tryz.ntmps25
  go_wp2_with fail
  go_ret2
  exact ⟨rfl, Chg.refl _ _⟩
 rw [if_neg c1] at hz ⊢
 by_cases c2 : m > 2000
 ·rw [if_pos c2]
  clear hz
  go_enter Tryz.func25, Tryz.ntmps25
  go_wp2_with fail
  go_ret2
  exact ⟨rfl, Chg.refl _ _⟩
 rw [if_neg c2] at hz ⊢
 have hw : IntKind.i64.wrap (1290 - m) = 1290 - m := by rw [IntKind.wrap_i64]; omega
 by_cases c3 : f < 0
 ·rw [if_pos (Or.inl c3)]
  clear hz
  go_enter Tryz.func25, Tryz.ntmps25
  go_wp2_with fail
  go_ret2
  exact ⟨rfl, Chg.refl _ _⟩
 by_cases c4 : f > 1290 - m
 ·rw [if_pos (Or.inr c4)]
  clear hz
  go_enter Tryz.func25, Tryz.ntmps25
  go_wp2_with fail
  go_ret2
  exact ⟨rfl, Chg.refl _ _⟩
 rw [if_neg (by omega)] at hz ⊢
 obtain rfl : m = 0 := by omega
 clear hz
 go_enter Tryz.func25, Tryz.ntmps25
 go_wp2_with fail
 go_ret2
 exact ⟨rfl, Chg.refl _ _⟩
def RcR (lo G Y D V U n k : Nat) (Tv : Value) (xs : List Value) (num giv dn : Int) (L : List (Int × Int × List UInt8)) (P : List (Int × List UInt8)) (c : Nat → Nat) (f m Fb : Nat) (w : World) (e : Ending) (w' : World) : Prop :=
  ∃ g o cp k' S', e = .returned (.tuple #[.slice (some ⟨g, o, none⟩) m cp, .int .i64 0]) ∧ m ≤ cp ∧ w.heap.size ≤ g ∧ Fl w' (some ⟨g, o, none⟩) (cellsC c f m) ∧ (∃ cs, w'.heap[g]? = some (.cells cs 33 (0, 0))) ∧
   RfO w' lo G Y D V U n k' Tv xs num giv dn L S' P ∧ SpI S' (Fb : Int) 0 ∧ k' ≤ k + 258 ∧ FxR lo ((w.cell? ⟨V, 5, none⟩).bind Value.ownBlock) w w' ∧ RrX w w' V
set_option maxRecDepth 100000 in
set_option maxHeartbeats 8000000 in
theorem rcells_any (w : World) {c : Nat → Nat} {f m : Nat} (h : RfO w lo G Y D V U n k Tv xs num giv dn L S P) (hn : n ≤ 100000) (hP : P.length ≤ 1000) (hL : L.length ≤ 100000) (hS : SpI S ((f / 5 : Nat) : Int) 0) (hk : k ≤ 9000) (hq : CellQ (viewG P L dn) c) (hm : 0 < m) (hm2 : m ≤ 2000) (hfm : f + m ≤ 1290) :
  Calls Tryz.prog 25 #[.pointer (some ⟨G, 0, none⟩), .int .i64 ((n + 1 : Nat) : Int), .int .i64 f, .int .i64 m] w (RcR lo G Y D V U n k Tv xs num giv dn L P c f m (f / 5) w) := by
 have g13 := h.g13
 have c1 : ¬ ((m : Int) < 0) := by omega
 have c2 : ¬ ((m : Int) > 2000) := by omega
 have c3 : ¬ ((f : Int) < 0) := by omega
 have hw : IntKind.i64.wrap (1290 - (m : Int)) = 1290 - m := by rw [IntKind.wrap_i64]; omega
 have c4 : ¬ ((f : Int) > 1290 - m) := by omega
 have c5 : (m : Int) ≠ 0 := by omega
 obtain ⟨Fb, hF⟩ : ∃ Fb, f / 5 = Fb := ⟨_, rfl⟩
 obtain ⟨Eb, hE⟩ : ∃ Eb, (f + m - 1) / 5 + 1 = Eb := ⟨_, rfl⟩
 rw [hF] at hS ⊢
 have hV0 := h.v.lt
 have HS0 := Lib.hid hS
 have HH := Lib.hid h
 have HB := Lib.hid (And.intro hn (And.intro hP (And.intro hL hk)))
 have hu5 : ∀ b : Nat, b < 258 → unpackB (viewG P L dn (b : Int)) = some (rowC c b) := fun b hb => hq.unpack hb
 have hl40 : ∀ b : Nat, b < 258 → (viewG P L dn (b : Int)).length = 40 := fun b hb => hq.len hb
 have HU5 := Lib.hid hu5
 have HL40 := Lib.hid hl40
 have hrv0 := h.v
 obtain ⟨q, hqd⟩ : ∃ q, q = viewG P L dn := ⟨_, rfl⟩
 rw [← hqd] at HU5 HL40
 have HQD := Lib.hid hqd
 have hflo := h.low.2.2.2.2.2
 clear hu5 hl40 hq h hS hqd hn hP hL hk
 go_enter Tryz.func25, Tryz.ntmps25
 go_wp2_with fail
 have eF : (f : Int) / 5 = (Fb : Int) := by omega
 have eL : ((f : Int) + m - 1) / 5 = (Eb : Int) - 1 := by omega
 simp only [eF, eL, Int.sub_add_cancel]
 have hFE : Fb < Eb ∧ Eb ≤ 258 ∧ 5 * Fb ≤ f ∧ f + m ≤ 5 * Eb := by omega
 have HX := Lib.hid hFE
 clear eF eL hF hE hFE c1 c2 c3 c4 c5 hw g13
 go_wp2_with fail
 go_loopw [10, 13, 14, 15] (fun v i _ _ wr => ∃ at_ t j : Nat, i = .int .i64 (at_ : Int) ∧ Hid (at_ = Fb + 16 * t ∧ at_ ≤ Eb + 15 ∧ j = min (16 * t) (Eb - Fb)) ∧ (∃ S1, RvAt wr lo V Y U dn S1 (k + j) ∧ SpI S1 (Fb : Int) j) ∧ RrX w wr V ∧ wr.ownsRow w.heap.size 5 1 v (40 * j) (Lib.byteCells (catQ q (Fb : Int) j))) (fun _ i _ _ _ => Eb + 15 - (intOf i).toNat)
 case atStart => exact ⟨Fb, 0, 0, rfl, Lib.hid (by have := HX.out; omega), ⟨S, hrv0, HS0.out⟩, RrX.refl hrv0, World.ownsRow_nil _ _ _ _⟩
 case round =>
  obtain ⟨at_, t, j, rfl, hat, ⟨S1, hv1, hs1⟩, hr1, ho1⟩ := hrel
  by_cases hlt : at_ < Eb
  ·have hlt' : (at_ : Int) < Eb := by omega
   have hEb := HX.out.2.1
   have hat3 : at_ ≤ 300 := by omega
   obtain ⟨s, hs, hs1', hs2, hs3, hs4⟩ : ∃ s : Nat, min 16 ((Eb : Int) - at_) = (s : Int) ∧ 1 ≤ s ∧ s ≤ 16 ∧ at_ + s ≤ Eb ∧ (j + s = min (16 * (t + 1)) (Eb - Fb) ∧ at_ = Fb + j) := by
    have := hat.out
    have := HX.out
    exact ⟨min 16 (Eb - at_), by omega, by omega, by omega, by omega, by omega⟩
   have hro := (HH.out.keepR hv1 hr1).1
   have hsz := hr1.size
   have HRD := Lib.hid (rmread wr (a := at_) (m := s) hro HB.out.1 HB.out.2.1 HB.out.2.2.1 hs1.len hs1.inE (by have := HB.out.2.2.2; have := HX.out; omega) hs1' hs2 (by have := HX.out; omega) hro.low.2.2.2.2.2)
   rw [show ((n + 1 : Nat) : Int) = (n : Int) + 1 from rfl] at HRD
   have HFX := Lib.hid hr1
   have HV1 := Lib.hid hv1
   have HS1 := Lib.hid (show SpI (rput S1 ((at_ : Int), (s : Int))) (Fb : Int) ((j + s : Nat) : Int) by
    have := hs1.put (m := (s : Int)) (by omega) (by omega) (by omega) (by have := HX.out; omega)
    rw [show ((Fb : Int) + (j : Int)) = (at_ : Int) by omega] at this
    rw [Int.natCast_add]; exact this)
   have HAT := Lib.hid (And.intro hs4 (And.intro hs3 hat.out))
   clear hro hr1 hv1 hs1 hat hs4 hs3
   go_wp2_with fail
   try simp only [hs]
   refine HRD.out.mono ?_
   rintro e w2 ⟨v2, rfl, o2, r2, f2, x2⟩
   clear hs
   rw [← HQD.out, catQ_flat q at_ s] at o2
   obtain ⟨pa2, cp2, rfl, hcp2⟩ := own_form o2
   have ho2 := own_frx ho1 f2 (by decide)
   have hB2 := Bs.own o2
   have hx2 := HFX.out.trans x2
   have hv2 := r2.v
   have hlen2 : (catQ q (at_ : Int) s).length = 40 * s := catQ_len (fun i hi => by
    have := HL40.out (at_ + i) (by have := HX.out; have := HAT.out; omega)
    rw [← this]; congr 2)
   have hsz2 := hx2.size
   have HHV := Lib.hid hv2
   have HHX := Lib.hid hx2
   have HLEN := Lib.hid hlen2
   have HB2 := Lib.hid hB2
   have hj40 : 40 * j + 40 * s ≤ 1000000 := by have := HX.out; have := HAT.out; omega
   clear ho1 HRD o2 r2 f2 x2 hlen2 hv2 hx2 hB2
   go_wp2_with (at_builtin; refine wpList_append_bs rfl (.tmp 68) (.tmp 69) 47 5 rfl ty23 inf5c w.heap.size _ (40 * j) (catQ q (Fb : Int) j) rfl ho2 pa2 (40 * s) cp2 (catQ q (at_ : Int) s) rfl HLEN.out HB2.out (by omega) hsz2 ?_; intro v3 w3 h3)
   have k3 := chg_app h3
   have HV3 := Lib.hid (show RvAt w3 lo V Y U dn (rput S1 ((at_ : Int), (s : Int))) (k + (j + s)) by
    have := HHV.out.keepA k3 (own_av ho2 (by decide))
    rw [← Nat.add_assoc]; exact this)
   have HX3 := Lib.hid (HHX.out.then_new k3 (own_lowF ho2) hV0)
   have HO3 := Lib.hid (show w3.ownsRow w.heap.size 5 1 v3 (40 * (j + s)) (Lib.byteCells (catQ q (Fb : Int) (j + s))) by
    have e : catQ q (Fb : Int) (j + s) = catQ q (Fb : Int) j ++ catQ q (at_ : Int) s := by
     rw [catQ_split]; congr 2; have := HAT.out; omega
    rw [e, Nat.mul_add]; exact h3.1)
   clear h3 k3 ho2 HHV HHX HLEN HB2
   go_wp2_with fail
   go_roundw
   case rel => exact ⟨at_ + 16, t + 1, j + s, by go_num, Lib.hid (by have := HAT.out; omega), ⟨_, HV3.out, HS1.out⟩, HX3.out, HO3.out⟩
   case measure => simp [intOf]; omega
  ·obtain ⟨J, hJ⟩ : ∃ J, J = Eb - Fb := ⟨_, rfl⟩
   obtain rfl : j = J := by have := hat.out; have := HX.out; omega
   have hnl : ¬ ((at_ : Int) < Eb) := by omega
   have hJE : Fb + j = Eb ∧ 0 < j := by have := HX.out; omega
   obtain ⟨g, cap, rfl, hcap, hTg⟩ := own_bt ho1 (by omega)
   have hBg := Bs.own ho1
   have HJE := Lib.hid hJE
   have HV1 := Lib.hid hv1
   have HSI := Lib.hid hs1
   have HR1 := Lib.hid hr1
   have HCAP := Lib.hid hcap
   have hsz := hr1.size
   have hlen40 : ∀ i : Nat, i < j → (q ((Fb : Int) + (i : Int))).length = 40 := fun i hi => by
    have := HL40.out (Fb + i) (by have := HX.out; omega)
    rw [← this]; congr 2
   have HL4 := Lib.hid hlen40
   clear hJ hat hv1 hs1 hr1 ho1 hJE hcap hlen40
   go_wp2_with fail
   go_loopw [16, 17, 18, 19] (fun vl i _ _ wx => ∃ ii : Nat, i = .int .i64 (ii : Int) ∧ ii ≤ j ∧ RvAt wx lo V Y U dn S1 (k + j) ∧ RrX w wx V ∧ wx.ownsRow w.heap.size 33 1 vl (5 * ii) (flCells (cellsC c (5 * Fb) (5 * ii))) ∧ Bs wx (some ⟨g, 0, none⟩) (catQ q (Fb : Int) j) ∧ Bt wx g) (fun _ i _ _ _ => j - (intOf i).toNat)
   case atStart => exact ⟨0, rfl, Nat.zero_le _, HV1.out, HR1.out, World.ownsRow_nil _ _ _ _, hBg, hTg⟩
   case round =>
    obtain ⟨ii, rfl, hii, hvx, hrx, hox, hBx, hTx⟩ := hrel
    have hEj : (Eb : Int) - Fb = (j : Int) := by have := HJE.out; have := HX.out; omega
    have hj258 : j ≤ 258 := by have := HJE.out; have := HX.out; omega
    by_cases hl : ii < j
    ·have hl' : (ii : Int) < j := by omega
     have e1 : IntKind.i64.wrap ((ii : Int) * 40) = ((40 * ii : Nat) : Int) := by rw [IntKind.wrap_i64]; omega
     have e2 : IntKind.i64.wrap ((ii : Int) + 1) = ((ii + 1 : Nat) : Int) := by rw [IntKind.wrap_i64]; omega
     have e3 : IntKind.i64.wrap (((ii + 1 : Nat) : Int) * 40) = ((40 * (ii + 1) : Nat) : Int) := by rw [IntKind.wrap_i64]; omega
     have e4 : 40 * (ii + 1) ≤ cap := by have := HCAP.out; omega
     have hb258 : Fb + ii < 258 := by have := HX.out; have := HJE.out; omega
     have hBi : Bs wr (some ⟨g, 40 * ii, none⟩) (q ((Fb + ii : Nat) : Int)) := by
      rw [Int.natCast_add]
      exact Bs.catQ hBx HL4.out hl
     have HU := Lib.hid (runpack_forty wr (c := cap - 40 * ii) (HL40.out _ hb258) (by omega) hBi)
     have HV2 := Lib.hid hvx
     have HR2 := Lib.hid hrx
     have HO2 := Lib.hid hox
     clear hBi hvx hrx hox
     go_wp2_with fail
     rw [show (ii + 1) * 40 - 40 * ii = 40 by omega]
     refine HU.out.mono ?_
     rintro e w4 hu
     have hu5 := HU5.out _ hb258
     rcases hu with ⟨v5, xs5, hu6, rfl, k4, o5⟩ | ⟨hu6, _⟩
     rotate_left
     ·rw [hu5] at hu6; cases hu6
     obtain rfl : rowC c (Fb + ii) = xs5 := by rw [hu5] at hu6; exact Option.some.inj hu6
     clear hu5 hu6 HU
     obtain ⟨g5, c5, rfl, hF5, -, -⟩ := fl_own o5 (by decide)
     have hv4 := HV2.out.keepA k4 (Av.nil _ _)
     have hr4 := HR2.out.then_new k4 (fun x hx => by cases hx) hV0
     have hB4 := hBx.chg k4
     have hT4 : Bt w4 g := ⟨_, k4.heap hTx.choose_spec (by simp)⟩
     have ho4 := ownsRow_chg HO2.out k4
     have hb4 := hr4.size
     have HFl := Lib.hid hF5
     have HRL := Lib.hid (rowC_len c (Fb + ii))
     clear hBx hTx hF5 o5 HV2 HR2 HO2
     go_wp2_with (at_builtin; refine wpList_append_fl rfl (.tmp 92) (.tmp 93) rfl w.heap.size _ (5 * ii) (cellsC c (5 * Fb) (5 * ii)) (rowC c (Fb + ii)) rfl ho4 g5 0 5 c5 rfl HRL.out (by decide) HFl.out (by omega) hb4 ?_; intro g9 cap9 w9 h9 k9)
     have hgn := own_block_ne ho4 hT4.choose_spec (by decide)
     have HB9 := Lib.hid (hB4.chgT k9 hgn)
     have HT9 := Lib.hid (show Bt w9 g from ⟨_, k9.heap hT4.choose_spec hgn⟩)
     have HV9 := Lib.hid (hv4.keepA k9 (own_av ho4 (by decide)))
     have HR9 := Lib.hid (hr4.then_new k9 (own_lowF ho4) hV0)
     have h9' : w9.ownsRow w.heap.size 33 1 (.slice (some ⟨g9, 0, none⟩) (5 * ii + 5) cap9) (5 * (ii + 1)) (flCells (cellsC c (5 * Fb) (5 * (ii + 1)))) := by
      rw [cellsC_row]
      exact h9
     clear hB4 hT4 hv4 hr4 ho4 h9 k9 k4 HFl HRL
     go_roundw
     case rel => exact ⟨ii + 1, by go_num, by omega, HV9.out, HR9.out, h9', HB9.out, HT9.out⟩
     case measure => simp [intOf]; omega
    ·obtain rfl : ii = j := by omega
     have hnl2 : ¬ ((ii : Int) < ii) := by omega
     obtain ⟨gv, cv, rfl, hFv, hgv, hle⟩ := fl_own hox (by have := HJE.out; omega)
     have hbnd : 5 * Fb ≤ f ∧ f - 5 * Fb + m ≤ 5 * ii ∧ Fb ≤ 258 := by have := HX.out; have := HJE.out; omega
     have e1 : IntKind.i64.wrap ((Fb : Int) * 5) = ((5 * Fb : Nat) : Int) := by rw [IntKind.wrap_i64]; omega
     have e2 : IntKind.i64.wrap ((f : Int) - ((5 * Fb : Nat) : Int)) = ((f - 5 * Fb : Nat) : Int) := by rw [IntKind.wrap_i64]; omega
     have e3 : IntKind.i64.wrap (((f - 5 * Fb : Nat) : Int) + m) = ((f - 5 * Fb + m : Nat) : Int) := by rw [IntKind.wrap_i64]; omega
     have e4 : f - 5 * Fb + m ≤ 5 * ii := hbnd.2.1
     have e6 : f - 5 * Fb + m ≤ cv := by omega
     have HT33 := Lib.hid (own_elem hox (g := gv) rfl).2
     have HE := Lib.hid (fl_cut (f := f) (n := m) hFv hbnd.1 e4)
     have HKR := Lib.hid (HH.out.keepR hvx hrx)
     have HRX := Lib.hid hrx
     have HM := Lib.hid (show k + ii ≤ k + 258 by omega)
     have HC := Lib.hid (show m ≤ cv - (f - 5 * Fb) by omega)
     have HS9 := Lib.hid (HSI.out.weak (b := 0) (by omega) (by omega))
     clear hvx hrx hox hBx hTx hFv
     go_wp2_with fail
     go_ret2
     exact ⟨gv, f - 5 * Fb, cv - (f - 5 * Fb), k + ii, S1, rfl, HC.out, hgv, HE.out, HT33.out, HKR.out.1, HS9.out, HM.out, HKR.out.2, HRX.out⟩
end
theorem FxR.k33 {lo : Nat} {ro : Option Nat} {w w' : World} (h : FxR lo ro w w') : K33 w w' := by
 obtain ⟨U, h1, h2⟩ := h
 exact ⟨U, h1, fun x hx cs fr hh => FxR.avx h2 [33] (by decide) x hx _ _ _ hh (by simp)⟩
theorem as_r (w : World) {lw n P G ks kr f m : Nat} {c : Nat → Nat} (h : AsO w lw n P G c ((f / 5 : Nat) : Int) ks kr) (hn : n ≤ 100) (hk : kr ≤ 9000) (hm : 0 < m) (hm2 : m ≤ 2000) (hfm : f + m ≤ 1290) :
  Calls Tryz.prog 25 #[.pointer (some ⟨G, 0, none⟩), .int .i64 ((n + 1 : Nat) : Int), .int .i64 f, .int .i64 m] w fun e w' =>
  ∃ pa cp k', e = .returned (.tuple #[.slice pa m cp, .int .i64 0]) ∧ SlF w' pa cp (cellsC c f m) ∧ AsO w' lw n P G c ((f / 5 : Nat) : Int) ks k' ∧ k' ≤ kr + 258 ∧ K33 w w' ∧ Kp lw w w' := by
 obtain ⟨d, s, g, q0, base, q, lo, Y, D, V, U, Tv, xs, L, S, sl, j, h1, h2, h3, h4, h5, h6, h7, h8, h9, hA⟩ := h.all
 refine (rcells_any w h2.ro (by omega) (by simp) (by omega) hA hk h6 hm hm2 hfm).mono ?_
 rintro e w' ⟨gx, o, cp, k', S', rfl, a1, a2, a3, ⟨cs7, a4⟩, a5, a6, a7, a8, a9⟩
 obtain ⟨rv, b1, b2⟩ := h2.ro.rv
 obtain ⟨sv, c1, c2⟩ := h2.so.sv
 obtain ⟨s1, s2⟩ := h2.so.keepX a8 (fun sv' g' hs' hg' hr' => by
  rw [b1] at hr'
  exact h2.dj sv' rv g' hs' b1 hg' hr')
 have hdj : DjR w' d.Q V := fun sv' rv' g' hs hr hg' hrg => by
  obtain ⟨r1, r2, T, e1, e2, -, -, e4⟩ := a9
  rw [s2, c1] at hs
  cases hs
  rw [e2] at hr
  cases hr
  exact h2.dj sv r1 g' c1 e1 hg' (e4 g' hrg (c2 g' hg'))
 have h8' : SpX w' base d.V sl := by
  obtain ⟨U, u1, u2⟩ := a8
  exact h8.keep u1 (FxR.avx u2 _ (by decide))
 exact ⟨_, cp, k', rfl, Or.inr ⟨cells_ne hm, by rw [cellsC_len]; exact a1, gx, o, rfl, a3, Or.inr ⟨gx, o, cs7, rfl, a4⟩⟩, ⟨d, s, g, q0, base, q, lo, Y, D, V, U, Tv, xs, L, S', sl, j, h1, ⟨s1, a5, hdj⟩, h3, h4, h5, h6, h7, h8', h9, a6⟩, a7, a8.k33, kp_low a8.kp h3⟩
section
variable {wst : World} {n P G i : Nat} {c : Nat → Nat} {R : World → Prop}
theorem ask_r (hR : KR R) (hi : i ≤ 20) (hn : n ≤ 100) (f m : Int) : Ask 25 G ((n + 1 : Nat) : Int) f m (Jx wst n P G c (ansF f) i R) (Jx wst n P G c (ansF f) (i + 1) R) (ansL c f m) (ansE f m) := by
 intro w hJ
 by_cases hz : ansE f m ≠ 0 ∨ m = 0
 ·obtain ⟨⟨ks, kr, h, -⟩, -⟩ := id hJ
  obtain ⟨d, s, g, q0, base, q, lo, Y, D, V, U, Tv, xs, L, S, sl, j, h1, h2, h3, h4, -⟩ := h.all
  rw [ansL_nil hz]
  refine Calls.mono (rcells_no w h2.ro _ f m hz) ?_
  rintro e w' ⟨rfl, k⟩
  exact ⟨none, 0, rfl, Or.inl ⟨rfl, rfl, rfl⟩, (hJ.keep hR k).weak⟩
 ·have h0 : ansE f m = 0 := Decidable.not_not.1 (fun h => hz (Or.inl h))
  have hm : m ≠ 0 := fun h => hz (Or.inr h)
  obtain ⟨b0, b1, b2, b3⟩ := ansE_0 h0
  obtain ⟨a, rfl⟩ : ∃ a : Nat, f = a := ⟨f.toNat, by omega⟩
  obtain ⟨b, rfl⟩ : ∃ b : Nat, m = b := ⟨m.toNat, by omega⟩
  obtain ⟨⟨ks, kr, h, hks, hkr⟩, k0, hr⟩ := hJ
  have eL : ansL c (a : Int) (b : Int) = cellsC c a b := by unfold ansL; rw [if_pos h0]; rfl
  rw [eL, h0]
  refine (as_r w h hn (by omega) (by omega) (by omega) (by omega)).mono ?_
  rintro e w' ⟨pa, cp, k', rfl, a1, a2, a3, a4, a5⟩
  exact ⟨pa, cp, by rw [cellsC_len]; rfl, a1, ⟨ks, k', a2, by omega, by omega⟩, chg_kp k0 a5, hR _ _ hr a4⟩
theorem kr_slf {pa : Option Addr} {cp : Nat} {l : List Nat} : KR (fun w => SlF w pa cp l) := fun _ _ h k => h.k33 k
theorem kr_and {A B : World → Prop} (ha : KR A) (hb : KR B) : KR (fun w => A w ∧ B w) := fun _ _ h k => ⟨ha _ _ h.1 k, hb _ _ h.2 k⟩
theorem kr_true : KR (fun _ => True) := fun _ _ _ _ => trivial
theorem kr_blk {B q : Nat} : KR (BlkQ B q) := fun w w' h k => by
 obtain ⟨U, h1, h2⟩ := k
 exact h1.heap h (fun hx => h2 B hx _ _ h)
theorem Ask.and {fn P' : Nat} {hd f m : Int} {F : Int} {l : List Nat} {code i' : Nat} {B : World → Prop} (hA : ∀ R, KR R → Ask fn P' hd f m (Jx wst n P G c F i R) (Jx wst n P G c F i' R) l code) (hR : KR R) (hB : KR B) :
  Ask fn P' hd f m (fun w => Jx wst n P G c F i R w ∧ B w) (fun w => Jx wst n P G c F i' R w ∧ B w) l code := by
 intro w hJ
 refine (hA _ (kr_and hR hB) w ⟨hJ.1.1, hJ.1.2.1, hJ.1.2.2, hJ.2⟩).mono ?_
 rintro e w' ⟨pa, cp, e1, h1, h2⟩
 exact ⟨pa, cp, e1, h1, ⟨h2.1, h2.2.1, h2.2.2.1⟩, h2.2.2.2⟩
end
end Go.Proofs.YtelakcjbknbehaaGreat
