/- Lemmas and walks. -/
import Derived.Shelf.SlSortCmp.NoneTotal
import Ieee.Arith
import Derived.Deep.CutBlock
import Derived.BigQuiet
import Derived.Test.YtelakcjbknbehaaGreatEb
import Derived.Test.YtelakcjbknbehaaGreatEe
import Derived.Test.YtelakcjbknbehaaGreatEm
import Derived.Test.YtelakcjbknbehaaGreatEn
import Derived.Test.YtelakcjbknbehaaGreatEo
namespace Go.Proofs.YtelakcjbknbehaaGreat
open Go.RowKit Go.Lib

set_option maxRecDepth 100000 in
set_option maxHeartbeats 4000000 in
theorem pq_count (w : World) {J K : World → Prop} {P : Nat} {hd f n : Int} {l : List Nat} {code : Nat} (cl : Int) (hA : Ask 15 P hd f n J K l code) (hc : ∀ x ∈ l, CanB x) (hn : l.length ≤ 2000) (h : J w) :
  Calls Tryz.prog 11 #[.pointer (some ⟨P, 0, none⟩), .int .i64 hd, .int .i64 f, .int .i64 n, .int .i64 cl] w fun e w' => e = .returned (.tuple #[.int .i64 (anV code (cntC cl l)), .int .i64 code]) ∧ K w' := by
 have HC := Lib.hid (hA w h)
 have HCAN := Lib.hid hc
 clear h hA hc
 by_cases hz : code = 0
 ·subst hz
  rcases Nat.eq_zero_or_pos l.length with h0 | hpos
  ·obtain rfl := List.eq_nil_of_length_eq_zero h0
   clear h0 hn
   rw [show ([] : List Nat).length = 0 from rfl] at HC
   go_enter Tryz.func11, Tryz.ntmps11
   go_wp2_with fail
   refine HC.out.mono ?_
   rintro e w1 ⟨pa, cp, rfl, hF, hj⟩
   obtain ⟨rfl, rfl⟩ : pa = none ∧ cp = 0 := by
    rcases hF with ⟨-, a, b⟩ | ⟨a, -⟩
    ·exact ⟨a, b⟩
    ·exact absurd rfl a
   have HJ := Lib.hid hj
   clear HC hF hj
   go_wp2_with fail
   go_loopw [14, 16, 30] (fun k _ i wr => k = .int .i64 0 ∧ i = .int .i64 0 ∧ w1 = wr) (fun k _ i _ => 0)
   case atStart => exact ⟨rfl, rfl, rfl⟩
   case round =>
    obtain ⟨rfl, rfl, rfl⟩ := hrel
    go_wp2_with fail
    go_ret2
    exact ⟨rfl, HJ.out⟩
  ·obtain ⟨N, hN⟩ : ∃ N, N = l.length := ⟨_, rfl⟩
   rw [← hN] at HC hn hpos
   go_enter Tryz.func11, Tryz.ntmps11
   go_wp2_with fail
   refine HC.out.mono ?_
   rintro e w1 ⟨pa, cp, rfl, hS, hj⟩
   obtain ⟨g, o, rfl, hF, -⟩ : ∃ g o, pa = some ⟨g, o, none⟩ ∧ FlT w1 (some ⟨g, o, none⟩) l := by
    rcases hS with ⟨a, -⟩ | ⟨-, -, h⟩
    ·rw [a] at hN; simp at hN; omega
    ·exact h
   have hlen : l.length = N := hN.symm
   have HL := Lib.hid hlen
   have HF := Lib.hid hF
   have HJ := Lib.hid hj
   clear HC hF hS hj hN hlen
   go_wp2_with fail
   go_loopw [14, 16, 30] (fun k _ i wr => w1 = wr ∧ ∃ j m : Nat, j ≤ N ∧ i = .int .i64 j ∧ k = .int .i64 m ∧ Hid (m = cntC cl (l.take j) ∧ m ≤ j)) (fun _ _ i _ => N - (intOf i).toNat)
   case atStart => exact ⟨rfl, 0, 0, Nat.zero_le _, rfl, rfl, Lib.hid ⟨rfl, Nat.le_refl _⟩⟩
   case round =>
    obtain ⟨rfl, j, m, hj, rfl, rfl, hm⟩ := hrel
    rcases Nat.lt_or_ge j N with hlt | hge
    ·have hlt' : (j : Int) < N := by omega
     have hjl : j < l.length := by rw [HL.out]; exact hlt
     obtain ⟨x, hx⟩ : ∃ x, x = l[j] := ⟨_, rfl⟩
     have cj : w1.cell? ⟨g, o + j, none⟩ = some (.float .f64 x) := by rw [hx]; exact fl_at HF.out j hjl
     have hxc := HCAN.out x (by rw [hx]; exact List.getElem_mem _)
     have HT := Lib.hid (cntC_take cl l j hjl)
     rw [← hx] at HT
     have HK := Lib.hid (class_any x w1 hxc.1)
     have hm2 : m < 2000 := by have := hm.out.2; omega
     clear hx hxc
     by_cases he : clsB x = cl
     ·have HN := Lib.hid (show m + 1 = cntC cl (l.take (j + 1)) ∧ m + 1 ≤ j + 1 by
       have h1 := hm.out
       rw [HT.out, if_pos (by simpa using he), ← h1.1]
       exact ⟨rfl, by omega⟩)
      rw [he] at HK
      clear he
      go_wp2_with fail
      refine HK.out.mono ?_
      rintro e w2 ⟨rfl, rfl⟩
      go_wp2_with fail
      go_roundw
      case rel => exact ⟨trivial, j + 1, m + 1, hlt, by go_num, by go_num, HN⟩
      case measure => simp [intOf]; omega
     ·have HN := Lib.hid (show m = cntC cl (l.take (j + 1)) ∧ m ≤ j + 1 by
       have h1 := hm.out
       rw [HT.out, if_neg (by simpa using he), ← h1.1]
       exact ⟨rfl, by omega⟩)
      have he2 : (clsB x == cl) = false := by simpa using he
      generalize clsB x = y at *
      clear he
      go_wp2_with fail
      refine HK.out.mono ?_
      rintro e w2 ⟨rfl, rfl⟩
      go_wp2_with fail
      go_roundw
      case rel => exact ⟨trivial, j + 1, m, hlt, by go_num, rfl, HN⟩
      case measure => simp [intOf]; omega
    ·obtain rfl : j = N := by omega
     have hnl : ¬ ((j : Int) < j) := by omega
     have HE := Lib.hid (show (m : Int) = ((anV 0 (cntC cl l) : Nat) : Int) by
      have h1 := hm.out.1
      rw [List.take_of_length_le (by rw [HL.out]; exact Nat.le_refl _)] at h1
      rw [h1]; rfl)
     clear hm
     go_wp2_with fail
     go_ret2
     exact ⟨by rw [← HE.out]; rfl, HJ.out⟩
 ·have hz2 : (code : Int) ≠ 0 := by omega
  have HV := Lib.hid (show anV code (cntC cl l) = 0 from if_neg hz)
  obtain ⟨N, hN⟩ : ∃ N, N = l.length := ⟨_, rfl⟩
  rw [← hN] at HC
  clear hN hn
  go_enter Tryz.func11, Tryz.ntmps11
  go_wp2_with fail
  refine HC.out.mono ?_
  rintro e w1 ⟨pa, cp, rfl, -, hj⟩
  have HJ := Lib.hid hj
  clear HC hj
  go_wp2_with fail
  go_ret2
  exact ⟨by rw [HV.out]; rfl, HJ.out⟩
set_option maxRecDepth 100000 in
set_option maxHeartbeats 4000000 in
theorem rq_count (w : World) {J K : World → Prop} {P : Nat} {hd f n : Int} {l : List Nat} {code : Nat} (cl : Int) (hA : Ask 25 P hd f n J K l code) (hc : ∀ x ∈ l, CanB x) (hn : l.length ≤ 2000) (h : J w) :
  Calls Tryz.prog 31 #[.pointer (some ⟨P, 0, none⟩), .int .i64 hd, .int .i64 f, .int .i64 n, .int .i64 cl] w fun e w' => e = .returned (.tuple #[.int .i64 (anV code (cntC cl l)), .int .i64 code]) ∧ K w' := by
 have HC := Lib.hid (hA w h)
 have HCAN := Lib.hid hc
 clear h hA hc
 by_cases hz : code = 0
 ·subst hz
  rcases Nat.eq_zero_or_pos l.length with h0 | hpos
  ·obtain rfl := List.eq_nil_of_length_eq_zero h0
   clear h0 hn
   rw [show ([] : List Nat).length = 0 from rfl] at HC
   go_enter Tryz.func31, Tryz.ntmps31
   go_wp2_with fail
   refine HC.out.mono ?_
   rintro e w1 ⟨pa, cp, rfl, hF, hj⟩
   obtain ⟨rfl, rfl⟩ : pa = none ∧ cp = 0 := by
    rcases hF with ⟨-, a, b⟩ | ⟨a, -⟩
    ·exact ⟨a, b⟩
    ·exact absurd rfl a
   have HJ := Lib.hid hj
   clear HC hF hj
   go_wp2_with fail
   go_loopw [14, 15] (fun k i wr => k = .int .i64 0 ∧ i = .int .i64 0 ∧ w1 = wr) (fun k i _ => 0)
   case atStart => exact ⟨rfl, rfl, rfl⟩
   case round =>
    obtain ⟨rfl, rfl, rfl⟩ := hrel
    go_wp2_with fail
    go_ret2
    exact ⟨rfl, HJ.out⟩
  ·obtain ⟨N, hN⟩ : ∃ N, N = l.length := ⟨_, rfl⟩
   rw [← hN] at HC hn hpos
   go_enter Tryz.func31, Tryz.ntmps31
   go_wp2_with fail
   refine HC.out.mono ?_
   rintro e w1 ⟨pa, cp, rfl, hS, hj⟩
   obtain ⟨g, o, rfl, hF, -⟩ : ∃ g o, pa = some ⟨g, o, none⟩ ∧ FlT w1 (some ⟨g, o, none⟩) l := by
    rcases hS with ⟨a, -⟩ | ⟨-, -, h⟩
    ·rw [a] at hN; simp at hN; omega
    ·exact h
   have hlen : l.length = N := hN.symm
   have HL := Lib.hid hlen
   have HF := Lib.hid hF
   have HJ := Lib.hid hj
   clear HC hF hS hj hN hlen
   go_wp2_with fail
   go_loopw [14, 15] (fun k i wr => w1 = wr ∧ ∃ j m : Nat, j ≤ N ∧ i = .int .i64 j ∧ k = .int .i64 m ∧ Hid (m = cntC cl (l.take j) ∧ m ≤ j)) (fun _ i _ => N - (intOf i).toNat)
   case atStart => exact ⟨rfl, 0, 0, Nat.zero_le _, rfl, rfl, Lib.hid ⟨rfl, Nat.le_refl _⟩⟩
   case round =>
    obtain ⟨rfl, j, m, hj, rfl, rfl, hm⟩ := hrel
    rcases Nat.lt_or_ge j N with hlt | hge
    ·have hlt' : (j : Int) < N := by omega
     have hjl : j < l.length := by rw [HL.out]; exact hlt
     obtain ⟨x, hx⟩ : ∃ x, x = l[j] := ⟨_, rfl⟩
     have cj : w1.cell? ⟨g, o + j, none⟩ = some (.float .f64 x) := by rw [hx]; exact fl_at HF.out j hjl
     have hxc := HCAN.out x (by rw [hx]; exact List.getElem_mem _)
     have HT := Lib.hid (cntC_take cl l j hjl)
     rw [← hx] at HT
     have HK := Lib.hid (rclass_any x w1 hxc)
     have hm2 : m < 2000 := by have := hm.out.2; omega
     clear hx hxc
     by_cases he : clsB x = cl
     ·have HN := Lib.hid (show m + 1 = cntC cl (l.take (j + 1)) ∧ m + 1 ≤ j + 1 by
       have h1 := hm.out
       rw [HT.out, if_pos (by simpa using he), ← h1.1]
       exact ⟨rfl, by omega⟩)
      rw [he] at HK
      clear he
      go_wp2_with fail
      refine HK.out.mono ?_
      rintro e w2 ⟨rfl, rfl⟩
      go_wp2_with fail
      go_roundw
      case rel => exact ⟨trivial, j + 1, m + 1, hlt, by go_num, by go_num, HN⟩
      case measure => simp [intOf]; omega
     ·have HN := Lib.hid (show m = cntC cl (l.take (j + 1)) ∧ m ≤ j + 1 by
       have h1 := hm.out
       rw [HT.out, if_neg (by simpa using he), ← h1.1]
       exact ⟨rfl, by omega⟩)
      have he2 : (clsB x == cl) = false := by simpa using he
      generalize clsB x = y at *
      clear he
      go_wp2_with fail
      refine HK.out.mono ?_
      rintro e w2 ⟨rfl, rfl⟩
      go_wp2_with fail
      go_roundw
      case rel => exact ⟨trivial, j + 1, m, hlt, by go_num, rfl, HN⟩
      case measure => simp [intOf]; omega
    ·obtain rfl : j = N := by omega
     have hnl : ¬ ((j : Int) < j) := by omega
     have HE := Lib.hid (show (m : Int) = ((anV 0 (cntC cl l) : Nat) : Int) by
      have h1 := hm.out.1
      rw [List.take_of_length_le (by rw [HL.out]; exact Nat.le_refl _)] at h1
      rw [h1]; rfl)
     clear hm
     go_wp2_with fail
     go_ret2
     exact ⟨by rw [← HE.out]; rfl, HJ.out⟩
 ·have hz2 : (code : Int) ≠ 0 := by omega
  have HV := Lib.hid (show anV code (cntC cl l) = 0 from if_neg hz)
  obtain ⟨N, hN⟩ : ∃ N, N = l.length := ⟨_, rfl⟩
  rw [← hN] at HC
  clear hN hn
  go_enter Tryz.func31, Tryz.ntmps31
  go_wp2_with fail
  refine HC.out.mono ?_
  rintro e w1 ⟨pa, cp, rfl, -, hj⟩
  have HJ := Lib.hid hj
  clear HC hj
  go_wp2_with fail
  go_ret2
  exact ⟨by rw [HV.out]; rfl, HJ.out⟩
end Go.Proofs.YtelakcjbknbehaaGreat
namespace Go.Proofs
open Go.Shelf
def Tryz.sortFl_ren : Go.Shelf.Ren := ⟨fun | 6 => 204 | 15 => 240 | 14 => 239 | 28 => 267 | 29 => 268 | 20 => 259 | 21 => 260 | 22 => 261 | 23 => 262 | 24 => 263 | 25 => 264 | 26 => 265 | 27 => 266 | 46 => 289 | 47 => 290 | 48 => 291 | 49 => 292 | 50 => 293 | 57 => 302 | n => n, fun | 22 => 38 | 24 => 33 | 25 => 93 | 3 => 3 | 39 => 256 | 0 => 0 | 53 => 214 | 55 => 92 | 4 => 4 | 46 => 337 | 45 => 336 | 50 => 329 | 5 => 5 | 9 => 9 | 66 => 357 | 70 => 361 | 76 => 368 | 77 => 62 | n => n, fun | n => n⟩
theorem Tryz.sortFl : Go.Proofs.SlLaysF.n6 Tryz.prog Tryz.sortFl_ren := {
 mixed := by kernel_rfl
 f6 := ⟨Tryz.f204.name, by decide, Tryz.func204.trans (congrArg some (by kernel_rfl))⟩
 f14 := ⟨Tryz.f239.name, by decide, Tryz.func239.trans (congrArg some (by kernel_rfl))⟩
 f15 := Tryz.func240.trans (congrArg some (by kernel_rfl))
 f20 := ⟨Tryz.f259.name, by decide, Tryz.func259.trans (congrArg some (by kernel_rfl))⟩
 f21 := ⟨Tryz.f260.name, by decide, Tryz.func260.trans (congrArg some (by kernel_rfl))⟩
 f22 := ⟨Tryz.f261.name, by decide, Tryz.func261.trans (congrArg some (by kernel_rfl))⟩
 f23 := ⟨Tryz.f262.name, by decide, Tryz.func262.trans (congrArg some (by kernel_rfl))⟩
 f24 := ⟨Tryz.f263.name, by decide, Tryz.func263.trans (congrArg some (by kernel_rfl))⟩
 f25 := ⟨Tryz.f264.name, by decide, Tryz.func264.trans (congrArg some (by kernel_rfl))⟩
 f26 := ⟨Tryz.f265.name, by decide, Tryz.func265.trans (congrArg some (by kernel_rfl))⟩
 f27 := ⟨Tryz.f266.name, by decide, Tryz.func266.trans (congrArg some (by kernel_rfl))⟩
 f28 := Tryz.func267.trans (congrArg some (by kernel_rfl))
 f29 := Tryz.func268.trans (congrArg some (by kernel_rfl))
 f46 := ⟨Tryz.f289.name, by decide, Tryz.func289.trans (congrArg some (by kernel_rfl))⟩
 f47 := Tryz.func290.trans (congrArg some (by kernel_rfl))
 f48 := Tryz.func291.trans (congrArg some (by kernel_rfl))
 f49 := ⟨Tryz.f292.name, by decide, Tryz.func292.trans (congrArg some (by kernel_rfl))⟩
 f50 := ⟨Tryz.f293.name, by decide, Tryz.func293.trans (congrArg some (by kernel_rfl))⟩
 f57 := ⟨Tryz.f302.name, by decide, Tryz.func302.trans (congrArg some (by kernel_rfl))⟩
 t0 := Tryz.underlying0
 a0 := Tryz.isAgg0
 z0 := Tryz.sizeOf0
 v0 := Tryz.zeroValue0
 t3 := Tryz.underlying3
 a3 := Tryz.isAgg3
 z3 := Tryz.sizeOf3
 v3 := Tryz.zeroValue3
 t4 := Tryz.underlying4
 a4 := Tryz.isAgg4
 z4 := Tryz.sizeOf4
 v4 := Tryz.zeroValue4
 t5 := Tryz.underlying5
 a5 := Tryz.isAgg5
 z5 := Tryz.sizeOf5
 v5 := Tryz.zeroValue5
 t9 := Tryz.underlying9
 a9 := Tryz.isAgg9
 z9 := Tryz.sizeOf9
 v9 := Tryz.zeroValue9
 t22 := Tryz.underlying38
 a22 := Tryz.isAgg38
 z22 := Tryz.sizeOf38
 v22 := Tryz.zeroValue38
 a24 := Tryz.isAgg33
 z24 := Tryz.sizeOf33
 t25 := Tryz.underlying93
 a25 := Tryz.isAgg93
 z25 := Tryz.sizeOf93
 v25 := Tryz.zeroValue93
 t39 := Tryz.underlying256
 a39 := Tryz.isAgg256
 z39 := Tryz.sizeOf256
 v39 := Tryz.zeroValue256
 t45 := Tryz.underlying336
 a45 := Tryz.isAgg336
 z45 := Tryz.sizeOf336
 v45 := Tryz.zeroValue336
 t46 := Tryz.underlying337
 a46 := Tryz.isAgg337
 z46 := Tryz.sizeOf337
 v46 := Tryz.zeroValue337
 t50 := Tryz.underlying329
 a50 := Tryz.isAgg329
 z50 := Tryz.sizeOf329
 v50 := Tryz.zeroValue329
 t53 := Tryz.underlying214
 a53 := Tryz.isAgg214
 z53 := Tryz.sizeOf214
 v53 := Tryz.zeroValue214
 t55 := Tryz.underlying92
 a55 := Tryz.isAgg92
 z55 := Tryz.sizeOf92
 v55 := Tryz.zeroValue92
 t66 := Tryz.underlying357
 a66 := Tryz.isAgg357
 z66 := Tryz.sizeOf357
 v66 := Tryz.zeroValue357
 t70 := Tryz.underlying361
 a70 := Tryz.isAgg361
 z70 := Tryz.sizeOf361
 v70 := Tryz.zeroValue361
 t76 := Tryz.underlying368
 a76 := Tryz.isAgg368
 z76 := Tryz.sizeOf368
 v76 := Tryz.zeroValue368
 t77 := Tryz.underlying62
 a77 := Tryz.isAgg62
 z77 := Tryz.sizeOf62
 v77 := Tryz.zeroValue62 }
end Go.Proofs
namespace Go.Proofs.YtelakcjbknbehaaGreat
open Go.Shelf Go.RowKit Go.Lib Go.Sort

abbrev CanN : Type := {x : Nat // CanB x}
instance : Inhabited CanN := ⟨⟨0, by decide, by decide⟩⟩
def encFl (x : CanN) : Value := .float .f64 x.1
def cfFl (x y : CanN) : Int := cmpK (keyB x.1) (keyB y.1)
theorem ltFl (x y : CanN) : ltOf cfFl x y = decide (keyB x.1 < keyB y.1) := by
 unfold ltOf cfFl cmpK
 by_cases h1 : keyB x.1 < keyB y.1
 ·simp [h1]
 ·by_cases h2 : keyB y.1 < keyB x.1 <;> simp [h1, h2]
theorem swoFl : SWO (ltOf cfFl) where
 irrefl x := by rw [ltFl]; simp
 trans x y z h1 h2 := by rw [ltFl] at *; simp at *; omega
 ntrans x y z h1 h2 := by rw [ltFl] at *; simp at *; omega
theorem keyB_inj {x y : Nat} (hx : x < 18446744073709551616) (hy : y < 18446744073709551616) (h : keyB x = keyB y) : x = y := by
 unfold keyB at h
 split at h <;> split at h <;> omega
theorem totFl (x y : CanN) (h1 : ltOf cfFl x y = false) (h2 : ltOf cfFl y x = false) : x = y := by
 rw [ltFl] at h1 h2
 have a := of_decide_eq_false h1
 have b := of_decide_eq_false h2
 exact Subtype.ext (keyB_inj x.2.1 y.2.1 (by omega))
theorem cmpLaysFl (blk off size : Nat) (w : World) : CmpLays1 Tryz.prog 178 #[] encFl cfFl blk off size w :=
 fun _ _ _ _ x y => (fcmp_any x.1 y.1 _ x.2 y.2).mono fun _ _ ⟨he, hw⟩ => ⟨he, 0, #[], by rw [← hw, grow_empty]; rfl⟩
def sortK (l : List Nat) : List Nat := l.mergeSort fun x y => decide (keyB x ≤ keyB y)
theorem sortK_len (l : List Nat) : (sortK l).length = l.length := List.length_mergeSort _
theorem sortK_perm (l : List Nat) : (sortK l).Perm l := List.mergeSort_perm _ _
theorem sortK_pair (l : List Nat) : (sortK l).Pairwise fun x y => keyB x ≤ keyB y := by
 have := List.pairwise_mergeSort (le := fun x y => decide (keyB x ≤ keyB y)) (fun a b c h1 h2 => by simp at *; omega) (fun a b => by simp; omega) l
 exact this.imp fun h => by simpa using h
set_option maxRecDepth 100000 in
theorem sort_fl (w : World) {g n cap : Nat} {cur : Array Value} {l : List Nat} (hb : w.heap[g]? = some (.cells cur 33 (0, 0))) (hs : Fl w (some ⟨g, 0, none⟩) l) (hl : l.length = n) (hn : n ≤ 1000000) (hc : ∀ x ∈ l, CanB x) :
  Calls Tryz.prog 204 #[.slice (some ⟨g, 0, none⟩) n cap, .func (.func 178) #[] #[]] w fun e w' => e = .returned (.tuple #[]) ∧ Chg [g] w w' ∧ Fl w' (some ⟨g, 0, none⟩) (sortK l) := by
 have eg : ∀ args w, (callFunc 178 args).run Tryz.prog w = .ok (.enter 178 args) w := enters_of Tryz.func178 (by kernel_rfl) rfl
 obtain ⟨d, hd⟩ : ∃ d : Array CanN, d.toList.map Subtype.val = l := by
  refine ⟨(l.attach.map fun x => (⟨x.1, hc x.1 x.2⟩ : CanN)).toArray, ?_⟩
  simp only [List.map_map, Function.comp_def]
  exact List.attach_map_subtype_val l
 have hz : d.size = n := by rw [← hl, ← hd]; simp
 have hget : ∀ j (hj : j < d.size), (d[j]!).1 = l[j]'(by omega) := by
  intro j hj
  subst hd
  rw [List.getElem_map, getElem!_pos d j hj]
  simp
 have hH : Holds encFl w g 0 d := by
  intro j hj
  refine ⟨?_, unfrozen hb _⟩
  have := fl_at hs j (by omega)
  rw [← hget j hj] at this
  exact this
 have hcon := Any.slices_SortFunc_total Tryz.sortFl encFl (fun _ => rfl) cfFl swoFl 178 #[] g 0 cap d w eg (cmpLaysFl g 0 d.size w) hH (heap_lt hb) (by omega) totFl
 change Calls Tryz.prog 204 _ _ _ at hcon
 rw [hz] at hcon
 refine hcon.mono ?_
 rintro e w' ⟨rfl, m, os, rfl⟩
 have hm : (d.toList.mergeSort fun x y => !(ltOf cfFl) y x).map Subtype.val = sortK l := by
  rw [← hd]
  unfold sortK
  refine List.map_mergeSort fun a _ b _ => ?_
  rw [ltFl, Bool.eq_iff_iff]
  simp
 have hsz : (d.toList.mergeSort fun x y => !(ltOf cfFl) y x).toArray.size = d.size := by simp
 have hH2 := holds_sortWorld encFl w g 0 m d _ os (heap_lt hb) hH hsz
 refine ⟨rfl, ((chg_ahead w m).then (chg_mapBlock _ g _)).then (chg_grow _ os), ?_⟩
 refine Or.inr ⟨g, 0, rfl, fun j hj => ?_⟩
 have hj2 : j < (d.toList.mergeSort fun x y => !(ltOf cfFl) y x).toArray.size := by
  rw [hsz, hz, ← hl, ← sortK_len]; exact hj
 have h2 := (hH2 j hj2).1
 rw [h2]
 unfold encFl
 congr 2
 rw [getElem!_pos _ j hj2]
 have : (sortK l)[j] = ((d.toList.mergeSort fun x y => !(ltOf cfFl) y x).map Subtype.val)[j]'(by rw [hm]; exact hj) := by congr 1; exact hm.symm
 rw [this, List.getElem_map]
 simp
end Go.Proofs.YtelakcjbknbehaaGreat
namespace Go.Proofs.YtelakcjbknbehaaGreat

def InsI (key : Nat → Nat) (M : Array Nat) (k i : Nat) : Prop := ∀ (a b : Nat) (hb : b < M.size) (h : a < b), b ≤ i → b ≠ k → key (M[a]'(by omega)) ≤ key M[b]
def InsO (key : Nat → Nat) (M : Array Nat) (i : Nat) : Prop := ∀ (a b : Nat) (hb : b < M.size) (h : a < b), b < i → key (M[a]'(by omega)) ≤ key M[b]
theorem InsO.start {key : Nat → Nat} {M : Array Nat} {i : Nat} (h : InsO key M i) : InsI key M i i := fun a b hb hab hbi hne => h a b hb hab (by omega)
theorem InsI.zero {key : Nat → Nat} {M : Array Nat} {i : Nat} (h : InsI key M 0 i) : InsO key M (i + 1) := fun a b hb hab hbi => h a b hb hab (by omega) (by omega)
theorem InsI.stop {key : Nat → Nat} {M : Array Nat} {k i : Nat} (h : InsI key M (k + 1) i) (hk : k + 1 < M.size) (hs : key (M[k]'(by omega)) ≤ key M[k + 1]) : InsO key M (i + 1) := fun a b hb hab hbi => by
 by_cases e : b = k + 1
 ·subst e
  by_cases e2 : a = k
  ·subst e2; exact hs
  ·exact Nat.le_trans (h a k (by omega) (by omega) (by omega) (by omega)) hs
 ·exact h a b hb hab (by omega) e
theorem InsI.step {key : Nat → Nat} {M : Array Nat} {k i : Nat} (h : InsI key M (k + 1) i) (hk : k + 1 < M.size) (hs : key M[k + 1] < key (M[k]'(by omega))) : InsI key (M.swap k (k + 1) (by omega) hk) k i := by
 intro a b hb hab hbi hne
 rw [Array.size_swap] at hb
 simp only [Array.getElem_swap]
 have b0 : b ≠ k := hne
 by_cases b1 : b = k + 1
 ·have ib : (if b = k then M[k + 1] else if b = k + 1 then M[k]'(by omega) else M[b]) = M[k]'(by omega) := by rw [if_neg b0, if_pos b1]
  rw [ib]
  by_cases a0 : a = k
  ·rw [if_pos a0]; omega
  ·rw [if_neg a0, if_neg (by omega)]
   exact h a k (by omega) (by omega) (by omega) (by omega)
 ·have ib : (if b = k then M[k + 1] else if b = k + 1 then M[k]'(by omega) else M[b]) = M[b] := by rw [if_neg b0, if_neg b1]
  rw [ib]
  by_cases a0 : a = k
  ·rw [if_pos a0]
   exact h (k + 1) b hb (by omega) hbi b1
  ·by_cases a1 : a = k + 1
   ·rw [if_neg a0, if_pos a1]
    exact h k b hb (by omega) hbi b1
   ·rw [if_neg a0, if_neg a1]
    exact h a b hb hab hbi b1
end Go.Proofs.YtelakcjbknbehaaGreat
namespace Go.Proofs.YtelakcjbknbehaaGreat

theorem sortK_of {l : List Nat} {M : Array Nat} (hp : M.toList.Perm l) (hc : ∀ x ∈ l, x < 18446744073709551616) (hs : InsO keyB M M.size) : M.toList = sortK l := by
 refine List.Perm.eq_of_pairwise (le := fun x y => keyB x ≤ keyB y) (fun a b ha hb h1 h2 => ?_) ?_ (sortK_pair l) (hp.trans (sortK_perm l).symm)
 ·exact keyB_inj (hc a (hp.mem_iff.1 ha)) (hc b ((sortK_perm l).mem_iff.1 hb)) (by omega)
 ·rw [List.pairwise_iff_getElem]
  intro i j hi hj hij
  rw [Array.length_toList] at hi hj
  have := hs i j hj hij hj
  simpa using this
end Go.Proofs.YtelakcjbknbehaaGreat
namespace Go.Proofs.YtelakcjbknbehaaGreat
open Go.RowKit Go.Lib

theorem make_fl (w : World) {n : Nat} (hn : n ≤ 1000000) : ∃ w', (Instr.makeSlice 38 (.int .i64 0) (.int .i64 n)).run Tryz.prog w = .ok (.slice (some ⟨w.heap.size, 0, none⟩) 0 n) w' ∧ w'.ownsRow w.heap.size 33 1 (.slice (some ⟨w.heap.size, 0, none⟩) 0 n) 0 [] ∧ Chg [] w w' := by
 obtain ⟨i, hi, hz, hs, hb⟩ : ∃ i, Tryz.prog.info? 33 = some i ∧ i.zero = some (.float .f64 0) ∧ i.size = 1 ∧ i.bytes = 8 := by
  have h := inf42
  cases hi : Tryz.prog.info? 33 with
  | none => rw [hi] at h; cases h
  | some i =>
   rw [hi] at h
   have h' := Option.some.inj h
   simp only [Prod.mk.injEq] at h'
   exact ⟨i, rfl, h'.1, h'.2.1, h'.2.2⟩
 obtain ⟨w', h1, h2, h3⟩ := run_makeSlice_owned (P := Tryz.prog) w w.heap.size 38 33 i (.float .f64 0) 1 ty22 hi hz hs .i64 .i64 n (by omega) (by rw [hb]; omega) (by simp [maxLen]; omega) (Nat.le_refl _)
 exact ⟨w', h1, h2, Chg.of_grown0 h3⟩
set_option maxRecDepth 100000 in
set_option maxHeartbeats 4000000 in
theorem fsort_any (w : World) {g o n cp : Nat} {l : List Nat} (hl : l.length = n) (hn : 0 < n) (hn2 : n ≤ 1000000) (hF : Fl w (some ⟨g, o, none⟩) l) (hc : ∀ x ∈ l, CanB x) :
  Calls Tryz.prog 149 #[.slice (some ⟨g, o, none⟩) n cp] w fun e w' => ∃ g' cp', e = .returned (.slice (some ⟨g', 0, none⟩) n cp') ∧ w.heap.size ≤ g' ∧ n ≤ cp' ∧ Chg [] w w' ∧ Fl w' (some ⟨g', 0, none⟩) (sortK l) := by
 have HF := Lib.hid hF
 have HL := Lib.hid hl
 have HC := Lib.hid hc
 obtain ⟨w0, rm, om, km⟩ := make_fl w hn2
 have HM := Lib.hid (And.intro om km)
 clear hF hl hc om km
 go_enter Tryz.func149, Tryz.ntmps149
 go_wp2_with fail
 go_loopw [3, 5, 11] (fun v _ i wr => ∃ j : Nat, Chg [] w wr ∧ j ≤ n ∧ i = .int .i64 j ∧ wr.ownsRow w.heap.size 33 1 v j (flCells (l.take j))) (fun _ _ i _ => n - (intOf i).toNat)
 case atStart => exact ⟨0, HM.out.2, Nat.zero_le _, rfl, HM.out.1⟩
 case round =>
  obtain ⟨j, kr, hj, rfl, hor⟩ := hrel
  rcases Nat.lt_or_ge j n with hlt | hge
  ·have hlt' : (j : Int) < n := by omega
   have hjl : j < l.length := by have := HL.out; omega
   obtain ⟨x, hx⟩ : ∃ x, x = l[j] := ⟨_, rfl⟩
   have cj : wr.cell? ⟨g, o + j, none⟩ = some (.float .f64 x) := by rw [hx]; exact kr.cell (fl_at HF.out j hjl) (by simp)
   have hxc : CanB x := by rw [hx]; exact HC.out _ (List.getElem_mem _)
   have HB := Lib.hid (fbits_any x wr)
   rw [canB_of hxc] at HB
   have HFR := Lib.hid (fromBits_any x wr)
   rw [canB_of hxc] at HFR
   have HT := Lib.hid (show l.take (j + 1) = l.take j ++ [x] by rw [hx]; exact List.take_succ_eq_append_getElem hjl)
   have HO := Lib.hid hor
   have HK := Lib.hid kr
   have hs0 := kr.size
   clear hx hxc hor kr
   go_wp2_with fail
   refine HB.out.mono ?_
   rintro e w1 ⟨rfl, rfl⟩
   go_wp2_with fail
   refine HFR.out.mono ?_
   rintro e w1 ⟨rfl, rfl⟩
   go_wp2_with (at_builtin; refine wpList_append_lit rfl (.tmp 15) (.tmp 19) 38 33 rfl ty22 inf42 rfl (by decide) w.heap.size wr (flCells [x]) 1 rfl _ j (flCells (l.take j)) rfl HO.out (by omega) (by decide) hs0 (k := 0) rfl (flCells_one _) rfl 1 rfl ?_; intro v' w' hap)
   go_roundw
   case rel => exact ⟨j + 1, Chg.of_below (HK.out.below0.trans hap.2.1), hlt, by go_num, by rw [HT.out]; have := hap.1; unfold flCells at *; simpa using this⟩
   case measure => simp [intOf]; omega
  ·obtain rfl : j = n := by omega
   have hnl : ¬ ((j : Int) < j) := by omega
   have htl : l.take j = l := List.take_of_length_le (by have := HL.out; omega)
   rw [htl] at hor
   obtain ⟨g', c', rfl, hFv, hgv, hle⟩ := fl_own hor hn
   have hb : ∃ cur, wr.heap[g']? = some (.cells cur 33 (0, 0)) := by
    rcases hor.2 with ⟨h0, _⟩ | ⟨g2, cap, cur, e, _, h2, _⟩
    ·cases h0
    ·cases e; exact ⟨cur, h2⟩
   obtain ⟨cur, hb⟩ := hb
   have HS := Lib.hid (sort_fl wr (cap := c') hb hFv HL.out hn2 HC.out)
   have HK := Lib.hid kr
   clear hor hFv hb kr htl
   go_wp2_with fail
   refine HS.out.mono ?_
   rintro e w1 ⟨rfl, k1, hF1⟩
   go_wp2_with fail
   go_ret
   exact ⟨g', c', rfl, hgv, hle, HK.out.trans k1 (fun x hx hlt => by simp at hx; omega), hF1⟩
end Go.Proofs.YtelakcjbknbehaaGreat
namespace Go.Proofs.YtelakcjbknbehaaGreat
open Go.RowKit Go.Lib Ieee

def RwF (w : World) (g : Nat) (M : Array Nat) : Prop := ∃ cur, w.heap[g]? = some (.cells cur 33 (0, 0)) ∧ M.size ≤ cur.size ∧ ∀ j (h : j < M.size), cur[j]? = some (.float .f64 M[j])
theorem RwF.get {w : World} {g : Nat} {M : Array Nat} (h : RwF w g M) (j : Nat) (hj : j < M.size) : w.cell? ⟨g, j, none⟩ = some (.float .f64 M[j]) := by
 obtain ⟨cur, h1, -, h3⟩ := h
 exact cell_is h1 j (h3 j hj)
theorem RwF.keep {w w' : World} {g : Nat} {M : Array Nat} (h : RwF w g M) (k : Chg [] w w') : RwF w' g M := by
 obtain ⟨cur, h1, h2⟩ := h
 exact ⟨cur, k.heap h1 (by simp), h2⟩
theorem RwF.swap {w : World} {g k : Nat} {M : Array Nat} (h : RwF w g M) (hk : k + 1 < M.size) {x y : Nat} (hx : x = M[k]) (hy : y = M[k + 1]) :
  RwF ((w.setCell ⟨g, k + 1, none⟩ (.float .f64 x)).setCell ⟨g, k, none⟩ (.float .f64 y)) g (M.swap k (k + 1) (by omega) hk) := by
 obtain ⟨cur, h1, h2, h3⟩ := h
 refine ⟨_, heap_set (heap_set h1 (k + 1) _ rfl) k _ rfl, by simpa using h2, fun j hj => ?_⟩
 rw [Array.size_swap] at hj
 rw [Array.getElem?_setIfInBounds, Array.getElem?_setIfInBounds, Array.getElem_swap, Array.size_setIfInBounds]
 by_cases e1 : k = j
 ·subst e1
  rw [if_pos rfl, if_pos (by omega), if_pos rfl, hy]
 ·rw [if_neg e1]
  by_cases e2 : k + 1 = j
  ·subst e2
   rw [if_pos rfl, if_pos (by omega), if_neg (by omega), if_pos rfl, hx]
  ·rw [if_neg e2, if_neg (fun e => e1 e.symm), if_neg (fun e => e2 e.symm)]
   exact h3 j hj
theorem RwF.own {w : World} {b0 g n c : Nat} {l : List Nat} (h : w.ownsRow b0 33 1 (.slice (some ⟨g, 0, none⟩) n c) n (flCells l)) (hl : l.length = n) (hn : 0 < n) : RwF w g l.toArray ∧ b0 ≤ g := by
 rcases h.2 with ⟨e, h0⟩ | ⟨g', cap, cur, e, hA, hg, h1, h2, h3, h4⟩
 ·omega
 ·cases e
  have h5 : ∀ j (h : j < l.length), cur[j]? = some (.float .f64 l[j]) := fun j hj => by
   have hh : (flCells l)[j]? = some (.float .f64 l[j]) := by simp [flCells, hj]
   rw [← h4, List.getElem?_take] at hh
   split at hh
   ·simpa using hh
   ·cases hh
  refine ⟨⟨cur, hg, ?_, fun j hj => ?_⟩, hA⟩
  ·have := h5 (n - 1) (by omega)
   have := (Array.getElem?_eq_some_iff.1 this).1
   simp only [List.size_toArray]
   omega
  ·rw [h5 j (by simpa using hj)]
   simp
theorem RwF.fl {w : World} {g : Nat} {M : Array Nat} (h : RwF w g M) : Fl w (some ⟨g, 0, none⟩) M.toList :=
 Or.inr ⟨g, 0, rfl, fun j hj => by rw [Nat.zero_add]; simpa using h.get j (by simpa using hj)⟩
theorem cmpK_lt {a b : Nat} : (cmpK a b < 0) ↔ a < b := by
 unfold cmpK
 split
 ·omega
 ·split <;> omega
def SrtR (w : World) (n : Nat) (l : List Nat) (e : Ending) (w' : World) : Prop := ∃ g' cp', e = .returned (.slice (some ⟨g', 0, none⟩) n cp') ∧ Chg [] w w' ∧ Fl w' (some ⟨g', 0, none⟩) (sortK l)
set_option maxRecDepth 100000 in
set_option maxHeartbeats 4000000 in
theorem rsort_any (w : World) {g o n cp : Nat} {l : List Nat} (hl : l.length = n) (hn : 0 < n) (hn2 : n ≤ 100000) (hF : Fl w (some ⟨g, o, none⟩) l) (hc : ∀ x ∈ l, CanB x) :
  Calls Tryz.prog 147 #[.slice (some ⟨g, o, none⟩) n cp] w (SrtR w n l) := by
 have HL := Lib.hid hl
 have HC := Lib.hid hc
 have k0 : Chg [] w (w.alloc (.cells #[] 33)) := Chg.alloc w _
 have hF1 := hF.keep k0
 have h0 := heap_new w (.cells #[] 33)
 have ho : (w.alloc (.cells #[] 33)).ownsRow w.heap.size 33 1 (.slice (some ⟨w.heap.size, 0, none⟩) 0 0) 0 (flCells []) := ⟨rfl, Or.inr ⟨w.heap.size, 0, #[], rfl, Nat.le_refl _, h0, Nat.le_refl _, by unfold maxLen; omega, rfl, rfl⟩⟩
 have hsz := k0.size
 have hlow := own_lowF ho
 have HN := Lib.hid (And.intro hn hn2)
 clear hF hc h0
 go_enter Tryz.func147, Tryz.ntmps147
 go_wp2_with (at_builtin; refine wpList_append_fl rfl (.tmp 6) (.tmp 7) rfl w.heap.size _ 0 [] l rfl ho g o n cp rfl hl hn hF1 (by omega) hsz ?_; intro g9 cap9 w9 h9 k9)
 rw [Nat.zero_add, List.nil_append] at h9
 obtain ⟨hR, hg9⟩ := RwF.own h9 hl hn
 have k10 : Chg [] w w9 := k0.trans k9 (fun x hx hlt => by have := hlow x hx; omega)
 have HP0 := Lib.hid (show l.toArray.size = n ∧ l.toArray.toList.Perm l ∧ InsO keyB l.toArray 1 from ⟨by simpa using hl, List.Perm.refl _, fun a b hb hab hb1 => by omega⟩)
 clear h9 k9 ho hF1 hl hlow k0 hsz
 go_loopw [4, 5] (fun i _ wr => ∃ (a : Nat) (M : Array Nat), i = .int .i64 a ∧ 1 ≤ a ∧ a ≤ n ∧ Chg [] w wr ∧ RwF wr g9 M ∧ Hid (M.size = n ∧ M.toList.Perm l ∧ InsO keyB M a)) (fun i _ _ => n - (intOf i).toNat)
 case atStart => exact ⟨1, _, rfl, by omega, by omega, k10, hR, HP0⟩
 case round =>
  obtain ⟨a, M, rfl, ha1, han, kr, hRr, hM⟩ := hrel
  by_cases hlt : a < n
  ·have hlt' : (a : Int) < n := by omega
   go_wp2_with fail
   go_loopw [5] (fun kk wx => ∃ (b : Nat) (X : Array Nat), kk = .int .i64 b ∧ b ≤ a ∧ Chg [] w wx ∧ RwF wx g9 X ∧ Hid (X.size = n ∧ X.toList.Perm l ∧ InsI keyB X b a)) (fun kk _ => (intOf kk).toNat)
   case atStart => exact ⟨a, M, rfl, Nat.le_refl _, kr, hRr, Lib.hid ⟨hM.out.1, hM.out.2.1, hM.out.2.2.start⟩⟩
   case round =>
    obtain ⟨b, X, rfl, hba, kx, hRx, hX⟩ := hrel
    rcases Nat.eq_zero_or_pos b with rfl | hb
    ·have HX := Lib.hid (show X.size = n ∧ X.toList.Perm l ∧ InsO keyB X (a + 1) from ⟨hX.out.1, hX.out.2.1, hX.out.2.2.zero⟩)
     have KX := Lib.hid (fun nq => And.intro (kx.drewN nq) (hRx.keep ((Chg.refl [] wr).drewN nq)))
     clear hX kx hRx
     go_wp2_with fail
     go_quiet (fail)
     go_wp2_with fail
     go_roundw
     case rel => exact ⟨a + 1, X, by go_num, by omega, hlt, (KX.out _).1, (KX.out _).2, HX⟩
     case measure => simp [intOf]; omega
    ·obtain ⟨c, hbc⟩ : ∃ c, b = c + 1 := ⟨b - 1, by omega⟩
     have hcs : c + 1 < X.size := by rw [hX.out.1]; omega
     obtain ⟨x, hx⟩ : ∃ x, x = X[c]'(by omega) := ⟨_, rfl⟩
     obtain ⟨y, hy⟩ : ∃ y, y = X[c + 1] := ⟨_, rfl⟩
     have cx : wr.cell? ⟨g9, c, none⟩ = some (.float .f64 x) := by rw [hx]; exact hRx.get c (by omega)
     have cy : wr.cell? ⟨g9, b, none⟩ = some (.float .f64 y) := by rw [hy, hbc]; exact hRx.get (c + 1) hcs
     have hcx : CanB x := HC.out x (hX.out.2.1.mem_iff.1 (by rw [hx]; simp))
     have hcy : CanB y := HC.out y (hX.out.2.1.mem_iff.1 (by rw [hy]; simp))
     have HK := Lib.hid (fun w => (rcmp_any y x w hcy hcx).mono fun _ _ h => And.intro h.1 h.2.symm)
     have KX := Lib.hid (fun nq => And.intro (kx.drewN nq) (hRx.keep ((Chg.refl [] wr).drewN nq)))
     have hbn : (b : Int) < n := by omega
     have hcn : (c : Int) < n := by omega
     have hw1 : IntKind.i64.wrap ((b : Int) - 1) = (c : Int) := by rw [IntKind.wrap_i64]; omega
     have hw2 : wrap64 ((b : Int) - 1) = (c : Int) := by unfold wrap64; omega
     have hbp : (0 : Int) < b := by omega
     have hcp : (0 : Int) ≤ c := by omega
     by_cases hlt2 : keyB y < keyB x
     ·have hcm : cmpK (keyB y) (keyB x) < 0 := cmpK_lt.2 hlt2
      have HRS := Lib.hid (fun nq => (KX.out nq).2.swap hcs hx hy)
      have HX := Lib.hid (show (X.swap c (c + 1) (by omega) hcs).size = n ∧ (X.swap c (c + 1) (by omega) hcs).toList.Perm l ∧ InsI keyB (X.swap c (c + 1) (by omega) hcs) c a from
       ⟨by rw [Array.size_swap]; exact hX.out.1, (Array.swap_perm (by omega) hcs).toList.trans hX.out.2.1, by
        have h := hX.out.2.2
        rw [hbc] at h
        exact h.step hcs (by rw [← hx, ← hy]; exact hlt2)⟩)
      obtain ⟨Z, hZ⟩ : ∃ Z, Z = X.swap c (c + 1) (by omega) hcs := ⟨_, rfl⟩
      rw [← hZ] at HX HRS
      have HCL := Lib.hid (show ∀ nq, ∃ cur, (wr.drewN nq).heap[g9]? = some (.cells cur 33 (0, 0)) ∧ cur[c]? = some (.float .f64 x) ∧ cur[b]? = some (.float .f64 y) from fun nq => by
       obtain ⟨cur, h1, h2, h3⟩ := (KX.out nq).2
       exact ⟨cur, h1, by rw [h3 c (by omega), hx], by rw [hbc, h3 (c + 1) hcs, hy]⟩)
      have HBC := Lib.hid hbc
      generalize cmpK (keyB y) (keyB x) = cm at *
      clear hX hx hy hcx hcy kx hRx hlt2 hbc hZ
      have hst : ∀ a v m w, (store a (.float .f64 v) m).run Tryz.prog w = stored Tryz.prog w a (.float .f64 v) m := fun a v m w => run_store Tryz.prog w a _ m rfl
      go_wp2_with fail
      go_quiet ((go_at_call 49; exact Calls.quiet_of_same (HK.out _)))
      go_wp2_with fail
      have HR8 := Lib.hid (show RwF (((wr.drewN nq).setCell ⟨g9, b, none⟩ (.float .f64 x)).setCell ⟨g9, c, none⟩ (.float .f64 y)).drew g9 Z by
       obtain ⟨cur, h1, h2⟩ := HRS.out nq
       rw [← HBC.out] at h1
       exact ⟨cur, h1, h2⟩)
      have K8 := Lib.hid ((((KX.out nq).1.new_set hg9 b (.float .f64 x)).new_set hg9 c (.float .f64 y)).drew)
      obtain ⟨cur, hcur, hcc, hcb⟩ := HCL.out nq
      have hne : b ≠ c := by have := HBC.out; omega
      have f1 : (wr.drewN nq).frozen? ⟨g9, b, none⟩ = false := unfrozen hcur b
      have f2 : (wr.drewN nq).frozen? ⟨g9, c, none⟩ = false := unfrozen hcur c
      have cx9 : (wr.drewN nq).cell? ⟨g9, c, none⟩ = some (.float .f64 x) := cell_is hcur c hcc
      have cy9 : (wr.drewN nq).cell? ⟨g9, b, none⟩ = some (.float .f64 y) := cell_is hcur b hcb
      have cx8 : ((wr.drewN nq).setCell ⟨g9, b, none⟩ (.float .f64 x)).cell? ⟨g9, c, none⟩ = some (.float .f64 x) := cell_is (heap_set hcur b _ rfl) c (by rw [Array.getElem?_setIfInBounds, if_neg hne]; exact hcc)
      clear hcur hcc hcb HRS KX HCL HK
      generalize wr.drewN nq = wd at *
      go_region_law (first | fail)
      all_goals
       go_wp2_with fail
       go_roundw
       case rel => exact ⟨c, Z, rfl, by have := HBC.out; omega, K8.out, HR8.out, HX⟩
       case measure => have := HBC.out; simp [intOf]; omega
     ·have hcm : ¬ cmpK (keyB y) (keyB x) < 0 := fun h => hlt2 (cmpK_lt.1 h)
      have HX := Lib.hid (show X.size = n ∧ X.toList.Perm l ∧ InsO keyB X (a + 1) from ⟨hX.out.1, hX.out.2.1, by
       have h := hX.out.2.2
       rw [hbc] at h
       exact h.stop hcs (by rw [← hx, ← hy]; omega)⟩)
      generalize cmpK (keyB y) (keyB x) = cm at *
      clear hX hx hy hcx hcy kx hRx hbc
      go_wp2_with fail
      go_quiet ((go_at_call 49; exact Calls.quiet_of_same (HK.out _)))
      go_wp2_with fail
      go_roundw
      case rel => exact ⟨a + 1, X, by go_num, by omega, hlt, (KX.out _).1, (KX.out _).2, HX⟩
      case measure => simp [intOf]; omega
  ·obtain rfl : a = n := by omega
   have hnl : ¬ ((a : Int) < a) := by omega
   have HE := Lib.hid (show Fl wr (some ⟨g9, 0, none⟩) (sortK l) by
    have := hRr.fl
    rw [sortK_of hM.out.2.1 (fun x hx => (HC.out x hx).1) (by rw [hM.out.1]; exact hM.out.2.2)] at this
    exact this)
   clear hM hRr
   go_wp2_with fail
   go_ret
   exact ⟨g9, cap9, rfl, kr, HE.out⟩
def intG (_name : String) (way : Ieee.Toward) (x : Nat) : Ieee.Datum → Sem Value
 | .nan s t =>
  if FloatKind.f64.format.quiet t = t then pure (.float .f64 x) else do
   let kept ← choose (.extern "math.Floor,Ceil,Trunc,RoundToEven.signallingNaN kept" 2)
   pure (.float .f64 (if kept == 1 then x else FloatKind.f64.encode (.nan s (FloatKind.f64.format.quiet t))))
 | d => pure (.float .f64 (FloatKind.f64.encode (d.integral way)))
theorem toIntegral_eq (name : String) (way : Ieee.Toward) (x : Nat) : Extern.MathFloor.toIntegral name way #[.float .f64 x] = intG name way x (FloatKind.f64.decode x) := rfl
theorem intG_num {name : String} {way : Ieee.Toward} {x : Nat} {d : Ieee.Datum} (h : d.isNaN = false) : intG name way x d = pure (.float .f64 (FloatKind.f64.encode (d.integral way))) := by
 cases d with
 | number s m e => rfl
 | infinity s => rfl
 | nan s t => cases h
theorem run_floor {b : Nat} (w : World) (h : isNaNB b = false) : (callFunc 202 #[.float .f64 b]).run Tryz.prog w = .ok (.value (.float .f64 (wholeB .down b))) w := by
 rw [run_callFunc_extern Tryz.func202 (by kernel_rfl) (by kernel_rfl) (by kernel_rfl) (show Extern.find Tryz.f202 = some (Extern.MathFloor.toIntegral "math.archFloor" .down) by kernel_rfl)]
 have hd : (FloatKind.f64.decode b).isNaN = false := by
  rw [← h, ← read_nan]; rfl
 rw [toIntegral_eq, intG_num hd]
 rfl
set_option maxRecDepth 100000 in
theorem floor_any (b : Nat) (w : World) (h : isNaNB b = false) : Calls Tryz.prog 148 #[.float .f64 b] w fun e w' => e = .returned (.float .f64 (wholeB .down b)) ∧ w = w' := by
 have hr := fun w => run_floor w h
 generalize wholeB .down b = c at *
 go_enter Tryz.func148, Tryz.ntmps148
 go_wp2_with fail
 go_ret
 exact ⟨rfl, rfl⟩
theorem run_toN {b : Nat} {n : Int} (h : WhB b n) (h1 : n.natAbs ≤ 1000000000) (w : World) : (convert 33 3 (.float .f64 b)).run Tryz.prog w = .ok (.int .i64 n) w := by
 refine run_convert_float_int w 33 3 .f64 .i64 b n (by rw [Tryz.underlying33]; rfl) Tryz.underlying3 ?_
 unfold floatToIntVal
 have e : (FloatKind.f64.decode b).toInt .zero = some n := h.toInt
 rw [e]
 simp only
 rw [if_pos]
 have e1 : IntKind.i64.min = -9223372036854775808 := by decide
 have e2 : IntKind.i64.max = 9223372036854775807 := by decide
 rw [e1, e2]
 omega
theorem one_fin : FinB 4607182418800017408 ∧ rv 4607182418800017408 = (T1 : Int) := by
 have h := wh_int (n := 1) (by decide)
 have e : intB 1 = 4607182418800017408 := by decide +kernel
 rw [e] at h
 exact ⟨h.1, by rw [h.2, Int.one_mul]⟩
theorem floor_wh {k M : Nat} (h : FinB k) (h0 : 0 ≤ rv k) (h1 : rv k ≤ (M : Int) * (T1 : Int)) :
  ∃ n : Nat, n ≤ M ∧ WhB (wholeB .down k) n ∧ (n : Int) * (T1 : Int) ≤ rv k ∧ rv k - (n : Int) * (T1 : Int) ≤ (T1 : Int) := by
 have hT := T1_pos
 have hv : (valR (magB k) : Int) = rv k := by
  cases e : negB k
  ·rw [rv_pos e]
  ·rw [rv_neg e] at h0 ⊢; omega
 have hz : negB k = true → valR (magB k) = 0 := fun e => by rw [rv_neg e] at h0; omega
 obtain ⟨f1, f2, f3⟩ := whole_fin .down h
 have hN : wholeN .down k = valR (magB k) / T1 := by
  unfold wholeN cutW
  rw [← T1_pow]
  cases e : negB k
  ·rfl
  ·rw [hz e, Nat.zero_mod, Nat.zero_div]; rfl
 have hdm := Nat.div_add_mod (valR (magB k)) T1
 have hlt := Nat.mod_lt (valR (magB k)) hT
 rw [hN] at f3
 generalize hq : valR (magB k) / T1 = n at *
 have e1 : (n : Int) * (T1 : Int) = ((T1 * n : Nat) : Int) := by rw [Int.natCast_mul, Int.mul_comm]
 refine ⟨n, ?_, ⟨f1, ?_⟩, by omega, by omega⟩
 ·rw [← hq]
  have : valR (magB k) ≤ M * T1 := by
   have : ((M * T1 : Nat) : Int) = (M : Int) * (T1 : Int) := Int.natCast_mul _ _
   omega
  have := Nat.div_le_div_right (c := T1) this
  rwa [Nat.mul_div_cancel _ hT] at this
 ·cases e : negB k
  ·rw [rv_pos (by rw [f2]; exact e), f3, e1, Nat.mul_comm]
  ·have h9 := hz e
   rw [rv_neg (by rw [f2]; exact e), f3]
   have : n = 0 := by rw [← hq, h9, Nat.zero_div]
   rw [this]
   simp
theorem part_zero {k L part : Nat} (hk : FinB k) (hL : FinB L) (hp : floatBits .sub .f64 k L = some part) (hf : FinB part) :
  (FloatKind.f64.format.order part 0 == some .eq) = (FloatKind.f64.format.order L k == some .eq) := by
 obtain ⟨g, e, h0, h1⟩ := sub_rv hk hL
 have e2 : double.word g (rungOf (rv k - rv L).natAbs) = part := Option.some.inj (e.symm.trans hp)
 have o1 : FloatKind.f64.format.order part 0 = some (compare (rv part) (rv 0)) := order_fin hf zero_fin.1
 have o2 : FloatKind.f64.format.order L k = some (compare (rv L) (rv k)) := order_fin hL hk
 rw [o1, o2, zero_fin.2]
 have hr0 : rungOf 0 = 0 := if_pos rfl
 have hle : rungOf (rv k - rv L).natAbs ≤ 9218868437227405312 := by
  by_cases h : (rv k - rv L).natAbs = 0
  ·rw [h, hr0]; exact Nat.zero_le _
  ·exact (rung_pos h).2
 have hm : magB part = rungOf (rv k - rv L).natAbs := by rw [← e2]; exact mag_word (by omega)
 have hlt : rungOf (rv k - rv L).natAbs < 9218868437227405312 := by rw [← hm]; exact hf.2
 have hv : rv part = sgnI g (valR (rungOf (rv k - rv L).natAbs)) := by rw [← e2]; exact word_rv hlt
 have key : rv part = 0 ↔ rv L = rv k := by
  constructor
  ·intro h
   rw [hv] at h
   have hz : valR (rungOf (rv k - rv L).natAbs) = 0 := by unfold sgnI at h; split at h <;> omega
   have hr := valR_zero hz
   by_cases hX : (rv k - rv L).natAbs = 0
   ·omega
   ·exact absurd hr (rung_pos hX).1
  ·intro h
   rw [hv, show (rv k - rv L).natAbs = 0 by omega, hr0, valR_0]
   unfold sgnI
   split <;> rfl
 by_cases h : rv L = rv k
 ·rw [Int.compare_eq_eq.2 (key.2 h), Int.compare_eq_eq.2 h]
 ·have a1 : (some (compare (rv part) 0) == some Ordering.eq) = false := beq_eq_false_iff_ne.2 (fun e => h (key.1 (Int.compare_eq_eq.1 (Option.some.inj e))))
  have a2 : (some (compare (rv L) (rv k)) == some Ordering.eq) = false := beq_eq_false_iff_ne.2 (fun e => h (Int.compare_eq_eq.1 (Option.some.inj e)))
  rw [a1, a2]
theorem ord_some {q c : Nat} (hq : q < 18446744073709551616) (h : isNaNB q = false) (hc : FinB c) : ∃ o, FloatKind.f64.format.order q c = some o := by
 rcases kinds hq with hN | ⟨-, hI⟩ | ⟨-, hF⟩
 ·rw [h] at hN; cases hN
 ·obtain ⟨m, i, r1, -⟩ := read_fin hc
  show ∃ o, double.order q c = some o
  unfold Format.order
  rw [read_inf hq hI, r1]
  cases hs : negB q <;> exact ⟨_, rfl⟩
 ·exact ⟨_, order_fin hF hc⟩
theorem q_out {q : Nat} (hq : q < 18446744073709551616) (h1 : FinB 4607182418800017408) : (FloatKind.f64.format.order q q != some .eq || FloatKind.f64.format.order q 0 == some .lt || FloatKind.f64.format.order q 4607182418800017408 == some .gt) =
  !((FloatKind.f64.format.order q 0 == some .gt || FloatKind.f64.format.order q 0 == some .eq) && (FloatKind.f64.format.order q 4607182418800017408 == some .lt || FloatKind.f64.format.order q 4607182418800017408 == some .eq)) := by
 rw [order_fmt]
 cases hn : isNaNB q
 ·obtain ⟨o1, e1⟩ := ord_some hq hn zero_fin.1
  obtain ⟨o2, e2⟩ := ord_some hq hn h1
  rw [e1, e2]
  cases o1 <;> cases o2 <;> rfl
 ·have e1 : FloatKind.f64.format.order q 0 = none := nan_order hn 0
  rw [e1]
  rfl
theorem rngD_inf (n d : Nat) : rngD n d ≤ 9218868437227405312 := by
 unfold rngD
 split
 ·exact Nat.zero_le _
 ·exact Nat.min_le_right _ _
theorem word_num {s : Bool} {r : Nat} (h : r ≤ 9218868437227405312) : isNaNB (double.word s r) = false ∧ double.word s r < 18446744073709551616 := by
 refine ⟨decide_eq_false ?_, word_lt (by omega)⟩
 rw [mag_word (by omega)]
 omega
theorem write_num' (s : Bool) (m : Nat) (i : Int) : isNaNB (double.write (.number s m i)) = false ∧ double.write (.number s m i) < 18446744073709551616 := by
 have e : double.write (.number s m i) = double.nearest s m i := rfl
 rw [e, nearest_rngD s m i (-1074 - i).toNat (by omega)]
 exact word_num (rngD_inf _ _)
theorem write_inf' (s : Bool) : isNaNB (double.write (.infinity s)) = false ∧ double.write (.infinity s) < 18446744073709551616 := by
 cases s <;> decide +kernel
theorem sub_num {a b : Nat} (ha : a < 18446744073709551616) (na : isNaNB a = false) (hb : b < 18446744073709551616) (nb : isNaNB b = false) (hne : a ≠ b) :
  ∃ d, floatBits .sub .f64 b a = some d ∧ isNaNB d = false ∧ d < 18446744073709551616 := by
 show ∃ d, double.sub b a = some d ∧ _
 unfold Format.sub
 rcases kinds ha with h | ⟨-, ia⟩ | ⟨-, fa⟩
 ·rw [na] at h; cases h
 ·rcases kinds hb with h | ⟨-, ib⟩ | ⟨-, fb⟩
  ·rw [nb] at h; cases h
  ·rw [read_inf ha ia, read_inf hb ib]
   have hs : negB a ≠ negB b := fun e => hne (by rw [← word_self ha, ← word_self hb, ia, ib, e])
   have e : (Datum.infinity (negB b)).sum (Datum.infinity (negB a)).opposite = some (.infinity (negB b)) := by
    show (if negB b = !negB a then _ else _) = _
    rw [if_pos (by revert hs; cases negB a <;> cases negB b <;> decide)]
   rw [e]
   exact ⟨_, rfl, write_inf' _⟩
  ·obtain ⟨m, i, r, -⟩ := read_fin fb
   rw [read_inf ha ia, r]
   exact ⟨_, rfl, write_inf' _⟩
 ·obtain ⟨m, i, r, -⟩ := read_fin fa
  rcases kinds hb with h | ⟨-, ib⟩ | ⟨-, fb⟩
  ·rw [nb] at h; cases h
  ·rw [read_inf hb ib, r]
   exact ⟨_, rfl, write_inf' _⟩
  ·obtain ⟨n, j, r2, -⟩ := read_fin fb
   rw [r2, r]
   exact ⟨_, rfl, write_num' _ _ _⟩
theorem mul_num {p d : Nat} (hp : FinB p) (h0 : rv p ≠ 0) (hd : d < 18446744073709551616) (nd : isNaNB d = false) :
  ∃ z, floatBits .mul .f64 p d = some z ∧ isNaNB z = false ∧ z < 18446744073709551616 := by
 show ∃ z, double.mul p d = some z ∧ _
 unfold Format.mul
 obtain ⟨m, i, r, h1, h2, -⟩ := read_fin hp
 rcases kinds hd with h | ⟨-, i2⟩ | ⟨-, f2⟩
 ·rw [nd] at h; cases h
 ·have hm : m ≠ 0 := by
   intro e
   refine h0 ?_
   rw [e] at h2
   have hz : valR (magB p) = 0 := by rw [← h2]; unfold units; exact Nat.zero_mul _
   unfold rv
   rw [hz]
   unfold sgnI
   split <;> rfl
  rw [r, read_inf hd i2]
  have e : (Datum.number (negB p) m i).product (.infinity (negB d)) = some (.infinity (negB d ^^ negB p)) := by
   show (if m = 0 then none else some (Datum.infinity (negB d ^^ negB p))) = _
   rw [if_neg hm]
  rw [e]
  exact ⟨_, rfl, write_inf' _⟩
 ·obtain ⟨n, j, r2, -⟩ := read_fin f2
  rw [r, r2]
  exact ⟨_, rfl, write_num' _ _ _⟩
theorem add_num {a p : Nat} (ha : a < 18446744073709551616) (na : isNaNB a = false) (hp : p < 18446744073709551616) (np : isNaNB p = false) :
  floatBits .add .f64 a p = none ∨ ∃ z, floatBits .add .f64 a p = some z ∧ isNaNB z = false ∧ z < 18446744073709551616 := by
 show double.add a p = none ∨ ∃ z, double.add a p = some z ∧ _
 unfold Format.add
 have hr : ∀ {x : Nat}, x < 18446744073709551616 → isNaNB x = false → (∃ s, double.read x = .infinity s) ∨ ∃ s m i, double.read x = .number s m i := fun hx nx => by
  rcases kinds hx with h | ⟨-, i⟩ | ⟨-, f⟩
  ·rw [nx] at h; cases h
  ·exact Or.inl ⟨_, read_inf hx i⟩
  ·obtain ⟨m, i, r, -⟩ := read_fin f
   exact Or.inr ⟨_, _, _, r⟩
 rcases hr ha na with ⟨s, e1⟩ | ⟨s, m, i, e1⟩ <;> rcases hr hp np with ⟨t, e2⟩ | ⟨t, n, j, e2⟩ <;> rw [e1, e2]
 ·by_cases h : s = t
  ·exact Or.inr ⟨_, by show Option.map _ (if s = t then _ else _) = _; rw [if_pos h]; rfl, write_inf' _⟩
  ·exact Or.inl (by show Option.map _ (if s = t then _ else _) = _; rw [if_neg h]; rfl)
 ·exact Or.inr ⟨_, rfl, write_inf' _⟩
 ·exact Or.inr ⟨_, rfl, write_inf' _⟩
 ·exact Or.inr ⟨_, rfl, write_num' _ _ _⟩
def nanT (w : World) (a b : Nat) : Nat := (Question.nanBits .f64 a b).cut (w.tape w.drawn (.nanBits .f64 a b))
theorem run_addn {a b : Nat} (h : floatBits .add .f64 a b = none) (t : TypeId) (w : World) : (binOp .add t (.float .f64 a) (.float .f64 b)).run Tryz.prog w = .ok (.float .f64 (nanT w a b)) w.drew := by
 unfold nanT
 unfold floatBits at h
 simp only at h
 simp [binOp, Op.floatArith, h, Question.forced]
theorem nanT_nan (w : World) (a b : Nat) : isNaNB (nanT w a b) = true := by
 show isNaNB ((w.tape w.drawn (.nanBits .f64 a b) % 2) * 9223372036854775808 + 9218868437227405312 + 1 + (w.tape w.drawn (.nanBits .f64 a b) / 2) % 4503599627370495) = true
 have h1 : w.tape w.drawn (.nanBits .f64 a b) % 2 < 2 := Nat.mod_lt _ (by decide)
 have h2 : (w.tape w.drawn (.nanBits .f64 a b) / 2) % 4503599627370495 < 4503599627370495 := Nat.mod_lt _ (by decide)
 generalize w.tape w.drawn (.nanBits .f64 a b) % 2 = u at *
 generalize (w.tape w.drawn (.nanBits .f64 a b) / 2) % 4503599627370495 = q at *
 unfold isNaNB magB
 refine decide_eq_true ?_
 rcases (by omega : u = 0 ∨ u = 1) with rfl | rfl <;> omega
theorem nanT_neq (w : World) (a b : Nat) : (FloatKind.f64.format.order (nanT w a b) (nanT w a b) != some .eq) = true := by rw [order_fmt, nanT_nan]
set_option maxRecDepth 100000 in
set_option maxHeartbeats 4000000 in
theorem quant4 (w : World) {g o n cp m low hi : Nat} {l : List Nat} {q k part a b z zl : Nat} (hl : l.length = n) (hm : n = m + 1) (hn2 : n ≤ 1000000) (hF : Fl w (some ⟨g, o, none⟩) l) (hc : ∀ x ∈ l, CanB x)
  (hq0 : (FloatKind.f64.format.order q 0 == some .gt || FloatKind.f64.format.order q 0 == some .eq) = true)
  (hq1 : (FloatKind.f64.format.order q 4607182418800017408 == some .lt || FloatKind.f64.format.order q 4607182418800017408 == some .eq) = true)
  (hlast : (sortK l)[m]? = some zl) (hzn : isNaNB zl = false)
  (hk : floatBits .mul .f64 q (intB m) = some k) (hkn : isNaNB k = false) (hlow : WhB (wholeB .down k) low) (hlm : low ≤ m)
  (hpart : floatBits .sub .f64 k (intB low) = some part) (ha : (sortK l)[low]? = some a) (hhi : hi = min (low + 1) m) (hb : (sortK l)[hi]? = some b)
  (hz : (a = b ∧ z = a) ∨ (a ≠ b ∧ (FloatKind.f64.format.order part 0 == some .eq) = true ∧ z = a) ∨
   (a ≠ b ∧ (FloatKind.f64.format.order part 0 == some .eq) = false ∧ ∃ d p, floatBits .sub .f64 b a = some d ∧ floatBits .mul .f64 part d = some p ∧ floatBits .add .f64 a p = some z ∧ isNaNB z = false) ∨
   (a ≠ b ∧ (FloatKind.f64.format.order part 0 == some .eq) = false ∧ ∃ d p, floatBits .sub .f64 b a = some d ∧ floatBits .mul .f64 part d = some p ∧ floatBits .add .f64 a p = none ∧ z = a)) :
  Calls Tryz.prog 76 #[.slice (some ⟨g, o, none⟩) n cp, .float .f64 q] w fun e w' => e = .returned (.tuple #[.float .f64 z, .int .i64 0]) ∧ Chg [] w w' := by
 have HS := Lib.hid (fsort_any w (cp := cp) hl (by omega) hn2 hF hc)
 have hn0 : ((n : Int) == 0) = false := beq_false_of_ne (by omega)
 have hcv := fun w => run_fromI (m : Int) w
 have rk := fun w => run_float_arith (P := Tryz.prog) w .mul 33 .f64 q (intB m) k hk
 have rl := fun w => run_toN hlow (by omega) w
 have hcl := fun w => run_fromI (low : Int) w
 have rp := fun w => run_float_arith (P := Tryz.prog) w .sub 33 .f64 k (intB low) part hpart
 have HFL := Lib.hid (fun w => floor_any k w hkn)
 have hor := order_fmt zl
 rw [hzn] at hor
 have hw1 : IntKind.i64.wrap ((n : Int) - 1) = (m : Int) := by rw [IntKind.wrap_i64]; omega
 have hw2 : wrap64 ((n : Int) - 1) = (m : Int) := by unfold wrap64; omega
 have lm : (m : Int) < (n : Int) := by omega
 have ll : (low : Int) < (n : Int) := by omega
 have lh : (hi : Int) < (n : Int) := by omega
 have pm : (0 : Int) ≤ (m : Int) := by omega
 have pl : (0 : Int) ≤ (low : Int) := by omega
 have ph : (0 : Int) ≤ (hi : Int) := by omega
 have hlo1 : wrap64 ((low : Int) + 1) = ((low + 1 : Nat) : Int) := by unfold wrap64; omega
 have hmin : min ((low : Int) + 1) (m : Int) = (hi : Int) := by omega
 have HL := Lib.hid (And.intro hlast (And.intro ha hb))
 have HC : Hid (CanB a ∧ CanB b) := Lib.hid ⟨hc _ ((sortK_perm l).mem_iff.1 (List.mem_of_getElem? ha)), hc _ ((sortK_perm l).mem_iff.1 (List.mem_of_getElem? hb))⟩
 have HZ := Lib.hid hz
 clear hl hm hF hc hk hkn hlow hpart hlast ha hhi hb hz hzn
 generalize intB m = M at *
 generalize intB low = LW at *
 generalize wholeB .down k = kf at *
 go_enter Tryz.func76, Tryz.ntmps76
 go_wp2_with fail
 refine HS.out.mono ?_
 rintro e w1 ⟨g1, c1, rfl, hg1, hc1, k1, hF1⟩
 have cget : ∀ (w' : World) (j v : Nat), (sortK l)[j]? = some v → Fl w' (some ⟨g1, 0, none⟩) (sortK l) → w'.cell? ⟨g1, j, none⟩ = some (.float .f64 v) := fun w' j v h hf => by
  obtain ⟨hj, e⟩ := List.getElem?_eq_some_iff.1 h
  have := fl_at hf j hj
  rw [Nat.zero_add, e] at this
  exact this
 have cm := cget w1 m zl HL.out.1 hF1
 have ca := cget w1 low a HL.out.2.1 hF1
 have cb := cget w1 hi b HL.out.2.2 hF1
 have K1 := Lib.hid k1
 clear hF1 cget k1 HS
 go_wp2_with fail
 go_region_held3 (fun wx => wx.cell? ⟨g1, m, none⟩ = some (.float .f64 zl)) (go_keep) (first | fail)
 go_wp2_with fail
 have K2 : Hid (Chg [] w w1.drew) := Lib.hid K1.out.drew
 have ca2 : w1.drew.cell? ⟨g1, low, none⟩ = some (.float .f64 a) := ca
 have cb2 : w1.drew.cell? ⟨g1, hi, none⟩ = some (.float .f64 b) := cb
 clear K1 cm ca cb
 generalize w1.drew = w2 at *
 refine (HFL.out _).mono ?_
 rintro e w3 ⟨rfl, rfl⟩
 go_wp2_with fail
 have hsame : ∀ w, Calls Tryz.prog 150 #[.float .f64 a, .float .f64 b] w fun e w' => e = .returned (.bool (a == b)) ∧ w = w' := fun w => by
  have := same_any a b w
  rw [canB_of HC.out.1, canB_of HC.out.2] at this
  exact this
 rcases HZ.out with ⟨hab, rfl⟩ | ⟨hab, hp0, rfl⟩ | ⟨hab, hp0, d, p, hd, hp, hx, hxn⟩ | ⟨hab, hp0, d, p, hd, hp, hx, rfl⟩
 ·have HSA := Lib.hid hsame
  rw [show (z == b) = true by rw [hab]; exact beq_self_eq_true b] at HSA
  clear hsame hab HZ
  have ca3 : w2.drew.cell? ⟨g1, low, none⟩ = some (.float .f64 z) := ca2
  have cb3 : w2.drew.cell? ⟨g1, hi, none⟩ = some (.float .f64 b) := cb2
  go_still_tail 8, (by kernel_rfl)
  change wpList _ _ _ _ _ w2.drew
  go_wp2_with fail
  refine (HSA.out _).mono ?_
  rintro e w5 ⟨rfl, rfl⟩
  go_wp2_with fail
  go_ret2
  exact ⟨rfl, K2.out.drew⟩
 ·have HSA := Lib.hid hsame
  rw [show (z == b) = false from beq_eq_false_iff_ne.2 hab] at HSA
  clear hsame hab HZ
  go_region_held3 (fun wx => wx.cell? ⟨g1, low, none⟩ = some (.float .f64 z) ∧ wx.cell? ⟨g1, hi, none⟩ = some (.float .f64 b)) (go_keep)
   (first | (go_at_call 150; refine (HSA.out _).mono ?_; rintro e w5 ⟨rfl, rfl⟩))
  go_wp2_with fail
  go_ret2
  exact ⟨rfl, K2.out.drew⟩
 ·have HSA := Lib.hid hsame
  rw [show (a == b) = false from beq_eq_false_iff_ne.2 hab] at HSA
  have rd := fun w => run_float_arith (P := Tryz.prog) w .sub 33 .f64 b a d hd
  have rm := fun w => run_float_arith (P := Tryz.prog) w .mul 33 .f64 part d p hp
  have rx := fun w => run_float_arith (P := Tryz.prog) w .add 33 .f64 a p z hx
  have hoz := order_fmt z
  rw [hxn] at hoz
  clear hsame hab HZ hd hp hx hxn
  go_region_held3 (fun wx => wx.cell? ⟨g1, low, none⟩ = some (.float .f64 a) ∧ wx.cell? ⟨g1, hi, none⟩ = some (.float .f64 b)) (go_keep)
   (first | (go_at_call 150; refine (HSA.out _).mono ?_; rintro e w5 ⟨rfl, rfl⟩))
  go_wp2_with fail
  have ca3 : w2.drew.cell? ⟨g1, low, none⟩ = some (.float .f64 a) := ca2
  have cb3 : w2.drew.cell? ⟨g1, hi, none⟩ = some (.float .f64 b) := cb2
  go_region_held3 (fun wx => wx.cell? ⟨g1, low, none⟩ = some (.float .f64 a) ∧ wx.cell? ⟨g1, hi, none⟩ = some (.float .f64 b)) (go_keep) (first | fail)
  go_wp2_with fail
  go_ret2
  exact ⟨rfl, K2.out.drew.drew⟩
 ·have HSA := Lib.hid hsame
  rw [show (z == b) = false from beq_eq_false_iff_ne.2 hab] at HSA
  have rd := fun w => run_float_arith (P := Tryz.prog) w .sub 33 .f64 b z d hd
  have rm := fun w => run_float_arith (P := Tryz.prog) w .mul 33 .f64 part d p hp
  have rx := fun w => run_addn hx 33 w
  have hoz := fun w => nanT_neq w z p
  clear hsame hab HZ hd hp hx
  go_region_held3 (fun wx => wx.cell? ⟨g1, low, none⟩ = some (.float .f64 z) ∧ wx.cell? ⟨g1, hi, none⟩ = some (.float .f64 b)) (go_keep)
   (first | (go_at_call 150; refine (HSA.out _).mono ?_; rintro e w5 ⟨rfl, rfl⟩))
  go_wp2_with fail
  have ca3 : w2.drew.cell? ⟨g1, low, none⟩ = some (.float .f64 z) := ca2
  have cb3 : w2.drew.cell? ⟨g1, hi, none⟩ = some (.float .f64 b) := cb2
  have ca5 : w2.drew.drew.cell? ⟨g1, low, none⟩ = some (.float .f64 z) := ca2
  have cb5 : w2.drew.drew.cell? ⟨g1, hi, none⟩ = some (.float .f64 b) := cb2
  go_region_law (first | fail)
  all_goals
   go_wp2_with fail
   go_ret2
   exact ⟨rfl, K2.out.drew.drew.drew⟩
set_option maxRecDepth 100000 in
set_option maxHeartbeats 4000000 in
theorem rquant4 (w : World) {g o n cp m low hi : Nat} {l : List Nat} {q k part a b z zl : Nat} (hl : l.length = n) (hm : n = m + 1) (hn2 : n ≤ 100000) (hF : Fl w (some ⟨g, o, none⟩) l) (hc : ∀ x ∈ l, CanB x)
  (hqq : (FloatKind.f64.format.order q q != some .eq) = false) (hq0 : (FloatKind.f64.format.order q 0 == some .lt) = false) (hq1 : (FloatKind.f64.format.order q 4607182418800017408 == some .gt) = false)
  (hlast : (sortK l)[m]? = some zl) (hzn : isNaNB zl = false)
  (hk : floatBits .mul .f64 q (intB m) = some k) (hkn : isNaNB k = false) (hlow : WhB (wholeB .down k) low) (hlm : low ≤ m)
  (hpart : floatBits .sub .f64 k (intB low) = some part) (ha : (sortK l)[low]? = some a) (hhi : hi = min (low + 1) m) (hb : (sortK l)[hi]? = some b)
  (hz : (a = b ∧ z = a) ∨ (a ≠ b ∧ (FloatKind.f64.format.order (intB low) k == some .eq) = true ∧ z = a) ∨
   (a ≠ b ∧ (FloatKind.f64.format.order (intB low) k == some .eq) = false ∧ ∃ d p, floatBits .sub .f64 b a = some d ∧ floatBits .mul .f64 part d = some p ∧ floatBits .add .f64 a p = some z ∧ isNaNB z = false) ∨
   (a ≠ b ∧ (FloatKind.f64.format.order (intB low) k == some .eq) = false ∧ ∃ d p, floatBits .sub .f64 b a = some d ∧ floatBits .mul .f64 part d = some p ∧ floatBits .add .f64 a p = none ∧ z = a)) :
  Calls Tryz.prog 70 #[.slice (some ⟨g, o, none⟩) n cp, .float .f64 q] w fun e w' => e = .returned (.tuple #[.float .f64 z, .int .i64 0]) ∧ Chg [] w w' := by
 have HS := Lib.hid (rsort_any w (cp := cp) hl (by omega) hn2 hF hc)
 have hn0 : ((n : Int) == 0) = false := beq_false_of_ne (by omega)
 have hcv := fun w => run_fromI (m : Int) w
 have rk := fun w => run_float_arith (P := Tryz.prog) w .mul 33 .f64 q (intB m) k hk
 have rl := fun w => run_toN hlow (by omega) w
 have hcl := fun w => run_fromI (low : Int) w
 have rp := fun w => run_float_arith (P := Tryz.prog) w .sub 33 .f64 k (intB low) part hpart
 have HFL := Lib.hid (fun w => floor_any k w hkn)
 have hor := order_fmt zl
 rw [hzn] at hor
 have hw1 : IntKind.i64.wrap ((n : Int) - 1) = (m : Int) := by rw [IntKind.wrap_i64]; omega
 have hw2 : wrap64 ((n : Int) - 1) = (m : Int) := by unfold wrap64; omega
 have lm : (m : Int) < (n : Int) := by omega
 have ll : (low : Int) < (n : Int) := by omega
 have lh : (hi : Int) < (n : Int) := by omega
 have pm : (0 : Int) ≤ (m : Int) := by omega
 have pl : (0 : Int) ≤ (low : Int) := by omega
 have ph : (0 : Int) ≤ (hi : Int) := by omega
 have hlo1 : wrap64 ((low : Int) + 1) = ((low + 1 : Nat) : Int) := by unfold wrap64; omega
 have hmin : min ((low : Int) + 1) (m : Int) = (hi : Int) := by omega
 have HL := Lib.hid (And.intro hlast (And.intro ha hb))
 have HC : Hid (CanB a ∧ CanB b) := Lib.hid ⟨hc _ ((sortK_perm l).mem_iff.1 (List.mem_of_getElem? ha)), hc _ ((sortK_perm l).mem_iff.1 (List.mem_of_getElem? hb))⟩
 have HZ := Lib.hid hz
 clear hl hm hF hc hk hkn hlow hpart hlast ha hhi hb hz hzn
 generalize intB m = M at *
 generalize intB low = LW at *
 generalize wholeB .down k = kf at *
 go_enter Tryz.func70, Tryz.ntmps70
 go_wp2_with fail
 refine HS.out.mono ?_
 rintro e w1 ⟨g1, c1, rfl, k1, hF1⟩
 have cget : ∀ (w' : World) (j v : Nat), (sortK l)[j]? = some v → Fl w' (some ⟨g1, 0, none⟩) (sortK l) → w'.cell? ⟨g1, j, none⟩ = some (.float .f64 v) := fun w' j v h hf => by
  obtain ⟨hj, e⟩ := List.getElem?_eq_some_iff.1 h
  have := fl_at hf j hj
  rw [Nat.zero_add, e] at this
  exact this
 have cm := cget w1 m zl HL.out.1 hF1
 have ca := cget w1 low a HL.out.2.1 hF1
 have cb := cget w1 hi b HL.out.2.2 hF1
 have K1 := Lib.hid k1
 clear hF1 cget k1 HS
 go_wp2_with fail
 go_region_held3 (fun wx => wx.cell? ⟨g1, m, none⟩ = some (.float .f64 zl)) (go_keep) (first | fail)
 go_wp2_with fail
 have K2 : Hid (Chg [] w w1.drew) := Lib.hid K1.out.drew
 have ca2 : w1.drew.cell? ⟨g1, low, none⟩ = some (.float .f64 a) := ca
 have cb2 : w1.drew.cell? ⟨g1, hi, none⟩ = some (.float .f64 b) := cb
 clear K1 cm ca cb
 generalize w1.drew = w2 at *
 refine (HFL.out _).mono ?_
 rintro e w3 ⟨rfl, rfl⟩
 go_wp2_with fail
 have hsame : ∀ w, Calls Tryz.prog 14 #[.float .f64 a, .float .f64 b] w fun e w' => e = .returned (.bool ((a : Int) == (b : Int))) ∧ w = w' := fun w => by
  have := same_any' a b w
  rw [canB_of HC.out.1, canB_of HC.out.2] at this
  exact this
 rcases HZ.out with ⟨hab, rfl⟩ | ⟨hab, hp0, rfl⟩ | ⟨hab, hp0, d, p, hd, hp, hx, hxn⟩ | ⟨hab, hp0, d, p, hd, hp, hx, rfl⟩
 ·have HSA := Lib.hid hsame
  rw [show ((z : Int) == (b : Int)) = true by rw [hab]; exact beq_self_eq_true _] at HSA
  clear hsame hab HZ
  have HSQ := Lib.hid (fun w => (HSA.out w).mono fun _ _ h => And.intro h.1 h.2.symm)
  have ca3 : ∀ nq, (w2.drewN nq).cell? ⟨g1, low, none⟩ = some (.float .f64 z) := fun nq => ((Chg.refl [] w2).drewN nq).cell ca2 (by simp)
  clear HSA
  go_quiet ((go_at_call 14; exact Calls.quiet_of_same (HSQ.out _)))
  go_wp2_with fail
  go_ret2
  exact ⟨rfl, K2.out.drewN _⟩
 ·have HSA := Lib.hid hsame
  rw [show ((z : Int) == (b : Int)) = false from beq_eq_false_iff_ne.2 (fun e => hab (Int.ofNat.inj e))] at HSA
  clear hsame hab HZ
  have ca3 : w2.drew.cell? ⟨g1, low, none⟩ = some (.float .f64 z) := ca2
  go_region_held3 (fun wx => wx.cell? ⟨g1, low, none⟩ = some (.float .f64 z) ∧ wx.cell? ⟨g1, hi, none⟩ = some (.float .f64 b)) (go_keep)
   (first | (go_at_call 14; refine (HSA.out _).mono ?_; rintro e w5 ⟨rfl, rfl⟩))
  go_wp2_with fail
  go_ret2
  exact ⟨rfl, K2.out.drew⟩
 ·have HSA := Lib.hid hsame
  rw [show ((a : Int) == (b : Int)) = false from beq_eq_false_iff_ne.2 (fun e => hab (Int.ofNat.inj e))] at HSA
  have rd := fun w => run_float_arith (P := Tryz.prog) w .sub 33 .f64 b a d hd
  have rm := fun w => run_float_arith (P := Tryz.prog) w .mul 33 .f64 part d p hp
  have rx := fun w => run_float_arith (P := Tryz.prog) w .add 33 .f64 a p z hx
  have hoz := order_fmt z
  rw [hxn] at hoz
  clear hsame hab HZ hd hp hx hxn
  go_region_held3 (fun wx => wx.cell? ⟨g1, low, none⟩ = some (.float .f64 a) ∧ wx.cell? ⟨g1, hi, none⟩ = some (.float .f64 b)) (go_keep)
   (first | (go_at_call 14; refine (HSA.out _).mono ?_; rintro e w5 ⟨rfl, rfl⟩))
  go_wp2_with fail
  have ca3 : w2.drew.cell? ⟨g1, low, none⟩ = some (.float .f64 a) := ca2
  have cb3 : w2.drew.cell? ⟨g1, hi, none⟩ = some (.float .f64 b) := cb2
  have ca4 : w2.drew.drew.cell? ⟨g1, low, none⟩ = some (.float .f64 a) := ca2
  go_region_held3 (fun wx => wx.cell? ⟨g1, low, none⟩ = some (.float .f64 a) ∧ wx.cell? ⟨g1, hi, none⟩ = some (.float .f64 b)) (go_keep) (first | fail)
  go_wp2_with fail
  go_ret2
  exact ⟨rfl, K2.out.drew.drew⟩
 ·have HSA := Lib.hid hsame
  rw [show ((z : Int) == (b : Int)) = false from beq_eq_false_iff_ne.2 (fun e => hab (Int.ofNat.inj e))] at HSA
  have rd := fun w => run_float_arith (P := Tryz.prog) w .sub 33 .f64 b z d hd
  have rm := fun w => run_float_arith (P := Tryz.prog) w .mul 33 .f64 part d p hp
  have rx := fun w => run_addn hx 33 w
  have hoz := fun w => nanT_neq w z p
  clear hsame hab HZ hd hp hx
  go_region_held3 (fun wx => wx.cell? ⟨g1, low, none⟩ = some (.float .f64 z) ∧ wx.cell? ⟨g1, hi, none⟩ = some (.float .f64 b)) (go_keep)
   (first | (go_at_call 14; refine (HSA.out _).mono ?_; rintro e w5 ⟨rfl, rfl⟩))
  go_wp2_with fail
  have ca3 : w2.drew.cell? ⟨g1, low, none⟩ = some (.float .f64 z) := ca2
  have cb3 : w2.drew.cell? ⟨g1, hi, none⟩ = some (.float .f64 b) := cb2
  have ca4 : w2.drew.drew.cell? ⟨g1, low, none⟩ = some (.float .f64 z) := ca2
  have ca5 : w2.drew.drew.drew.cell? ⟨g1, low, none⟩ = some (.float .f64 z) := ca2
  go_region_held3 (fun wx => wx.cell? ⟨g1, low, none⟩ = some (.float .f64 z) ∧ wx.cell? ⟨g1, hi, none⟩ = some (.float .f64 b)) (go_keep) (first | fail)
  go_wp2_with fail
  go_ret2
  exact ⟨rfl, K2.out.drew.drew.drew⟩


theorem sortK_get {l : List Nat} {i j : Nat} {x y : Nat} (hi : (sortK l)[i]? = some x) (hj : (sortK l)[j]? = some y) (h : i ≤ j) : keyB x ≤ keyB y := by
 obtain ⟨a, rfl⟩ := List.getElem?_eq_some_iff.1 hi
 obtain ⟨b, rfl⟩ := List.getElem?_eq_some_iff.1 hj
 rcases Nat.lt_or_ge i j with hlt | hge
 ·exact List.pairwise_iff_getElem.1 (sortK_pair l) i j a b hlt
 ·obtain rfl : i = j := by omega
  exact Nat.le_refl _
theorem q_range {q : Nat} (hq : q < 18446744073709551616) (hq0 : (FloatKind.f64.format.order q 0 == some .gt || FloatKind.f64.format.order q 0 == some .eq) = true)
  (hq1 : (FloatKind.f64.format.order q 4607182418800017408 == some .lt || FloatKind.f64.format.order q 4607182418800017408 == some .eq) = true) : FinB q ∧ 0 ≤ rv q ∧ rv q ≤ (T1 : Int) := by
 have e0 : double.order q 0 = some .gt ∨ double.order q 0 = some .eq := (Bool.or_eq_true_iff.1 hq0).imp eq_of_beq eq_of_beq
 have e1 : double.order q 4607182418800017408 = some .lt ∨ double.order q 4607182418800017408 = some .eq := (Bool.or_eq_true_iff.1 hq1).imp eq_of_beq eq_of_beq
 obtain ⟨o1, o2⟩ := one_fin
 have hf : FinB q := by
  rcases kinds hq with hN | ⟨-, hI⟩ | ⟨-, hF⟩
  ·rw [nan_order hN] at e0; rcases e0 with e | e <;> cases e
  ·exfalso
   obtain ⟨m, i, r1, -⟩ := read_fin zero_fin.1
   obtain ⟨n, j, r2, -⟩ := read_fin o1
   unfold Format.order at e0 e1
   rw [read_inf hq hI, r1] at e0
   rw [read_inf hq hI, r2] at e1
   cases hs : negB q
   ·rw [hs] at e1; rcases e1 with e | e <;> cases e
   ·rw [hs] at e0; rcases e0 with e | e <;> cases e
  ·exact hF
 rw [order_fin hf zero_fin.1, zero_fin.2] at e0
 rw [order_fin hf o1, o2] at e1
 refine ⟨hf, ?_, ?_⟩
 ·rcases e0 with e | e
  ·have := Int.compare_eq_gt.1 (Option.some.inj e); omega
  ·have := Int.compare_eq_eq.1 (Option.some.inj e); omega
 ·rcases e1 with e | e
  ·have := Int.compare_eq_lt.1 (Option.some.inj e); omega
  ·have := Int.compare_eq_eq.1 (Option.some.inj e); omega
set_option maxRecDepth 100000 in
theorem q76_nil (w : World) (q : Nat) : Calls Tryz.prog 76 #[.slice none 0 0, .float .f64 q] w fun e w' => e = .returned (.tuple #[.float .f64 0, .int .i64 14]) ∧ Chg [] w w' := by
 go_enter Tryz.func76, Tryz.ntmps76
 go_wp2_with fail
 go_ret2
 exact ⟨rfl, Chg.refl _ _⟩
set_option maxRecDepth 100000 in
theorem q70_nil (w : World) (q : Nat) : Calls Tryz.prog 70 #[.slice none 0 0, .float .f64 q] w fun e w' => e = .returned (.tuple #[.float .f64 0, .int .i64 14]) ∧ Chg [] w w' := by
 go_enter Tryz.func70, Tryz.ntmps70
 go_wp2_with fail
 go_ret2
 exact ⟨rfl, Chg.refl _ _⟩
set_option maxRecDepth 100000 in
theorem q76_out (w : World) {pa : Option Addr} {n cp q : Nat} (hn : 0 < n)
  (h : ((FloatKind.f64.format.order q 0 == some .gt || FloatKind.f64.format.order q 0 == some .eq) && (FloatKind.f64.format.order q 4607182418800017408 == some .lt || FloatKind.f64.format.order q 4607182418800017408 == some .eq)) = false) :
  Calls Tryz.prog 76 #[.slice pa n cp, .float .f64 q] w fun e w' => e = .returned (.tuple #[.float .f64 0, .int .i64 1]) ∧ Chg [] w w' := by
 have hn0 : ((n : Int) == 0) = false := beq_false_of_ne (by omega)
 cases h0 : (FloatKind.f64.format.order q 0 == some .gt || FloatKind.f64.format.order q 0 == some .eq)
 ·clear h
  go_enter Tryz.func76, Tryz.ntmps76
  go_wp2_with fail
  go_ret2
  exact ⟨rfl, Chg.refl _ _⟩
 ·rw [h0, Bool.true_and] at h
  go_enter Tryz.func76, Tryz.ntmps76
  go_wp2_with fail
  go_ret2
  exact ⟨rfl, Chg.refl _ _⟩
set_option maxRecDepth 100000 in
theorem q70_out (w : World) {pa : Option Addr} {n cp q : Nat} (hn : 0 < n)
  (h : (FloatKind.f64.format.order q q != some .eq || FloatKind.f64.format.order q 0 == some .lt || FloatKind.f64.format.order q 4607182418800017408 == some .gt) = true) :
  Calls Tryz.prog 70 #[.slice pa n cp, .float .f64 q] w fun e w' => e = .returned (.tuple #[.float .f64 0, .int .i64 1]) ∧ Chg [] w w' := by
 have hn0 : ((n : Int) == 0) = false := beq_false_of_ne (by omega)
 cases h0 : (FloatKind.f64.format.order q q != some .eq)
 ·cases h1 : (FloatKind.f64.format.order q 0 == some .lt)
  ·rw [h0, h1, Bool.false_or, Bool.false_or] at h
   go_enter Tryz.func70, Tryz.ntmps70
   go_wp2_with fail
   go_ret2
   exact ⟨rfl, Chg.refl _ _⟩
  ·clear h
   go_enter Tryz.func70, Tryz.ntmps70
   go_wp2_with fail
   go_ret2
   exact ⟨rfl, Chg.refl _ _⟩
 ·clear h
  go_enter Tryz.func70, Tryz.ntmps70
  go_wp2_with fail
  go_ret2
  exact ⟨rfl, Chg.refl _ _⟩
set_option maxRecDepth 100000 in
set_option maxHeartbeats 2000000 in
theorem q76_nan (w : World) {g o n cp m : Nat} {l : List Nat} {q zl : Nat} (hl : l.length = n) (hm : n = m + 1) (hn2 : n ≤ 100000) (hF : Fl w (some ⟨g, o, none⟩) l) (hc : ∀ x ∈ l, CanB x)
  (hq0 : (FloatKind.f64.format.order q 0 == some .gt || FloatKind.f64.format.order q 0 == some .eq) = true)
  (hq1 : (FloatKind.f64.format.order q 4607182418800017408 == some .lt || FloatKind.f64.format.order q 4607182418800017408 == some .eq) = true)
  (hlast : (sortK l)[m]? = some zl) (hzn : isNaNB zl = true) :
  Calls Tryz.prog 76 #[.slice (some ⟨g, o, none⟩) n cp, .float .f64 q] w fun e w' => e = .returned (.tuple #[.float .f64 nanB, .int .i64 0]) ∧ Chg [] w w' := by
 have HS := Lib.hid (fsort_any w (cp := cp) hl (by omega) (by omega) hF hc)
 have hn0 : ((n : Int) == 0) = false := beq_false_of_ne (by omega)
 have hor := order_fmt zl
 rw [hzn] at hor
 have hw1 : IntKind.i64.wrap ((n : Int) - 1) = (m : Int) := by rw [IntKind.wrap_i64]; omega
 have hw2 : wrap64 ((n : Int) - 1) = (m : Int) := by unfold wrap64; omega
 have lm : (m : Int) < (n : Int) := by omega
 have pm : (0 : Int) ≤ (m : Int) := by omega
 have HP := Lib.hid (fun w => plain_any zl w)
 rw [show canB zl = nanB from if_pos hzn] at HP
 have HL := Lib.hid hlast
 clear hl hm hF hc hlast hzn
 go_enter Tryz.func76, Tryz.ntmps76
 go_wp2_with fail
 refine HS.out.mono ?_
 rintro e w1 ⟨g1, c1, rfl, hg1, hc1, k1, hF1⟩
 have cm : w1.cell? ⟨g1, m, none⟩ = some (.float .f64 zl) := by
  obtain ⟨hj, e⟩ := List.getElem?_eq_some_iff.1 HL.out
  have := fl_at hF1 m hj
  rw [Nat.zero_add, e] at this
  exact this
 have K1 := Lib.hid k1
 clear hF1 k1 HS
 go_wp2_with fail
 go_region_held3 (fun wx => wx.cell? ⟨g1, m, none⟩ = some (.float .f64 zl)) (go_keep) (first | fail)
 have cm2 : w1.drew.cell? ⟨g1, m, none⟩ = some (.float .f64 zl) := cm
 go_wp2_with fail
 refine (HP.out _).mono ?_
 rintro e w3 ⟨rfl, rfl⟩
 go_wp2_with fail
 go_ret2
 exact ⟨rfl, K1.out.drew⟩
set_option maxRecDepth 100000 in
theorem rfrom_nan (w : World) : Calls Tryz.prog 48 #[.int .u64 9221120237041090560] w fun e w' => e = .returned (.float .f64 nanB) ∧ w = w' := by
 have h := rfrom_any 9221120237041090560 w (by decide)
 rw [show canB 9221120237041090560 = nanB from by decide] at h
 exact h
set_option maxRecDepth 100000 in
set_option maxHeartbeats 2000000 in
theorem q70_nan (w : World) {g o n cp m : Nat} {l : List Nat} {q zl : Nat} (hl : l.length = n) (hm : n = m + 1) (hn2 : n ≤ 100000) (hF : Fl w (some ⟨g, o, none⟩) l) (hc : ∀ x ∈ l, CanB x)
  (hqq : (FloatKind.f64.format.order q q != some .eq) = false) (hq0 : (FloatKind.f64.format.order q 0 == some .lt) = false) (hq1 : (FloatKind.f64.format.order q 4607182418800017408 == some .gt) = false)
  (hlast : (sortK l)[m]? = some zl) (hzn : isNaNB zl = true) :
  Calls Tryz.prog 70 #[.slice (some ⟨g, o, none⟩) n cp, .float .f64 q] w fun e w' => e = .returned (.tuple #[.float .f64 nanB, .int .i64 0]) ∧ Chg [] w w' := by
 have HS := Lib.hid (rsort_any w (cp := cp) hl (by omega) hn2 hF hc)
 have hn0 : ((n : Int) == 0) = false := beq_false_of_ne (by omega)
 have hor := order_fmt zl
 rw [hzn] at hor
 have hw1 : IntKind.i64.wrap ((n : Int) - 1) = (m : Int) := by rw [IntKind.wrap_i64]; omega
 have hw2 : wrap64 ((n : Int) - 1) = (m : Int) := by unfold wrap64; omega
 have lm : (m : Int) < (n : Int) := by omega
 have pm : (0 : Int) ≤ (m : Int) := by omega
 have HL := Lib.hid hlast
 clear hl hm hF hc hlast hzn
 go_enter Tryz.func70, Tryz.ntmps70
 go_wp2_with fail
 refine HS.out.mono ?_
 rintro e w1 ⟨g1, c1, rfl, k1, hF1⟩
 have cm : w1.cell? ⟨g1, m, none⟩ = some (.float .f64 zl) := by
  obtain ⟨hj, e⟩ := List.getElem?_eq_some_iff.1 HL.out
  have := fl_at hF1 m hj
  rw [Nat.zero_add, e] at this
  exact this
 have K1 := Lib.hid k1
 clear hF1 k1 HS
 go_wp2_with fail
 go_region_held3 (fun wx => wx.cell? ⟨g1, m, none⟩ = some (.float .f64 zl)) (go_keep) (first | fail)
 go_wp2_with fail
 refine (rfrom_nan _).mono ?_
 rintro e w3 ⟨rfl, rfl⟩
 go_wp2_with fail
 go_ret2
 exact ⟨rfl, K1.out.drew⟩
theorem quant_both {l : List Nat} {q : Nat} (hl : l.length ≤ 2000) (hc : ∀ x ∈ l, CanB x) (hq : q < 18446744073709551616) : ∃ z k : Nat,
  (∀ w pa cp, SlF w pa cp l → Calls Tryz.prog 76 #[.slice pa l.length cp, .float .f64 q] w fun e w' => e = .returned (.tuple #[.float .f64 z, .int .i64 k]) ∧ Chg [] w w') ∧
  (∀ w pa cp, SlF w pa cp l → Calls Tryz.prog 70 #[.slice pa l.length cp, .float .f64 q] w fun e w' => e = .returned (.tuple #[.float .f64 z, .int .i64 k]) ∧ Chg [] w w') := by
 by_cases hne : l = []
 ·subst hne
  refine ⟨0, 14, fun w pa cp h => ?_, fun w pa cp h => ?_⟩
  ·rcases h with ⟨-, rfl, rfl⟩ | ⟨h, -⟩
   ·exact q76_nil w q
   ·exact absurd rfl h
  ·rcases h with ⟨-, rfl, rfl⟩ | ⟨h, -⟩
   ·exact q70_nil w q
   ·exact absurd rfl h
 have hpos : 0 < l.length := List.length_pos_iff.2 hne
 have hout := q_out hq one_fin.1
 cases h : ((FloatKind.f64.format.order q 0 == some .gt || FloatKind.f64.format.order q 0 == some .eq) && (FloatKind.f64.format.order q 4607182418800017408 == some .lt || FloatKind.f64.format.order q 4607182418800017408 == some .eq))
 ·rw [h] at hout
  exact ⟨0, 1, fun w pa cp _ => q76_out w hpos h, fun w pa cp _ => q70_out w hpos hout⟩
 rw [h] at hout
 obtain ⟨hq0, hq1⟩ := (Bool.and_eq_true_iff).1 h
 rw [Bool.not_true, Bool.or_eq_false_iff, Bool.or_eq_false_iff] at hout
 obtain ⟨⟨hr0, hr1⟩, hr2⟩ := hout
 obtain ⟨m, hm⟩ : ∃ m, l.length = m + 1 := ⟨l.length - 1, by omega⟩
 have hlen : (sortK l).length = m + 1 := by rw [sortK_len, hm]
 have hin : ∀ {j x}, (sortK l)[j]? = some x → x ∈ l := fun h => (sortK_perm l).mem_iff.1 (List.mem_of_getElem? h)
 have get : ∀ {w pa cp}, SlF w pa cp l → ∃ g o, pa = some ⟨g, o, none⟩ ∧ Fl w (some ⟨g, o, none⟩) l := fun h => by
  rcases h with ⟨h, -⟩ | ⟨-, -, g, o, e, hF, -⟩
  ·exact absurd h hne
  ·exact ⟨g, o, e, hF⟩
 obtain ⟨zl, hzl⟩ : ∃ zl, (sortK l)[m]? = some zl := ⟨_, List.getElem?_eq_getElem (by omega)⟩
 cases hzn : isNaNB zl
 rotate_left
 ·refine ⟨nanB, 0, fun w pa cp hS => ?_, fun w pa cp hS => ?_⟩
  ·obtain ⟨g, o, rfl, hF⟩ := get hS
   exact q76_nan w rfl hm (by omega) hF hc hq0 hq1 hzl hzn
  ·obtain ⟨g, o, rfl, hF⟩ := get hS
   exact q70_nan w rfl hm (by omega) hF hc hr0 hr1 hr2 hzl hzn
 obtain ⟨qf, q0, q1⟩ := q_range hq hq0 hq1
 have hM := wh_int (n := (m : Int)) (by omega)
 have hT := T1_posI
 obtain ⟨k, ek, kf, k0, k1⟩ := mul_part qf hM.1 q0 q1 (by rw [hM.2]; exact Int.mul_nonneg (by omega) (Int.le_of_lt hT))
 rw [hM.2] at k1
 obtain ⟨low, hlm, hlow, l0, l1⟩ := floor_wh kf k0 k1
 have hL := wh_int (n := (low : Int)) (by omega)
 obtain ⟨part, ep, pf, p0, p1⟩ := sub_between kf hL.1 zero_fin.1 one_fin.1 (by rw [zero_fin.2, hL.2]; omega) (by rw [one_fin.2, hL.2]; exact l1)
 obtain ⟨a, ha⟩ : ∃ a, (sortK l)[low]? = some a := ⟨_, List.getElem?_eq_getElem (by omega)⟩
 obtain ⟨b, hb⟩ : ∃ b, (sortK l)[min (low + 1) m]? = some b := ⟨_, List.getElem?_eq_getElem (by omega)⟩
 have hpz := part_zero kf hL.1 ep pf
 have ca := hc a (hin ha)
 have cb := hc b (hin hb)
 have nan_top : ∀ {j x}, (sortK l)[j]? = some x → isNaNB x = false := fun {j x} hj => by
  cases hx : isNaNB x
  ·rfl
  ·exfalso
   have hjm := (List.getElem?_eq_some_iff.1 hj).1
   have h1 := sortK_get hj hzl (by omega)
   have e := (hc x (hin hj)).2 hx
   have hz := (hc zl (hin hzl)).1
   rw [e] at h1
   have hk : keyB nanB = 18444492273895866368 := by decide
   rw [hk] at h1
   unfold keyB at h1
   have hn := of_decide_eq_false hzn
   unfold magB at hn
   split at h1 <;> omega
 have fin : ∀ z, ((a = b ∧ z = a) ∨ (a ≠ b ∧ (FloatKind.f64.format.order part 0 == some .eq) = true ∧ z = a) ∨
   (a ≠ b ∧ (FloatKind.f64.format.order part 0 == some .eq) = false ∧ ∃ d p, floatBits .sub .f64 b a = some d ∧ floatBits .mul .f64 part d = some p ∧ floatBits .add .f64 a p = some z ∧ isNaNB z = false) ∨
   (a ≠ b ∧ (FloatKind.f64.format.order part 0 == some .eq) = false ∧ ∃ d p, floatBits .sub .f64 b a = some d ∧ floatBits .mul .f64 part d = some p ∧ floatBits .add .f64 a p = none ∧ z = a)) →
   ∃ z k : Nat,
  (∀ w pa cp, SlF w pa cp l → Calls Tryz.prog 76 #[.slice pa l.length cp, .float .f64 q] w fun e w' => e = .returned (.tuple #[.float .f64 z, .int .i64 k]) ∧ Chg [] w w') ∧
  (∀ w pa cp, SlF w pa cp l → Calls Tryz.prog 70 #[.slice pa l.length cp, .float .f64 q] w fun e w' => e = .returned (.tuple #[.float .f64 z, .int .i64 k]) ∧ Chg [] w w') := by
  intro z hz
  refine ⟨z, 0, fun w pa cp hS => ?_, fun w pa cp hS => ?_⟩
  ·obtain ⟨g, o, rfl, hF⟩ := get hS
   exact quant4 w rfl hm (by omega) hF hc hq0 hq1 hzl hzn ek (fin_not_nan kf) hlow hlm ep ha rfl hb hz
  ·obtain ⟨g, o, rfl, hF⟩ := get hS
   rw [hpz] at hz
   exact rquant4 w rfl hm (by omega) hF hc hr0 hr1 hr2 hzl hzn ek (fin_not_nan kf) hlow hlm ep ha rfl hb hz
 by_cases c1 : a = b
 ·exact fin a (Or.inl ⟨c1, rfl⟩)
 ·cases c2 : (FloatKind.f64.format.order part 0 == some .eq)
  ·have hp0 : rv part ≠ 0 := fun e => by
    have o1 : FloatKind.f64.format.order part 0 = some (compare (rv part) (rv 0)) := order_fin pf zero_fin.1
    rw [o1, e, zero_fin.2, Int.compare_eq_eq.2 rfl] at c2
    cases c2
   obtain ⟨d, ed, nd, ld⟩ := sub_num ca.1 (nan_top ha) cb.1 (nan_top hb) c1
   obtain ⟨p, epp, np, lp⟩ := mul_num pf hp0 ld nd
   rcases add_num ca.1 (nan_top ha) lp np with e | ⟨z, ez, nz, lz⟩
   ·exact fin a (Or.inr (Or.inr (Or.inr ⟨c1, c2, d, p, ed, epp, e, rfl⟩)))
   ·exact fin z (Or.inr (Or.inr (Or.inl ⟨c1, c2, d, p, ed, epp, ez, nz⟩)))
  ·exact fin a (Or.inr (Or.inl ⟨c1, c2, rfl⟩))

theorem same_true (x : Nat) (w : World) : Calls Tryz.prog 14 #[.float .f64 x, .float .f64 x] w fun e w' => e = .returned (.bool true) ∧ w = w' := by
 have := same_any' x x w
 rw [beq_self_eq_true] at this
 exact this
theorem nums_true (w : World) {pa pb : Option Addr} {ca cb : Nat} {l : List Nat} (hl : l.length ≤ 2000) (hA : SlF w pa ca l) (hB : SlF w pb cb l) :
  Calls Tryz.prog 23 #[.slice pa l.length ca, .slice pb l.length cb] w fun e w' => e = .returned (.bool true) ∧ Chg [] w w' := by
 have h1 : l.length ≤ ca ∧ Fl w pa l := by
  rcases hA with ⟨rfl, rfl, rfl⟩ | ⟨_, h, g, o, rfl, hF⟩
  ·exact ⟨Nat.le_refl _, Or.inl rfl⟩
  ·exact ⟨h, hF.1⟩
 have h2 : l.length ≤ cb ∧ Fl w pb l := by
  rcases hB with ⟨rfl, rfl, rfl⟩ | ⟨_, h, g, o, rfl, hF⟩
  ·exact ⟨Nat.le_refl _, Or.inl rfl⟩
  ·exact ⟨h, hF.1⟩
 exact nums_same w (by omega) rfl rfl h1.1 h2.1 rfl h1.2 h2.2
theorem ansL_can {c : Nat → Nat} (h : ∀ i, CanB (c i)) (f n : Int) : ∀ x ∈ ansL c f n, CanB x := by
 unfold ansL
 split
 ·exact cellsC_can h _ _
 ·intro x hx; cases hx
set_option maxRecDepth 100000 in
set_option maxHeartbeats 20000000 in
theorem law5_any (w : World) {pa : Option Addr} {N cp q : Nat} {l : List (Int × Nat)} (f n cl : Int) (hl : l.length = N) (hA : ArgX w pa l) (hx : ∀ x ∈ l, x.2 < 18446744073709551616) (hq : q < 18446744073709551616) :
  Calls Tryz.prog 5 #[.slice pa N cp, .int .i64 f, .int .i64 n, .float .f64 q, .int .i64 cl] w fun e w' => e = .returned (.bool true) ∧ Chg [] w w' := by
 have HS := Lib.hid (small_any w (pa := pa) (N := N) (cp := cp))
 have HAW := Lib.hid (fun w => awake27 w)
 by_cases h1 : N ≤ 60
 rotate_left
 ·have d1 : decide ((N : Int) ≤ 60) = false := decide_eq_false (by omega)
  rw [d1] at HS
  clear hA hx
  go_enter Tryz.func5, Tryz.ntmps5
  go_wp2_with fail
  refine HS.out.mono ?_
  rintro e w1 ⟨rfl, rfl⟩
  go_wp2_with fail
  refine (HAW.out _).mono ?_
  rintro e w1 ⟨rfl, k1⟩
  go_wp2_with fail
  go_ret
  exact ⟨rfl, k1⟩
 have d1 : decide ((N : Int) ≤ 60) = true := decide_eq_true (by omega)
 rw [d1] at HS
 clear d1
 obtain ⟨c, hc⟩ : ∃ c, c = putC (fun _ => 0) l := ⟨_, rfl⟩
 have hcan : ∀ i, CanB (c i) := by rw [hc]; exact putC_can (fun _ => can_zero) (fun y hy => hx y hy)
 have HFR := Lib.hid (fresh_any w (cp := cp) hl h1 hA hx)
 have HCC := Lib.hid hc
 have hLc := ansL_can hcan f n
 have hLn := ansL_len c f n
 obtain ⟨qz, qk, hq76, hq70⟩ := quant_both hLn hLc hq
 have HQ76 := Lib.hid hq76
 have HQ70 := Lib.hid hq70
 have HLC := Lib.hid hLc
 have HLN := Lib.hid hLn
 obtain ⟨E, hE⟩ : ∃ E, E = ansE f n := ⟨_, rfl⟩
 have HE := Lib.hid hE
 have HSM := Lib.hid same_true
 clear hA hx hl hc hcan hLc hLn hq76 hq70 hE hq
 go_enter Tryz.func5, Tryz.ntmps5
 go_wp2_with fail
 refine HS.out.mono ?_
 rintro e w0 ⟨rfl, rfl⟩
 go_wp2_with fail
 refine HFR.out.mono ?_
 rintro e w1 ⟨m, P, G, rfl, hm, k1, hfo⟩
 have hm100 : m ≤ 100 := by omega
 rw [← HCC.out] at hfo
 obtain ⟨hd, hhd⟩ : ∃ hd : Int, hd = ((m + 1 : Nat) : Int) := ⟨_, rfl⟩
 have J0 : Jx w m P G c (ansF f) 0 (fun _ => True) w1 := ⟨⟨0, 0, AsO.of_fro hfo _, by omega, by omega⟩, k1, trivial⟩
 have AS : ∀ i, i ≤ 20 → ∀ R, KR R → Ask 15 P hd f n (Jx w m P G c (ansF f) i R) (Jx w m P G c (ansF f) (i + 1) R) (ansL c f n) E := fun i hi R hR => by rw [hhd, HE.out]; exact ask_s hR hi f n
 have AR : ∀ i, i ≤ 20 → ∀ R, KR R → Ask 25 G hd f n (Jx w m P G c (ansF f) i R) (Jx w m P G c (ansF f) (i + 1) R) (ansL c f n) E := fun i hi R hR => by rw [hhd, HE.out]; exact ask_r hR hi hm100 f n
 obtain ⟨L, hL⟩ : ∃ L, L = ansL c f n := ⟨_, rfl⟩
 rw [← hL] at HLC HLN HQ76 HQ70
 simp only [← hL] at AS AR
 have HAS := Lib.hid AS
 have HAR := Lib.hid AR
 obtain ⟨M, hM⟩ : ∃ M, M = L.length := ⟨_, rfl⟩
 have HM := Lib.hid hM
 have HC := Lib.hid (HAS.out 0 (by omega) _ kr_true _ J0)
 rw [← HM.out] at HC
 rw [← hhd]
 clear HFR hfo k1 J0 AS AR hL hhd hM HS HCC HE hm
 go_wp2_with fail
 refine HC.out.mono ?_
 rintro e w2 ⟨pc, cc, rfl, hSc, hJ1⟩
 have HC := Lib.hid (HAR.out 1 (by omega) _ (kr_slf (pa := pc) (cp := cc) (l := L)) _ (hJ1.turn hSc))
 rw [← HM.out] at HC
 clear hSc hJ1
 go_wp2_with fail
 refine HC.out.mono ?_
 rintro e w3 ⟨pd, cd, rfl, hSd, hJ2⟩
 have HKR := Lib.hid (kr_and (kr_slf (pa := pc) (cp := cc) (l := L)) (kr_slf (pa := pd) (cp := cd) (l := L)))
 have HKC := Lib.hid (fun (i : Nat) (wa wb : World) (h : Jx w m P G c (ansF f) i (fun w => SlF w pc cc L ∧ SlF w pd cd L) wa) (k : Chg [] wa wb) => h.keep HKR.out k)
 have HJ : Hid (Jx w m P G c (ansF f) 2 (fun w => SlF w pc cc L ∧ SlF w pd cd L) w3) := Lib.hid ⟨hJ2.1, hJ2.2.1, hJ2.2.2, hSd⟩
 clear HC hSd hJ2
 obtain ⟨x1, hx1⟩ : ∃ x : Nat, x = anV E (sumC L) := ⟨_, rfl⟩
 obtain ⟨y1, hy1⟩ : ∃ y : Nat, y = anK E 0 := ⟨_, rfl⟩
 have HC := Lib.hid (pq_sum w3 (HAS.out 2 (by omega) _ HKR.out) (HKC.out 3) HLC.out HLN.out HJ.out)
 rw [← hx1, ← hy1] at HC
 have HX1 := Lib.hid hx1
 have HY1 := Lib.hid hy1
 clear HJ hx1 hy1
 go_wp2_with fail
 refine HC.out.mono ?_
 rintro e w4 ⟨rfl, hj⟩
 have HJ := Lib.hid hj
 clear HC hj
 have HC := Lib.hid (rq_sum w4 (HAR.out 3 (by omega) _ HKR.out) (HKC.out 4) HLC.out HLN.out HJ.out)
 rw [← HX1.out, ← HY1.out] at HC
 clear HJ
 go_wp2_with fail
 refine HC.out.mono ?_
 rintro e w5 ⟨rfl, hj⟩
 have HJ := Lib.hid hj
 clear HC hj
 clear HX1 HY1
 obtain ⟨x2, hx2⟩ : ∃ x : Nat, x = anV E (mV meanC L) := ⟨_, rfl⟩
 obtain ⟨y2, hy2⟩ : ∃ y : Nat, y = anK E (mK L) := ⟨_, rfl⟩
 have HC := Lib.hid (pq_mean w5 (HAS.out 4 (by omega) _ HKR.out) (HKC.out 5) HLC.out HLN.out HJ.out)
 rw [← hx2, ← hy2] at HC
 have HX2 := Lib.hid hx2
 have HY2 := Lib.hid hy2
 clear HJ hx2 hy2
 go_wp2_with fail
 refine HC.out.mono ?_
 rintro e w6 ⟨rfl, hj⟩
 have HJ := Lib.hid hj
 clear HC hj
 have HC := Lib.hid (rq_mean w6 (HAR.out 5 (by omega) _ HKR.out) (HKC.out 6) HLC.out HLN.out HJ.out)
 rw [← HX2.out, ← HY2.out] at HC
 clear HJ
 go_wp2_with fail
 refine HC.out.mono ?_
 rintro e w7 ⟨rfl, hj⟩
 have HJ := Lib.hid hj
 clear HC hj
 clear HX2 HY2
 obtain ⟨x3, hx3⟩ : ∃ x : Nat, x = anV E (mV minB L) := ⟨_, rfl⟩
 obtain ⟨y3, hy3⟩ : ∃ y : Nat, y = anK E (mK L) := ⟨_, rfl⟩
 have HC := Lib.hid (pq_least w7 (HAS.out 6 (by omega) _ HKR.out) (HKC.out 7) HLC.out HLN.out HJ.out)
 rw [← hx3, ← hy3] at HC
 have HX3 := Lib.hid hx3
 have HY3 := Lib.hid hy3
 clear HJ hx3 hy3
 go_wp2_with fail
 refine HC.out.mono ?_
 rintro e w8 ⟨rfl, hj⟩
 have HJ := Lib.hid hj
 clear HC hj
 have HC := Lib.hid (rq_least w8 (HAR.out 7 (by omega) _ HKR.out) (HKC.out 8) HLC.out HLN.out HJ.out)
 rw [← HX3.out, ← HY3.out] at HC
 clear HJ
 go_wp2_with fail
 refine HC.out.mono ?_
 rintro e w9 ⟨rfl, hj⟩
 have HJ := Lib.hid hj
 clear HC hj
 clear HX3 HY3
 obtain ⟨x4, hx4⟩ : ∃ x : Nat, x = anV E (mV maxB L) := ⟨_, rfl⟩
 obtain ⟨y4, hy4⟩ : ∃ y : Nat, y = anK E (mK L) := ⟨_, rfl⟩
 have HC := Lib.hid (pq_most w9 (HAS.out 8 (by omega) _ HKR.out) (HKC.out 9) HLC.out HLN.out HJ.out)
 rw [← hx4, ← hy4] at HC
 have HX4 := Lib.hid hx4
 have HY4 := Lib.hid hy4
 clear HJ hx4 hy4
 go_wp2_with fail
 refine HC.out.mono ?_
 rintro e w10 ⟨rfl, hj⟩
 have HJ := Lib.hid hj
 clear HC hj
 have HC := Lib.hid (rq_most w10 (HAR.out 9 (by omega) _ HKR.out) (HKC.out 10) HLC.out HLN.out HJ.out)
 rw [← HX4.out, ← HY4.out] at HC
 clear HJ
 go_wp2_with fail
 refine HC.out.mono ?_
 rintro e w11 ⟨rfl, hj⟩
 have HJ := Lib.hid hj
 clear HC hj
 clear HX4 HY4
 obtain ⟨x5, hx5⟩ : ∃ x : Nat, x = anV E qz := ⟨_, rfl⟩
 obtain ⟨y5, hy5⟩ : ∃ y : Nat, y = anK E qk := ⟨_, rfl⟩
 have HC := Lib.hid (pq_quant w11 (z := qz) (k := qk) (fun B => Ask.and (fun R hR => HAS.out 10 (by omega) R hR) HKR.out (kr_blk (B := B) (q := q))) (HKC.out 11) (HKC.out 10) HQ76.out HJ.out)
 rw [← hx5, ← hy5] at HC
 have HX5 := Lib.hid hx5
 have HY5 := Lib.hid hy5
 clear HJ hx5 hy5
 go_wp2_with fail
 refine HC.out.mono ?_
 rintro e w12 ⟨rfl, hj⟩
 have HJ := Lib.hid hj
 clear HC hj
 have HC := Lib.hid (rq_quant w12 (z := qz) (k := qk) (HAR.out 11 (by omega) _ HKR.out) (HKC.out 12) HQ70.out HJ.out)
 rw [← HX5.out, ← HY5.out] at HC
 clear HJ
 go_wp2_with fail
 refine HC.out.mono ?_
 rintro e w13 ⟨rfl, hj⟩
 have HJ := Lib.hid hj
 clear HC hj
 clear HX5 HY5
 obtain ⟨x6, hx6⟩ : ∃ x : Nat, x = anV E (cntC cl L) := ⟨_, rfl⟩
 have HX6 := Lib.hid hx6
 have HC := Lib.hid (pq_count w13 cl (HAS.out 12 (by omega) _ HKR.out) HLC.out HLN.out HJ.out)
 rw [← HX6.out] at HC
 clear HJ hx6
 go_wp2_with fail
 refine HC.out.mono ?_
 rintro e w14 ⟨rfl, hj⟩
 have HJ := Lib.hid hj
 clear HC hj
 have HC := Lib.hid (rq_count w14 cl (HAR.out 13 (by omega) _ HKR.out) HLC.out HLN.out HJ.out)
 rw [← HX6.out] at HC
 clear HJ
 go_wp2_with fail
 refine HC.out.mono ?_
 rintro e w15 ⟨rfl, hj⟩
 have HJ := Lib.hid hj
 have HN := Lib.hid (nums_true w15 HLN.out hj.2.2.1 hj.2.2.2)
 rw [← HM.out] at HN
 clear HC hj
 go_wp2_with (first
  | (go_at_call 23; refine HN.out.mono ?_; rintro e wn ⟨rfl, kn⟩)
  | (go_at_call 14; refine (HSM.out _ _).mono ?_; rintro e wx ⟨rfl, rfl⟩))
 refine (HAW.out _).mono ?_
 rintro e wz ⟨rfl, kz⟩
 go_wp2_with fail
 go_ret
 exact ⟨rfl, (HJ.out.2.1.then kn).then kz⟩
end Go.Proofs.YtelakcjbknbehaaGreat
