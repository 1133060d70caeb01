/- Lemmas and walks. -/
import Derived.Test.YtelakcjbknbehaaGreatEe
import Derived.Test.YtelakcjbknbehaaGreatEf
import Derived.Test.YtelakcjbknbehaaGreatEg
namespace Go.Proofs.YtelakcjbknbehaaGreat
open Go.RowKit Go.Lib

def clrF (zs : Nat → List (List UInt8)) (a j : Nat) : Nat → List (List UInt8) := fun z => if a ≤ z ∧ z < j then [] else zs z
theorem clrF_zero (zs : Nat → List (List UInt8)) (a : Nat) : clrF zs a a = zs := funext fun z => by simp only [clrF]; rw [if_neg (by omega)]
theorem clrF_succ {zs : Nat → List (List UInt8)} {a j : Nat} (h : a ≤ j) : upF (clrF zs a j) j [] = clrF zs a (j + 1) := funext fun z => by
 simp only [upF, clrF]
 by_cases e : z = j
 ·rw [if_pos e, if_pos (by omega)]
 ·rw [if_neg e]
  by_cases h2 : a ≤ z ∧ z < j
  ·rw [if_pos h2, if_pos (by omega)]
  ·rw [if_neg h2, if_neg (by omega)]
theorem clrF_same {zs : Nat → List (List UInt8)} {a j : Nat} (h : a ≤ j) (hz : clrF zs a j j = []) : clrF zs a (j + 1) = clrF zs a j := by
 rw [← clrF_succ h]
 funext z
 simp only [upF]
 by_cases e : z = j
 ·subst e; rw [if_pos rfl, hz]
 ·rw [if_neg e]
theorem putF_zero (zs : Nat → List (List UInt8)) (a : Nat) (F : List (List UInt8)) : putF zs a F 0 = clrF zs a (a + 3) := funext fun z => by
 simp only [putF, clrF]
 by_cases h : a ≤ z ∧ z < a + 3
 ·rw [if_pos h, if_pos h]; simp
 ·rw [if_neg h, if_neg h]
def lenF (zs : Nat → List (List UInt8)) : Nat → Nat := fun z => (zs z).length
theorem lenF_up (zs : Nat → List (List UInt8)) (j : Nat) : upF (lenF zs) j 0 = lenF (upF zs j []) := by
 funext z
 simp only [upF, lenF]
 split <;> rfl
theorem DevG.good {w : World} {base N A c : Nat} {ops : Int} {Z : List Nat} {vs : Nat → Value} {gs : Nat → Nat} {zs : Nat → List (List UInt8)} (h : DevG w base N A c ops Z vs (goodF gs zs 8) zs) : DevG w base N A c ops Z vs (lenF zs) zs :=
 ⟨h.hdr, h.cap, h.len, h.tA, h.ptr, fun j hj => by
  have h1 := h.zone j hj
  have h2 : goodF gs zs 8 j = lenF zs j := by unfold goodF lenF; rw [if_pos (by have := h.len; omega)]
  rw [h2] at h1
  exact h1, h.rows, h.apart, h.nodup⟩
def DevZ (w : World) (base N A c : Nat) (ops : Int) (Z : List Nat) (zs : Nat → List (List UInt8)) : Prop := ∃ vs, DevG w base N A c ops Z vs (lenF zs) zs
theorem Dc.dev {lw : Nat} {w w' : World} {base N A c : Nat} {ops : Int} {Z : List Nat} {vs : Nat → Value} {gs : Nat → Nat} {zs : Nat → List (List UInt8)} {U : List Nat} (h : DevG w base N A c ops Z vs gs zs) (hc : Chg U w w') (hN : lw ≤ N) (hZ : ∀ z ∈ Z, lw ≤ z) (hb : lw ≤ base)
  (hU : ∀ x ∈ U, x = N ∨ x ∈ Z ∨ ∃ j, j < 8 ∧ (vs j).ownBlock = some x) : Dc lw w w' := by
 refine ⟨U, hc, fun x hx => ?_, fun x hx => ?_⟩
 ·rcases hU x hx with rfl | h2 | ⟨j, hj, h2⟩
  ·exact ⟨_, _, h.hdr, by simp⟩
  ·obtain ⟨i, hi, rfl⟩ := List.getElem_of_mem h2
   exact ⟨_, _, h.zone i hi, by simp⟩
  ·obtain ⟨cs, hh⟩ := (h.rows j hj).block x h2
   exact ⟨_, _, hh, by simp⟩
 ·rcases hU x hx with rfl | h2 | ⟨j, hj, h2⟩
  ·exact hN
  ·exact hZ x h2
  ·obtain ⟨xs, ho, -⟩ := h.rows j hj
   exact Nat.le_trans hb (own_elem ho h2).1
def SWr (w w' : World) (lw base N A c : Nat) (Z : List Nat) (ops : Int) (zs : Nat → List (List UInt8)) (a n : Nat) (l : List UInt8) : Prop :=
 ∃ ops', (ops ≤ ops' ∧ ops' ≤ ops + 300) ∧ DevZ w' base N A c ops' Z (putF zs a (encS n l) (encS n l).length) ∧ Dc lw w w'
set_option maxRecDepth 100000 in
set_option maxHeartbeats 8000000 in
theorem slwrite_any (w : World) {S N A c base lw n o cp : Nat} {inn : Int} {tv : Value} {cnt : Nat} {ops : Int} {Z : List Nat} {vs : Nat → Value} {gs : Nat → Nat} {zs : Nat → List (List UInt8)} {i a m D : Nat} {l : List UInt8}
  (hS : SlotG w S N inn tv cnt) (hd : DevG w base N A c ops Z vs gs zs) (h0 : 0 ≤ ops) (h1 : ops ≤ 900000) (hi : (i = 0 ∧ a = 0) ∨ (i = 1 ∧ a = 3)) (hn : n ≤ 1099511627776) (hb : Bs w (some ⟨D, o, none⟩) l) (hbt : Bt w D) (hl : l.length = m) (hm : m ≤ 11440) (hlow : base ≤ N) (hlw : lw ≤ base) (hZ : ∀ z ∈ Z, lw ≤ z) (hcp : m ≤ cp) :
  Calls Tryz.prog 125 #[.pointer (some ⟨S, 0, none⟩), .int .i64 i, .int .i64 n, .slice (some ⟨D, o, none⟩) m cp] w fun e w' => e = .returned (.int .i64 0) ∧ SWr w w' lw base N A c Z ops zs a n l := by
 have hlen8 := hd.len
 have c0 : w.cell? ⟨S, 0, none⟩ = some (.pointer (some ⟨N, 0, none⟩)) := cell_is hS 0 rfl
 have cA : w.cell? ⟨S, 1 + i, none⟩ = some (.int .i64 a) := by
  rcases hi with ⟨rfl, rfl⟩ | ⟨rfl, rfl⟩
  ·exact cell_is hS 1 rfl
  ·exact cell_is hS 2 rfl
 have n1 : IntKind.i64.wrap ((i : Int) + 1) = ((i + 1 : Nat) : Int) := by rw [IntKind.wrap_i64]; omega
 have hi1 : i ≤ 1 := by omega
 obtain ⟨e3, he3⟩ : ∃ e3, e3 = a + 3 := ⟨_, rfl⟩
 have HE3 := Lib.hid he3
 have he3a : a ≤ e3 ∧ e3 ≤ 6 := by omega
 clear he3
 have hi2 : (i : Int) < 3 := by omega
 have HI := Lib.hid hi
 have HS := Lib.hid hS
 have HD := Lib.hid (And.intro hd (And.intro hb hbt))
 have HB := Lib.hid (show lw ≤ N ∧ (∀ z ∈ Z, lw ≤ z) ∧ lw ≤ base ∧ base ≤ N from ⟨by omega, hZ, hlw, hlow⟩)
 clear hS hd hb hbt hi hZ
 go_enter Tryz.func125, Tryz.ntmps125
 go_wp2_with fail
 go_loopw [9, 10, 11, 12] (fun z _ _ _ wr => ∃ j : Nat, z = .int .i64 j ∧ (a ≤ j ∧ j ≤ e3) ∧ (∃ ops' vs' gs', (ops ≤ ops' ∧ ops' ≤ ops + (j - a : Nat)) ∧ DevG wr base N A c ops' Z vs' gs' (clrF zs a j)) ∧ Dc lw w wr) (fun z _ _ _ _ => e3 - (intOf z).toNat)
 case atStart => exact ⟨a, rfl, ⟨Nat.le_refl _, he3a.1⟩, ⟨ops, vs, gs, ⟨by omega, by omega⟩, by rw [clrF_zero]; exact HD.out.1⟩, Dc.of0 (Chg.refl _ _)⟩
 case round =>
  obtain ⟨j, rfl, ⟨hj0, hj1⟩, ⟨ops', vs', gs', ho, hd⟩, hdc⟩ := hrel
  have hSr : SlotG wr S N inn tv cnt := hdc.heap HS.out (by decide)
  have d0 : wr.cell? ⟨S, 0, none⟩ = some (.pointer (some ⟨N, 0, none⟩)) := cell_is hSr 0 rfl
  have dA : wr.cell? ⟨S, 1 + (i + 1), none⟩ = some (.int .i64 (e3 : Int)) := by
   rw [HE3.out]
   rcases HI.out with ⟨rfl, rfl⟩ | ⟨rfl, rfl⟩
   ·exact cell_is hSr 2 rfl
   ·exact cell_is hSr 3 rfl
  by_cases hlt : j < e3
  ·have hj8 : j < Z.length := by omega
   have HP := Lib.hid (pointer_ok wr hd j hj8)
   have HR := Lib.hid (dreset_any wr hd (by omega) (by omega) j hj8)
   have HW := Lib.hid (And.intro hd (And.intro ho hdc))
   have m1 : decide ((j : Int) < (e3 : Int)) = true := decide_eq_true (by omega)
   clear hd ho hdc c0 cA hSr
   obtain ⟨p, hp⟩ : ∃ p, p = (clrF zs a j j).length := ⟨_, rfl⟩
   rw [← hp] at HP
   have Hp := Lib.hid hp
   clear hp
   have m2 : IntKind.i64.wrap ((j : Int) + 1) = ((j + 1 : Nat) : Int) := by rw [IntKind.wrap_i64]; omega
   go_wp2_with fail
   refine HP.out.mono ?_
   rintro e w1 ⟨rfl, rfl⟩
   by_cases hp0 : 0 < p
   ·have m3 : decide (0 < (p : Int)) = true := decide_eq_true (by omega)
    go_wp2_with fail
    refine HR.out.mono ?_
    rintro e w2 ⟨rfl, k2, d2⟩
    have hnew : Hid ((∃ ops2 vs' gs', (ops ≤ ops2 ∧ ops2 ≤ ops + ((j + 1) - a : Nat)) ∧ DevG w2 base N A c ops2 Z vs' gs' (clrF zs a (j + 1))) ∧ Dc lw w w2) := Lib.hid (by
     obtain ⟨hd, ho, hdc⟩ := HW.out
     refine ⟨⟨ops' + 1, _, _, by omega, by rw [← clrF_succ hj0]; exact d2⟩, hdc.trans (Dc.dev hd k2 HB.out.1 HB.out.2.1 HB.out.2.2.1 (fun x hx => ?_))⟩
     simp only [List.mem_cons, List.not_mem_nil, or_false] at hx
     rcases hx with rfl | rfl
     ·exact Or.inl rfl
     ·exact Or.inr (Or.inl (List.getElem_mem _)))
    clear k2 d2 HR HP HW
    go_wp2_with fail
    go_roundw
    case rel => exact ⟨j + 1, rfl, ⟨by omega, by omega⟩, hnew.out.1, hnew.out.2⟩
    case measure => simp [intOf]; omega
   ·have m3 : decide (0 < (p : Int)) = false := decide_eq_false (by omega)
    have hnew : Hid ((∃ ops2 vs' gs', (ops ≤ ops2 ∧ ops2 ≤ ops + ((j + 1) - a : Nat)) ∧ DevG wr base N A c ops2 Z vs' gs' (clrF zs a (j + 1))) ∧ Dc lw w wr) := Lib.hid (by
     obtain ⟨hd, ho, hdc⟩ := HW.out
     have hz : clrF zs a j j = [] := List.length_eq_zero_iff.1 (by have := Hp.out; omega)
     exact ⟨⟨ops', _, _, by omega, by rw [clrF_same hj0 hz]; exact hd⟩, hdc⟩)
    clear HR HP HW
    go_wp2_with fail
    go_roundw
    case rel => exact ⟨j + 1, rfl, ⟨by omega, by omega⟩, hnew.out.1, hnew.out.2⟩
    case measure => simp [intOf]; omega
  ·have hje : j = e3 := by omega
   subst hje
   have m1 : decide ((j : Int) < (j : Int)) = false := decide_eq_false (by omega)
   have HW := Lib.hid (And.intro hd (And.intro ho hdc))
   clear hd ho hdc c0 cA hSr
   have hbr : Bs wr (some ⟨D, o, none⟩) l ∧ Bt wr D := by
    obtain ⟨U, u1, u2, -⟩ := HW.out.2.2
    have hn : D ∉ U := fun hm => by
     obtain ⟨cs, hh⟩ := HD.out.2.2
     obtain ⟨cs2, t2, e1, e2⟩ := u2 D hm
     rw [hh] at e1
     cases e1
     revert e2
     decide
    exact ⟨HD.out.2.1.chgT u1 hn, Bt.keep HD.out.2.2 u1 hn⟩
   have HT := Lib.hid hbr
   clear hbr
   go_wp2_with fail
   clear m1
   have kA : Chg [] wr (wr.alloc (.cells #[.int .i64 3, .int .i64 0, .int .i64 n, .int .i64 0, .slice none 0 0] 282)) := Chg.alloc wr _
   have yA := heap_new wr (.cells #[.int .i64 3, .int .i64 0, .int .i64 n, .int .i64 0, .slice none 0 0] 282)
   have hrow : RowF (wr.alloc (.cells #[.int .i64 3, .int .i64 0, .int .i64 n, .int .i64 0, .slice none 0 0] 282)) wr.heap.size n (.slice (some ⟨wr.heap.size, 0, none⟩) 1 1) (frmA l 0) := by
    refine ⟨[.int .i64 3, .int .i64 0, .int .i64 n, .int .i64 0, .slice none 0 0], ⟨rfl, Or.inr ⟨wr.heap.size, 1, _, rfl, Nat.le_refl _, yA, Nat.le_refl 1, by decide, rfl, rfl⟩⟩, fun i hi => ?_⟩
    have : i = 0 := by simp [frmA] at hi; omega
    subst this
    exact ⟨none, 0, rfl, rfl, rfl, rfl, rfl, Or.inl rfl⟩
   have HR0 := Lib.hid (And.intro hrow kA)
   clear hrow kA yA
   generalize hwA : wr.alloc (.cells #[.int .i64 3, .int .i64 0, .int .i64 n, .int .i64 0, .slice none 0 0] 282) = wA at *
   clear hwA
   go_loopw [13, 14] (fun v at_ wx => ∃ k p : Nat, at_ = .int .i64 (p : Int) ∧ (p = 40 * k ∧ k ≤ nCh m) ∧ RowF wx wr.heap.size n v (frmA l k) ∧ Chg [] wr wx) (fun _ at_ _ => m + 40 - (intOf at_).toNat)
   case atStart => exact ⟨0, 0, rfl, ⟨rfl, Nat.zero_le _⟩, HR0.out.1, HR0.out.2⟩
   case round =>
    obtain ⟨k, p, rfl, hpk, hrw, hcw⟩ := hrel
    rename World => wx
    have HPk := Lib.hid hpk
    have hpm : p ≤ m + 39 := by unfold nCh at hpk; omega
    clear hpk
    by_cases hkn : p < m
    ·have m1 : decide ((p : Int) < (m : Int)) = true := decide_eq_true (by omega)
     have m2 : IntKind.i64.wrap ((p : Int) + 40) = ((p + 40 : Nat) : Int) := by rw [IntKind.wrap_i64]; omega
     obtain ⟨-, pv, cv, rfl, hcv, -⟩ := hrw.open_ (frmA_length l k)
     have hlr : wr.heap.size ≤ wx.heap.size := hcw.size
     have hr1000 : k + 1 ≤ 1000 := by have := HPk.out; omega
     have HRw := Lib.hid (And.intro hrw hcw)
     clear hrw hcw
     obtain ⟨q, hq⟩ : ∃ q, q = (min ((p : Int) + 40) m).toNat - p := ⟨_, rfl⟩
     have hq40 : q ≤ 40 := by omega
     have hqc : (chB l k).length = q := by rw [chB_length, hl]; have := HPk.out; omega
     have kB : Chg [] wx (wx.alloc (.cells #[.int .i64 1, .int .i64 0, .int .i64 n, .int .i64 0, .slice (some ⟨D, o + p, none⟩) q (cp - p)] 282)) := Chg.alloc wx _
     have yB := heap_new wx (.cells #[.int .i64 1, .int .i64 0, .int .i64 n, .int .i64 0, .slice (some ⟨D, o + p, none⟩) q (cp - p)] 282)
     have hRB := HRw.out.1.keep kB (Av.nil _ _)
     obtain ⟨xs, pv', cv', e, -, oB, hpush⟩ := hRB.open_ (frmA_length l k)
     cases e
     have hBT : BsT (wx.alloc (.cells #[.int .i64 1, .int .i64 0, .int .i64 n, .int .i64 0, .slice (some ⟨D, o + p, none⟩) q (cp - p)] 282)) (some ⟨D, o + p, none⟩) (chB l k) := by
      have h1 := (HT.out.1.chg HRw.out.2).chg kB
      refine Or.inr ⟨D, o + p, rfl, Bt.keep (Bt.keep HT.out.2 HRw.out.2 (by simp)) kB (by simp), ?_⟩
      have h2 := h1.sub p 40
      unfold chB
      rw [← HPk.out.1]
      exact h2
     have HPu := Lib.hid (hpush (1, 0, chB l k) (some ⟨D, o + p, none⟩) (cp - p))
     have HBT := Lib.hid (And.intro hBT (And.intro hqc (And.intro kB (frmA_succ l k))))
     have hlB : wr.heap.size ≤ (wx.alloc (.cells #[.int .i64 1, .int .i64 0, .int .i64 n, .int .i64 0, .slice (some ⟨D, o + p, none⟩) q (cp - p)] 282)).heap.size := Nat.le_trans hlr kB.size
     clear hRB hpush hBT hqc kB
     go_upto_region 12 with (first | (rw [← hq]; at_builtin; refine wpList_append_fr rfl (.tmp 65) (.tmp 76) rfl wr.heap.size wx.heap.size 1 (k + 1) (.slice pv (k + 1) cv) _ _ _ _ _ xs rfl oB hlB hr1000 rfl yB ⟨rfl, rfl, rfl, rfl, rfl⟩ ?_; intro g7 c7 w7 o7 k7))
     have hnew : Hid (RowF w7 wr.heap.size n (.slice (some ⟨g7, 0, none⟩) (k + 1 + 1) c7) (frmA l (k + 1)) ∧ Chg [] wr w7) := Lib.hid (by
      obtain ⟨b1, b2, b3, b4⟩ := HBT.out
      refine ⟨by rw [b4]; exact HPu.out w7 g7 c7 (by show w7.ownsRow _ _ _ _ _ (xs ++ [_, _, _, _, .slice _ (chB l k).length _]); rw [b2]; exact o7) k7 b1, (HRw.out.2.then b3).trans k7 (fun x hx hl => ?_)⟩
      have h1 := (own_elem oB (show (Value.slice pv (k + 1) cv).ownBlock = some x by simpa using hx)).1
      omega)
     clear HPu HBT o7 k7 oB yB HRw
     go_wp2_with fail
     go_roundw
     case rel => exact ⟨k + 1, p + 40, rfl, ⟨by have := HPk.out; omega, by have := HPk.out; unfold nCh; omega⟩, hnew.out.1, hnew.out.2⟩
     case measure => simp [intOf]; omega
    ·have m1 : decide ((p : Int) < (m : Int)) = false := decide_eq_false (by omega)
     have hkn : k = nCh m := by have := HPk.out; unfold nCh at this ⊢; omega
     have HKn := Lib.hid hkn
     have hk286 : k ≤ 286 := by unfold nCh at hkn; omega
     clear hkn
     obtain ⟨-, pv, cv, rfl, hcv, -⟩ := hrw.open_ (frmA_length l k)
     have hlr : wr.heap.size ≤ wx.heap.size := hcw.size
     have HTl := Lib.hid (tail_any wx (c := cp) (HT.out.1.chg hcw) hl (by omega))
     have HRw := Lib.hid (And.intro hrw hcw)
     clear hrw hcw HR0
     have m2 : IntKind.i64.wrap ((k : Int) + 1 - 1) = (k : Int) := by rw [IntKind.wrap_i64]; omega
     go_wp2_with fail
     refine HTl.out.mono ?_
     rintro e w3 ⟨gt, ct, rfl, k3, s3, b3, t3⟩
     have kB : Chg [] w3 (w3.alloc (.cells #[.int .i64 2, .int .i64 0, .int .i64 n, .int .i64 k, .slice (some ⟨gt, 0, none⟩) 8 ct] 282)) := Chg.alloc w3 _
     have yB := heap_new w3 (.cells #[.int .i64 2, .int .i64 0, .int .i64 n, .int .i64 k, .slice (some ⟨gt, 0, none⟩) 8 ct] 282)
     have hRB := HRw.out.1.keep (k3.then kB) (Av.nil _ _)
     obtain ⟨xs, pv', cv', e, -, oB, hpush⟩ := hRB.open_ (frmA_length l k)
     cases e
     have hBT : BsT (w3.alloc (.cells #[.int .i64 2, .int .i64 0, .int .i64 n, .int .i64 k, .slice (some ⟨gt, 0, none⟩) 8 ct] 282)) (some ⟨gt, 0, none⟩) (tailB l) := Or.inr ⟨gt, 0, rfl, Bt.keep t3 kB (by simp), b3.chg kB⟩
     have HPu := Lib.hid (hpush (2, k, tailB l) (some ⟨gt, 0, none⟩) ct)
     have HBT := Lib.hid (And.intro hBT ((HRw.out.2.then k3).then kB))
     have hlB : wr.heap.size ≤ (w3.alloc (.cells #[.int .i64 2, .int .i64 0, .int .i64 n, .int .i64 k, .slice (some ⟨gt, 0, none⟩) 8 ct] 282)).heap.size := HBT.out.2.size
     have hr1000 : k + 1 ≤ 1000 := by omega
     clear hRB hpush hBT kB k3 s3 b3 t3 HTl HRw
     go_upto_region 15 with (first | (at_builtin; refine wpList_append_fr rfl (.tmp 78) (.tmp 86) rfl wr.heap.size w3.heap.size 1 (k + 1) (.slice pv (k + 1) cv) _ _ _ _ _ xs rfl oB hlB hr1000 rfl yB ⟨rfl, rfl, rfl, rfl, rfl⟩ ?_; intro g7 c7 w7 o7 k7))
     have hnew : Hid (RowF w7 wr.heap.size n (.slice (some ⟨g7, 0, none⟩) (k + 2) c7) (frmL l) ∧ Chg [] wr w7) := Lib.hid (by
      obtain ⟨b1, b2⟩ := HBT.out
      have h1 := HPu.out w7 g7 c7 (by show w7.ownsRow _ _ _ _ _ (xs ++ [_, _, _, _, .slice _ (tailB l).length _]); rw [tailB_length]; exact o7) k7 b1
      have e1 : frmL l = frmA l k ++ [(2, k, tailB l)] := by unfold frmL; rw [hl, ← HKn.out]
      refine ⟨by rw [e1]; exact h1, b2.trans k7 (fun x hx hl => ?_)⟩
      have h1 := (own_elem oB (show (Value.slice pv (k + 1) cv).ownBlock = some x by simpa using hx)).1
      omega)
     clear HPu HBT o7 k7 oB yB
     go_wp2_with fail
     have hF288 : (encS n l).length ≤ 288 := by rw [encS_length]; unfold nCh; omega
     have hFk : (encS n l).length = k + 2 := by rw [encS_length, hl, ← HKn.out]
     have hfl : (frmL l).length = k + 2 := by rw [frmL_length, hl, ← HKn.out]
     have HF := Lib.hid (And.intro hF288 (And.intro hFk hfl))
     clear hF288 hFk hfl m1 m2
     have HDv : Hid ((∃ ops1 vs1 gs1, (ops ≤ ops1 ∧ ops1 ≤ ops + 3 + (0 : Nat)) ∧ DevG w7 base N A c ops1 Z vs1 gs1 (putF zs a (encS n l) 0)) ∧ Dc lw w w7) := Lib.hid (by
      obtain ⟨hd, ho, hdc⟩ := HW.out
      refine ⟨⟨ops', vs', gs', by have := HE3.out; omega, ?_⟩, hdc.trans (Dc.of0 hnew.out.2)⟩
      rw [putF_zero, ← HE3.out]
      exact hd.keep hnew.out.2 (Av.nil _ _))
     clear HW
     go_loopw [15, 16, 17, 18, 90] (fun _ _ _ _ ix wy => ∃ q : Nat, q ≤ k + 2 ∧ ix = .int .i64 q ∧ RowF wy wr.heap.size n (.slice (some ⟨g7, 0, none⟩) (k + 2) c7) (frmL l) ∧ (∃ ops1 vs1 gs1, (ops ≤ ops1 ∧ ops1 ≤ ops + 3 + q) ∧ DevG wy base N A c ops1 Z vs1 gs1 (putF zs a (encS n l) q)) ∧ Dc lw w wy) (fun _ _ _ _ ix _ => k + 2 - (intOf ix).toNat)
     case atStart => exact ⟨0, Nat.zero_le _, rfl, hnew.out.1, HDv.out.1, HDv.out.2⟩
     case round =>
      obtain ⟨q, hq, rfl, hrw, ⟨ops1, vs1, gs1, hop, hd⟩, hdc⟩ := hrel
      rename World => wy
      by_cases hqk : q < k + 2
      ·have hqf : q < (frmL l).length := by rw [HF.out.2.2]; exact hqk
       have hqe : q < (encS n l).length := by rw [HF.out.2.1]; exact hqk
       obtain ⟨g8, c8, pb, cb, ev, hc8, hgb, r0, r1, r2, r3, r4, hbb⟩ := hrw.get q hqf
       rw [HF.out.2.2] at ev hc8
       cases ev
       have hok := frmL_ok (l := l) (by omega) _ (List.getElem_mem hqf)
       have heq := encS_get (n := n) hqf hqe
       obtain ⟨kd, lb, bd, hf⟩ : ∃ kd lb bd, (frmL l)[q] = (kd, lb, bd) := ⟨_, _, _, rfl⟩
       rw [hf] at r0 r3 r4 hbb hok heq
       have kB : Chg [] wy (wy.alloc (.cells #[.int .i64 kd, .int .i64 0, .int .i64 n, .int .i64 lb, .slice pb bd.length cb] 282)) := Chg.alloc wy _
       have yB := heap_new wy (.cells #[.int .i64 kd, .int .i64 0, .int .i64 n, .int .i64 lb, .slice pb bd.length cb] 282)
       have m1 : decide ((q : Int) < ((k : Int) + 2)) = true := decide_eq_true (by omega)
       have m1' : decide ((q : Int) < ((k + 2 : Nat) : Int)) = true := decide_eq_true (by omega)
       have hS2 := hdc.heap HS.out (by decide)
       have HDd := Lib.hid (And.intro (hrw.keep kB (Av.nil _ _)) (And.intro (hd.keep kB (Av.nil _ _)) (And.intro (hdc.trans (Dc.of0 kB)) (And.intro hop heq))))
       have HEn := Lib.hid (fencode_any (wy.alloc (.cells #[.int .i64 kd, .int .i64 0, .int .i64 n, .int .i64 lb, .slice pb bd.length cb] 282)) (kind := kd) (epoch := 0) (seq := n) (lba := lb) (c := cb) (pa := pb) (body := bd) hok.1.1 (by have := hok.1.2; show kd ≤ 4; have : kd ≤ 3 := hok.1.2; omega) (by decide) hn (by have : lb ≤ 1000 := hok.2.1; omega) rfl hok.2.2 (hbb.bs.chg kB))
       have d0 := cell_is yB 0 rfl
       have d1 := cell_is yB 1 rfl
       have d2 := cell_is yB 2 rfl
       have d3 := cell_is yB 3 rfl
       have d4 := cell_is yB 4 rfl
       have HS2 := Lib.hid hS2
       have HOk := Lib.hid (show bd.length ≤ 40 from hok.2.2)
       clear hrw hd hdc hop hbb hgb heq hok hf kB yB hS2
       go_wp2_with fail
       refine HEn.out.mono ?_
       rintro e w8 ⟨g9, c9, rfl, k8, s8, b8, t8⟩
       have HX8 : Hid (RowF w8 wr.heap.size n (.slice (some ⟨g7, 0, none⟩) (k + 2) c7) (frmL l) ∧ DevG w8 base N A c ops1 Z vs1 gs1 (putF zs a (encS n l) q) ∧ Dc lw w w8 ∧ SlotG w8 S N inn tv cnt) := Lib.hid ⟨HDd.out.1.keep k8 (Av.nil _ _), HDd.out.2.1.keep k8 (Av.nil _ _), HDd.out.2.2.1.trans (Dc.of0 k8), (HDd.out.2.2.1.trans (Dc.of0 k8)).heap HS.out (by decide)⟩
       obtain ⟨qz, hqz⟩ : ∃ qz, qz = q / 96 := ⟨_, rfl⟩
       obtain ⟨zz, hzz⟩ : ∃ zz, zz = a + qz := ⟨_, rfl⟩
       have hz8 : zz < Z.length := by
        have := HI.out
        have h2 := HF.out.1
        rw [HF.out.2.1] at h2
        omega
       have hdd := HX8.out.2.1.keep (Chg.refl [] w8).drew (Av.nil _ _)
       have hzr : (putF zs a (encS n l) q zz).length < 96 := by
        rw [hzz, hqz, putF_len hqe HF.out.1]
        omega
       have HAp := Lib.hid (dappend_any w8.drew (cd := c9) hdd (by have := HDd.out.2.2.2.1; omega) (by have := HDd.out.2.2.2.1; have h2 := HF.out.1; rw [HF.out.2.1] at h2; omega) zz hz8 hzr (b8.chg (Chg.refl [] w8).drew) (encF_length kd 0 n lb bd HOk.out) (fun g hg => by subst hg; obtain ⟨cs, hh⟩ := t8; exact heap_ne hh HX8.out.2.1.hdr (by simp)) HB.out.2.2.2)
       have e0 : w8.cell? ⟨S, 0, none⟩ = some (.pointer (some ⟨N, 0, none⟩)) := cell_is HX8.out.2.2.2 0 rfl
       have e4 : w8.cell? ⟨S, 4, none⟩ = some (.int .i64 96) := cell_is HX8.out.2.2.2 4 rfl
       have eA : w8.cell? ⟨S, 1 + i, none⟩ = some (.int .i64 a) := by
        rcases HI.out with ⟨rfl, rfl⟩ | ⟨rfl, rfl⟩
        ·exact cell_is HX8.out.2.2.2 1 rfl
        ·exact cell_is HX8.out.2.2.2 2 rfl
       have q1 : (q : Int).tdiv 96 = (qz : Int) := by rw [Int.tdiv_eq_ediv_of_nonneg (by omega)]; omega
       have q3 : IntKind.i64.wrap ((a : Int) + (qz : Int)) = (zz : Int) := by rw [IntKind.wrap_i64]; omega
       have q2 : IntKind.i64.wrap (qz : Int) = (qz : Int) := by rw [IntKind.wrap_i64]; omega
       have hqz6 : qz ≤ 6 := by omega
       have HZz := Lib.hid (And.intro (show zz = a + q / 96 by omega) hz8)
       have hUt : ∀ y ∈ N :: Z[zz] :: (vs1 zz).ownBlock.toList, y = N ∨ y ∈ Z ∨ ∃ j, j < 8 ∧ (vs1 j).ownBlock = some y := fun y hy => by
        rcases List.mem_cons.1 hy with h | hy
        ·exact Or.inl h
        ·rcases List.mem_cons.1 hy with h | hy
         ·exact Or.inr (Or.inl (h ▸ List.getElem_mem hz8))
         ·exact Or.inr (Or.inr ⟨zz, by omega, by simpa using hy⟩)
       have HUt := Lib.hid hUt
       have kdr := (Chg.refl [] w8).drew.mono (T := N :: Z[zz] :: (vs1 zz).ownBlock.toList) (fun x hx _ => by cases hx)
       have hnS : S ∉ N :: Z[zz] :: (vs1 zz).ownBlock.toList := fun hm => by
        rcases hUt S hm with rfl | h2 | ⟨j, hj, h2⟩
        ·exact heap_ne HX8.out.2.2.2 HX8.out.2.1.hdr (by simp) rfl
        ·obtain ⟨y, hy, rfl⟩ := List.getElem_of_mem h2
         exact heap_ne HX8.out.2.2.2 (HX8.out.2.1.zone y hy) (by simp) rfl
        ·obtain ⟨cs, hh⟩ := (HX8.out.2.1.rows j hj).block S h2
         exact heap_ne HX8.out.2.2.2 hh (by simp) rfl
       have HnS := Lib.hid hnS
       clear hdd s8 b8 t8 HEn hzr hqz hzz hUt hnS
       go_wp2_with fail
       go_region_held3 (fun wx => wx.cell? ⟨S, 0, none⟩ = some (.pointer (some ⟨N, 0, none⟩)) ∧ wx.cell? ⟨S, 1 + i, none⟩ = some (.int .i64 a) ∧ wx.cell? ⟨S, 4, none⟩ = some (.int .i64 96))
        (first
         | (exact ⟨e0, eA, e4⟩)
         | (exact ⟨kc.cell e0 HnS.out, kc.cell eA HnS.out, kc.cell e4 HnS.out⟩))
        (first
         | (go_at_call 136; refine HAp.out.mono ?_; rintro e w9 ⟨v', rfl, kc', dc, -⟩; have kc := kdr.then kc'))
       have hnw : Hid (RowF w9 wr.heap.size n (.slice (some ⟨g7, 0, none⟩) (k + 2) c7) (frmL l) ∧ (∃ ops2 vs2 gs2, (ops ≤ ops2 ∧ ops2 ≤ ops + 3 + (q + 1 : Nat)) ∧ DevG w9 base N A c ops2 Z vs2 gs2 (putF zs a (encS n l) (q + 1))) ∧ Dc lw w w9) := Lib.hid (by
        have dc2 : DevG w9 base N A c (ops1 + 1) Z (upF vs1 zz v') gs1 (putF zs a (encS n l) (q + 1)) := by
         rw [← putF_succ hqe HF.out.1, ← HZz.out.1, HDd.out.2.2.2.2]
         exact dc
        refine ⟨HX8.out.1.keep kc (fun x hx cs t fr hh hm => ?_), ⟨ops1 + 1, _, _, by have := HDd.out.2.2.2.1; omega, dc2⟩, HX8.out.2.2.1.trans (Dc.dev HX8.out.2.1 kc HB.out.1 HB.out.2.1 HB.out.2.2.1 HUt.out)⟩
        ·rcases HUt.out x hx with rfl | h2 | ⟨j, hj, h2⟩
         ·rw [HX8.out.2.1.hdr] at hh; cases hh; simp at hm
         ·obtain ⟨y, hy, rfl⟩ := List.getElem_of_mem h2
          rw [HX8.out.2.1.zone y hy] at hh; cases hh; simp at hm
         ·obtain ⟨cs2, h3⟩ := (HX8.out.2.1.rows j hj).block x h2
          rw [h3] at hh; cases hh; simp at hm)
       have hk288 : k + 2 ≤ 288 := by omega
       clear kc' kc dc HAp e0 e4 eA q1 q2 q3
       go_wp2_with fail
       exact ⟨⟨q + 1, by omega, by go_num, hnw.out⟩, by simp [intOf]; omega⟩
      ·have hqe : q = k + 2 := by omega
       subst hqe
       have hS2 := hdc.heap HS.out (by decide)
       have e0 : wy.cell? ⟨S, 0, none⟩ = some (.pointer (some ⟨N, 0, none⟩)) := cell_is hS2 0 rfl
       have m1 : decide (((k + 2 : Nat) : Int) < ((k + 2 : Nat) : Int)) = false := decide_eq_false (by omega)
       have HFl := Lib.hid (dflush_any wy hd (by omega) (by omega))
       have HX := Lib.hid (And.intro hd (And.intro hop hdc))
       clear hrw hd hop hdc hS2
       go_wp2_with fail
       refine HFl.out.mono ?_
       rintro e w9 ⟨rfl, k9, d9⟩
       go_wp2_with fail
       go_ret
       obtain ⟨hd, hop, hdc⟩ := HX.out
       refine ⟨rfl, ops1 + 1, by omega, ⟨_, by rw [HF.out.2.1]; exact d9.good⟩, hdc.trans (Dc.dev hd k9 HB.out.1 HB.out.2.1 HB.out.2.2.1 (fun y hy => ?_))⟩
       rcases List.mem_cons.1 hy with h | h
       ·exact Or.inl h
       ·exact Or.inr (Or.inl h)
def SvR (w w' : World) (lw base S N A c : Nat) (Z : List Nat) (ops : Int) (zs : Nat → List (List UInt8)) (ni : Int) (a cnt : Nat) (l : List UInt8) : Prop :=
  ∃ ops' tv', (ops ≤ ops' ∧ ops' ≤ ops + 300) ∧ DevZ w' base N A c ops' Z (putF zs a (encS (cnt + 1) l) (encS (cnt + 1) l).length) ∧ SlotG w' S N ni tv' (cnt + 1) ∧ TextAt w' tv' ∧
    ∃ U, Chg (S :: U) w w' ∧ Tp w U [128, 132, 47] ∧ ∀ x ∈ U, lw ≤ x
set_option maxRecDepth 100000 in
set_option maxHeartbeats 4000000 in
theorem slsave_any (w : World) {S N A c base lw o cp : Nat} {tv : Value} {cnt : Nat} {ops : Int} {Z : List Nat} {vs : Nat → Value} {gs : Nat → Nat} {zs : Nat → List (List UInt8)} {inn i a m D : Nat} {l : List UInt8}
    (hS : SlotG w S N inn tv cnt) (hd : DevG w base N A c ops Z vs gs zs) (h0 : 0 ≤ ops) (h1 : ops ≤ 900000) (hi : (inn = 1 ∧ i = 0 ∧ a = 0) ∨ (inn = 0 ∧ i = 1 ∧ a = 3)) (hn : cnt < 1099511627776) (hb : Bs w (some ⟨D, o, none⟩) l) (hbt : Bt w D) (hl : l.length = m) (hm0 : 0 < m) (hm : m ≤ 11440) (hlow : base ≤ N) (hlw : lw ≤ base) (hZ : ∀ z ∈ Z, lw ≤ z) (hcp : m ≤ cp) :
    Calls Tryz.prog 57 #[.pointer (some ⟨S, 0, none⟩), .slice (some ⟨D, o, none⟩) m cp] w fun e w' => e = .returned (.int .i64 0) ∧ SvR w w' lw base S N A c Z ops zs i a cnt l := by
  have c5 : w.cell? ⟨S, 5, none⟩ = some (.int .i64 inn) := cell_is hS 5 rfl
  have c7 : w.cell? ⟨S, 7, none⟩ = some (.int .i64 cnt) := cell_is hS 7 rfl
  have n1 : IntKind.i64.wrap (1 - (inn : Int)) = (i : Int) := by rw [IntKind.wrap_i64]; omega
  have n2 : IntKind.i64.wrap ((cnt : Int) + 1) = ((cnt + 1 : Nat) : Int) := by rw [IntKind.wrap_i64]; omega
  have n3 : decide (11440 < (m : Int)) = false := decide_eq_false (by omega)
  have kd : Chg [] w w.drew := (Chg.refl [] w).drew
  have HR := Lib.hid (sroom_any w hS)
  have HI := Lib.hid hi
  have HD := Lib.hid (And.intro hS (And.intro hd (And.intro hb hbt)))
  have HB := Lib.hid (And.intro hlow (And.intro hlw hZ))
  clear hi
  go_enter Tryz.func57, Tryz.ntmps57
  go_wp2_with fail
  refine HR.out.mono ?_
  rintro e w1 ⟨rfl, k1⟩
  have hS1 := k1.heap hS (by simp)
  have HDe := Lib.hid (sldead_any w1 hS1)
  have HW := Lib.hid (slwrite_any w1.drew (lw := lw) (k1.drew.heap hS (by simp)) (hd.keep k1.drew (Av.nil _ _)) h0 h1 (i := i) (a := a) (n := cnt + 1) (by rcases HI.out with ⟨_, h2, h3⟩ | ⟨_, h2, h3⟩; exact Or.inl ⟨h2, h3⟩; exact Or.inr ⟨h2, h3⟩) (by omega) (hb.chg k1.drew) (Bt.keep hbt k1.drew (by simp)) hl (by omega) hlow hlw hZ hcp)
  have e5 : w1.cell? ⟨S, 5, none⟩ = some (.int .i64 inn) := cell_is hS1 5 rfl
  have e7 : w1.cell? ⟨S, 7, none⟩ = some (.int .i64 cnt) := cell_is hS1 7 rfl
  have HK := Lib.hid k1
  clear hS hd hb hbt hZ k1 hS1 c5 c7 kd HR
  go_wp2_with fail
  refine HDe.out.mono ?_
  rintro e w2 ⟨rfl, rfl⟩
  go_wp2_with fail
  go_still_tail 12, (by kernel_rfl)
  change wpList _ _ _ _ _ w1.drew
  have e5d : w1.drew.cell? ⟨S, 5, none⟩ = some (.int .i64 inn) := e5
  have e7d : w1.drew.cell? ⟨S, 7, none⟩ = some (.int .i64 cnt) := e7
  have HKd := Lib.hid (HK.out.drew)
  generalize w1.drew = w2 at *
  go_wp2_with fail
  refine HW.out.mono ?_
  rintro e w3 ⟨rfl, ops', hop, ⟨vs3, hd3⟩, hdc⟩
  obtain ⟨hS, hd, hb, hbt⟩ := HD.out
  have hS2 := HKd.out.heap hS (by simp)
  have hS3 : SlotG w3 S N inn tv cnt := hdc.heap hS2 (by decide)
  have hb3 : Bs w3 (some ⟨D, o, none⟩) l := by
    obtain ⟨U, u1, u2, -⟩ := hdc
    have hb2 := Bt.keep hbt HKd.out (by simp)
    have hn : D ∉ U := fun hm => by
      obtain ⟨cs, hh⟩ := hb2
      obtain ⟨cs2, t2, e1, e2⟩ := u2 D hm
      rw [hh] at e1
      cases e1
      revert e2
      decide
    exact (hb.chg HKd.out).chgT u1 hn
  have HC := Lib.hid (clone_bt w3.drew (c := cp) hl hm0 (by omega) (hb3.chg (Chg.refl [] w3).drew))
  have f5 : w3.cell? ⟨S, 5, none⟩ = some (.int .i64 inn) := cell_is hS3 5 rfl
  have f7 : w3.cell? ⟨S, 7, none⟩ = some (.int .i64 cnt) := cell_is hS3 7 rfl
  have HX := Lib.hid (And.intro hop (And.intro hd3 (And.intro hdc hS3)))
  clear hS hd hb hbt hS2 hS3 hb3 hd3 hdc e5 e7 e5d e7d HW HDe
  go_upto_region 9 with fail
  have f5d : w3.drew.cell? ⟨S, 5, none⟩ = some (.int .i64 inn) := f5
  have f7d : w3.drew.cell? ⟨S, 7, none⟩ = some (.int .i64 cnt) := f7
  have HSd : Hid (SlotG w3.drew S N inn tv cnt) := Lib.hid HX.out.2.2.2
  go_region_law
    (first
      | (go_simp; go_at_call 126; refine HC.out.mono ?_; rintro e wa ⟨g4, c4, rfl, k4, b4, s4, t4⟩
         have ya := k4.heap HSd.out (by simp)
         have y1 := heap_set ya 5 (.int .i64 i) rfl
         have y2 := heap_set y1 6 (.slice (some ⟨g4, 0, none⟩) m c4) rfl
         have a5 := cell_is ya 5 rfl
         have a7 := cell_is ya 7 rfl
         have a6 := cell_is ya 6 rfl
         have u5 := unfrozen ya 5
         have a17 := cell_is y1 7 rfl
         have a16 := cell_is y1 6 rfl
         have u16 := unfrozen y1 6
         have a27 := cell_is y2 7 rfl
         have u27 := unfrozen y2 7))
  all_goals
    have y3 := heap_set y2 7 (.int .i64 ((cnt : Int) + 1)) rfl
    have kz : Chg [S] wa (((wa.setCell ⟨S, 5, none⟩ (.int .i64 i)).setCell ⟨S, 6, none⟩ (.slice (some ⟨g4, 0, none⟩) m c4)).setCell ⟨S, 7, none⟩ (.int .i64 ((cnt : Int) + 1))) := ((Chg.set _ _ _ _).then (Chg.set _ _ _ _)).then (Chg.set _ _ _ _)
    have HZ := Lib.hid (And.intro y3 (And.intro kz (And.intro k4 (And.intro b4 t4))))
    clear ya y1 y2 a5 a7 a6 u5 a17 a16 u16 a27 u27 y3 kz k4 b4 s4 t4
    generalize ((wa.setCell ⟨S, 5, none⟩ (.int .i64 i)).setCell ⟨S, 6, none⟩ (.slice (some ⟨g4, 0, none⟩) m c4)).setCell ⟨S, 7, none⟩ (.int .i64 ((cnt : Int) + 1)) = w5 at *
    go_wp2_with fail
    go_ret
    obtain ⟨y3, kz, k4, b4, t4⟩ := HZ.out
    obtain ⟨hop, hd3, hdc, hS3⟩ := HX.out
    obtain ⟨hlow, hlw, hZ⟩ := HB.out
    have k35 : Chg [S] w3 w5 := ((Chg.refl [] w3).drew.mono (fun x hx _ => by cases hx)).then ((k4.mono (fun x hx _ => by cases hx)).then kz)
    have hS : Tp w3 [S] [210] := fun x hx => by
      rw [List.mem_singleton] at hx
      subst hx
      exact ⟨_, _, hS3, by simp⟩
    have hgS : g4 ∉ [S] := by
      intro hm
      rw [List.mem_singleton] at hm
      subst hm
      obtain ⟨cs, hh⟩ := t4
      have h2 : wa.heap[g4]? = _ := k4.heap (show w3.drew.heap[g4]? = _ from hS3) (by simp)
      rw [h2] at hh
      cases hh
    refine ⟨rfl, ops', .slice (some ⟨g4, 0, none⟩) m c4, hop, ⟨vs3, hd3.keep k35 (hS.av (by decide))⟩, y3, Or.inr ⟨g4, c4, m, l, rfl, hl, hm0, (by omega), b4.chgT kz hgS, Bt.keep t4 kz hgS⟩, ?_⟩
    obtain ⟨U, u1, u2, u3⟩ := hdc
    have hk12 : Chg [] w w2 := HKd.out
    refine ⟨U.filter (fun x => decide (x < w.heap.size)), ?_, fun x hx => ?_, fun x hx => u3 x (List.mem_filter.1 hx).1⟩
    · refine ((hk12.mono (fun x hx _ => by cases hx)).trans u1 (fun x hx hl => ?_)).trans k35 (fun x hx hl => ?_)
      · exact List.mem_cons_of_mem _ (List.mem_filter.2 ⟨hx, by simpa using hl⟩)
      · rw [List.mem_singleton] at hx
        rw [hx]
        exact List.mem_cons_self
    · obtain ⟨h1, h2⟩ := List.mem_filter.1 hx
      have hl : x < w.heap.size := by simpa using h2
      obtain ⟨cs, t, e1, e2⟩ := u2 x h1
      have ho : w.heap[x]? = some w.heap[x] := Array.getElem?_eq_getElem hl
      have h3 := hk12.heap ho (by simp)
      rw [h3] at e1
      exact ⟨cs, t, by rw [ho]; exact e1, e2⟩
theorem BufD.keepA {w w' : World} {U : List Nat} {L : List (Int × Value)} {D : Int → List UInt8} (h : BufD w L D) (hc : Chg U w w') (hU : Av w U [5]) : BufD w' L D := fun k v hv => by
 obtain ⟨g, c, h1, h2, h3, h4⟩ := h k v hv
 have hn : g ∉ U := Bt.av h4 hU (by simp)
 exact ⟨g, c, h1, h2.chgT hc hn, h3, Bt.keep h4 hc hn⟩
theorem Cd.av {lo M T rb X rx : Nat} {w : World} {S ts : List Nat} {csM csT csX : Array Value} {L1 L2 : List (Int × Value)} (hS : ∀ x ∈ S, x < w.heap.size → x = M ∨ x = T ∨ x = rb ∨ x = X ∨ x = rx ∨ (lo ≤ x ∧ ∃ cs, w.heap[x]? = some (.cells cs 288 (0, 0))))
  (hM : w.heap[M]? = some (.cells csM 195 (0, 0))) (hT : w.heap[T]? = some (.cells csT 203 (0, 0))) (hX : w.heap[X]? = some (.cells csX 270 (0, 0))) (h1 : MapAt w rb L1) (h2 : MapAt w rx L2) (h : ∀ t ∈ ts, t ∉ [195, 203, 270, 288]) : Av w S ts := by
 intro x hx cs t fr hh ht
 have hn := h t ht
 rcases hS x hx (heap_lt hh) with rfl | rfl | rfl | rfl | rfl | ⟨-, cs2, h3⟩
 ·rw [hM] at hh; cases hh; exact hn (by simp)
 ·rw [hT] at hh; cases hh; exact hn (by simp)
 ·exact map_cells h1 hh rfl
 ·rw [hX] at hh; cases hh; exact hn (by simp)
 ·exact map_cells h2 hh rfl
 ·rw [h3] at hh; cases hh; exact hn (by simp)
theorem Cs.of_cd {lw lo M T rb X rx : Nat} {w w' : World} {csM csT csX : Array Value} {L1 L2 : List (Int × Value)} (h : Cd lo M T rb X rx w w')
  (hM : w.heap[M]? = some (.cells csM 195 (0, 0))) (hT : w.heap[T]? = some (.cells csT 203 (0, 0))) (hX : w.heap[X]? = some (.cells csX 270 (0, 0))) (h1 : MapAt w rb L1) (h2 : MapAt w rx L2) (hb : lw ≤ lo ∧ lw ≤ M ∧ lw ≤ T ∧ lw ≤ rb ∧ lw ≤ X ∧ lw ≤ rx) : Cs lw w w' := by
 obtain ⟨S, k1, k2⟩ := h
 refine ⟨S, k1, fun x hx hlt => ?_⟩
 obtain ⟨b1, b2, b3, b4, b5, b6⟩ := hb
 rcases k2 x hx hlt with rfl | rfl | rfl | rfl | rfl | ⟨hl, cs2, h3⟩
 ·exact ⟨b2, fun cs t fr hh => by rw [hM] at hh; cases hh; simp⟩
 ·exact ⟨b3, fun cs t fr hh => by rw [hT] at hh; cases hh; simp⟩
 ·exact ⟨b4, fun cs t fr hh => absurd rfl (map_cells h1 hh)⟩
 ·exact ⟨b5, fun cs t fr hh => by rw [hX] at hh; cases hh; simp⟩
 ·exact ⟨b6, fun cs t fr hh => absurd rfl (map_cells h2 hh)⟩
 ·exact ⟨by omega, fun cs t fr hh => by rw [h3] at hh; cases hh; simp⟩
theorem Sto.wtp {w : World} {lw : Nat} {d : Ids} {s : Gs} {g : Gd} (h : Sto w lw d s g) : Tp w (d.P :: d.N :: d.Z ++ (g.dv 6).ownBlock.toList) [102, 128, 132, 47] ∧ ∀ x ∈ d.P :: d.N :: d.Z ++ (g.dv 6).ownBlock.toList, lw ≤ x := by
 have hb := h.bnd
 refine ⟨fun x hx => ?_, fun x hx => ?_⟩
 ·simp only [List.cons_append, List.mem_cons, List.mem_append] at hx
  rcases hx with rfl | rfl | hx | hx
  ·exact ⟨_, _, h.store, by simp⟩
  ·exact ⟨_, _, h.dev.hdr, by simp⟩
  ·obtain ⟨i, hi, rfl⟩ := List.getElem_of_mem hx
   exact ⟨_, _, h.dev.zone i hi, by simp⟩
  ·obtain ⟨cs, hh⟩ := (h.dev.rows 6 (by omega)).block x (by simpa using hx)
   exact ⟨_, _, hh, by simp⟩
 ·simp only [List.cons_append, List.mem_cons, List.mem_append] at hx
  rcases hx with rfl | rfl | hx | hx
  ·omega
  ·omega
  ·exact h.bndZ x hx
  ·obtain ⟨xs, ho, -⟩ := h.dev.rows 6 (by omega)
   have := (own_elem ho (show (g.dv 6).ownBlock = some x by simpa using hx)).1
   omega
structure Wtx (w : World) (d : Ids) (s : Gs) (gq cq : Nat) (hdl : Int) (k : Nat) (t t0 : Int) (L : List (Int × Value)) (D : Int → List UInt8) : Prop where
 qv : s.qv = .slice (some ⟨gq, 0, none⟩) 1 cq
 cq : 1 ≤ cq
 q : ∃ cs, w.heap[gq]? = some (.cells cs 3 (0, 0)) ∧ cs[0]? = some (.int .i64 hdl)
 tab : getL s.Lr hdl = some (.pointer (some ⟨d.T, 0, none⟩))
 tx : TxW w d.T d.W d.Q k t
 buf : BufAt w d.W d.rw L
 bd : BufD w L D
 bk : ∀ x ∈ L, 0 ≤ x.1 ∧ x.1 < 258
 len0 : 0 < L.length
 len : L.length ≤ 16
 book : getL s.Lb hdl = some (.int .i64 t0)
theorem Wtx.keepA {w w' : World} {U : List Nat} {d : Ids} {s : Gs} {gq cq : Nat} {hdl : Int} {k : Nat} {t t0 : Int} {L : List (Int × Value)} {D : Int → List UInt8} (h : Wtx w d s gq cq hdl k t t0 L D) (hc : Chg U w w') (hU : Av w U [3, 203, 267, 5]) (hr : d.rw ∉ U) : Wtx w' d s gq cq hdl k t t0 L D := by
 obtain ⟨cs, q1, q2⟩ := h.q
 exact ⟨h.qv, h.cq, ⟨cs, hc.heap q1 (hU.ne q1 (by simp)), q2⟩, h.tab, hc.heap h.tx (hU.ne h.tx (by simp)), h.buf.keep hc (hU.ne h.buf.1 (by simp)) hr, h.bd.keepA hc (fun x hx cs t fr hh ht => hU x hx cs t fr hh (by simp at ht; simp [ht])), h.bk, h.len0, h.len, h.book⟩
theorem Wtx.keep {w w' : World} {d : Ids} {s : Gs} {gq cq : Nat} {hdl : Int} {k : Nat} {t t0 : Int} {L : List (Int × Value)} {D : Int → List UInt8} (h : Wtx w d s gq cq hdl k t t0 L D) (hc : Chg [] w w') : Wtx w' d s gq cq hdl k t t0 L D := h.keepA hc (Av.nil _ _) (by simp)
def doneS (s : Gs) (z : Nat) (k : Nat) (hdl : Int) (Lv' : List (Int × Value)) (l : List (Int × List UInt8)) : Gs :=
 { s with qv := .slice (some ⟨z, 0, none⟩) 0 0, out := 0, num := s.num + 1, last := k, lastv := k, Lv := Lv', vs := applyV s.vs k l, Lb := delL s.Lb hdl }
set_option maxRecDepth 100000 in
theorem tgone_mg (w : World) {M X B r : Nat} {qv : Value} {out num bas last given : Int} {rd : Bool} (h : MgrG w M X B r qv out num bas last given rd) : Calls Tryz.prog 113 #[.pointer (some ⟨M, 0, none⟩)] w fun e w' => e = .returned (.bool false) ∧ w = w' := by
 have c0 : w.cell? ⟨M, 0, none⟩ = some (.pointer (some ⟨X, 0, none⟩)) := cell_is h 0 rfl
 clear h
 go_enter Tryz.func113, Tryz.ntmps113
 go_wp2_with fail
 go_ret
 exact ⟨rfl, rfl⟩
end Go.Proofs.YtelakcjbknbehaaGreat
namespace Go.Proofs
open Go.Shelf
def Tryz.keysC_ren : Go.Shelf.Ren := ⟨fun | 7 => 232 | 10 => 257 | n => n, fun | 23 => 268 | 26 => 3 | 3 => 286 | 28 => 243 | 0 => 0 | 27 => 242 | 33 => 260 | 4 => 4 | n => n, fun | n => n⟩
theorem Tryz.keysC : Go.Proofs.SlLaysZI.n7 Tryz.prog Tryz.keysC_ren := {
 mixed := by kernel_rfl
 f7 := ⟨Tryz.f232.name, by decide, Tryz.func232.trans (congrArg some (by kernel_rfl))⟩
 f10 := ⟨Tryz.f257.name, by decide, Tryz.func257.trans (congrArg some (by kernel_rfl))⟩
 t0 := Tryz.underlying0
 a0 := Tryz.isAgg0
 z0 := Tryz.sizeOf0
 v0 := Tryz.zeroValue0
 t4 := Tryz.underlying4
 a4 := Tryz.isAgg4
 z4 := Tryz.sizeOf4
 v4 := Tryz.zeroValue4
 t23 := Tryz.underlying268
 a23 := Tryz.isAgg268
 z23 := Tryz.sizeOf268
 v23 := Tryz.zeroValue268
 t26 := Tryz.underlying3
 a26 := Tryz.isAgg3
 z26 := Tryz.sizeOf3
 v26 := Tryz.zeroValue3
 t27 := Tryz.underlying242
 a27 := Tryz.isAgg242
 z27 := Tryz.sizeOf242
 v27 := Tryz.zeroValue242
 t28 := Tryz.underlying243
 a28 := Tryz.isAgg243
 z28 := Tryz.sizeOf243
 v28 := Tryz.zeroValue243
 t33 := Tryz.underlying260
 a33 := Tryz.isAgg260
 z33 := Tryz.sizeOf260
 v33 := Tryz.zeroValue260 }
end Go.Proofs
namespace Go.Proofs.YtelakcjbknbehaaGreat
open Go.RowKit Go.Lib Go.Maps Go.Sort Go.Shelf

theorem keysC_any (mb : Option Nat) (W : World) : Calls Tryz.prog 232 #[.map mb] W fun e w' => e = .returned (.func (.func 257) #[] #[.pointer (some ⟨W.heap.size, 0, none⟩)]) ∧ w' = W.alloc (.cells #[.map mb] 268) :=
 callsIn_wide.1 (AnyZI.keys_in Tryz.keysC Fence.wide 5 trivial rfl mb W)
set_option maxRecDepth 100000 in
theorem sortedC_any (W : World) {r : Nat} {L : List (Int × Value)} (h : MapAt W r L) (hw : ∀ p ∈ L, (Lit.int .i64 p.1).wf = true) (hl : L.length ≤ 100000) :
  Calls Tryz.prog 163 #[.func (.func 257) #[] #[.pointer (some ⟨W.heap.size, 0, none⟩)]] (W.alloc (.cells #[.map (some r)] 268)) fun e w' => ∃ v, e = .returned v ∧ w'.ownsRow W.heap.size 3 1 v L.length ((sortI (L.map Prod.fst)).map encZ) ∧ Chg [] W w' := by
 obtain ⟨D, hown, hp, hsz⟩ := owns_any (h.keep (Chg.alloc (S := []) W (.cells #[.map (some r)] 268)) (by simp)) 3 (by kernel_rfl) hw (by unfold maxLen; omega)
 have hseq : SeqGives Fence.wide 2 Tryz.prog 257 #[.pointer (some ⟨W.heap.size, 0, none⟩)] encZ (fun ss => ss.Perm (intKeys D)) (Maps.size D) (W.alloc (.cells #[.map (some r)] 268)) :=
  AnyZI.keys_gives (ρ := Tryz.keysC_ren) { Tryz.keysC with } Fence.wide _ trivial rfl (by omega) W.heap.size r L.length D _ (by simp) (by simp) hown
 have cS := AnyZI.sorted_in Tryz.sortedA Fence.wide 5 trivial trivial trivial trivial rfl (by omega) (sorts_all _) (enters_of Tryz.func211 (by kernel_rfl) rfl) 257 #[.pointer (some ⟨W.heap.size, 0, none⟩)] trivial (enters_of Tryz.func257 (by kernel_rfl) rfl) _ (Maps.size D) (by rw [hsz]; unfold maxLen; omega) (by rw [hsz]; omega) _ hseq
 refine (callsIn_wide.1 cS).mono ?_
 rintro e w' ⟨v, ss, rfl, hS, hrow, hnil, hbl⟩
 have hs : ss.mergeSort (fun x y => decide (x ≤ y)) = sortI (L.map Prod.fst) := mergeSort_of_perm_i (hS.trans hp)
 have hsl : ss.length = L.length := by rw [(hS.trans hp).length_eq, List.length_map]
 rw [hs, hsl] at hrow
 exact ⟨v, rfl, own_base hrow (by simp), (Chg.alloc W _).then (Chg.of_below hbl)⟩
def lastB (l : List (Int × List UInt8)) : List UInt8 := ((l.getLast?).map Prod.snd).getD []
theorem VRow.last {w : World} {lo n : Nat} {v : Value} {l : List (Int × List UInt8)} (h : VRow w lo v l) (hl : l.length = n + 1) : ∃ g cap gd cd, v = .slice (some ⟨g, 0, none⟩) ((n : Int) + 1).toNat cap ∧ n + 1 ≤ cap ∧
  w.cell? ⟨g, n * 2 + 1, none⟩ = some (.slice (some ⟨gd, 0, none⟩) 40 cd) ∧ Bs w (some ⟨gd, 0, none⟩) (lastB l) ∧ (lastB l).length = 40 ∧ Bt w gd := by
 obtain ⟨xs, ho, hx⟩ := h
 obtain ⟨-, gd, cd, h1, h2, h3, h4⟩ := hx n (by omega)
 have e : lastB l = (l[n]).2 := by
  have hn : l.length - 1 = n := by omega
  unfold lastB
  rw [List.getLast?_eq_getElem?, hn, List.getElem?_eq_getElem (by omega)]
  rfl
 rw [e]
 rcases ho.2 with ⟨_, e0⟩ | ⟨g, cap, cur, rfl, hA, hg, hc1, hc2, hc3, ht⟩
 ·omega
 ·refine ⟨g, cap, gd, cd, ?_, by omega, cell_is hg _ ?_, h2, h3, h4⟩
  ·rw [hl]; rfl
  ·rw [← ht, List.getElem?_take_of_lt (by omega), Array.getElem?_toList] at h1
   exact h1
def dumpL (L : List (Int × Value)) (vs : Int → List (Int × List UInt8)) : List (Int × List UInt8) := (sortI (L.map Prod.fst)).map fun k => (k, lastB (vs k))
end Go.Proofs.YtelakcjbknbehaaGreat
namespace Go.Proofs.YtelakcjbknbehaaGreat
open Go.RowKit Go.Lib

def PutsF (w : World) (fr base : Nat) (v : Value) (l : List (Int × List UInt8)) : Prop :=
 ∃ xs, w.ownsRow base 50 2 v l.length xs ∧ ∀ i (h : i < l.length), xs[i * 2]? = some (.int .i64 l[i].1) ∧ ∃ g c, xs[i * 2 + 1]? = some (.slice (some ⟨g, 0, none⟩) 40 c) ∧ fr ≤ g ∧ Bs w (some ⟨g, 0, none⟩) l[i].2 ∧ l[i].2.length = 40 ∧ Bt w g
theorem PutsF.nil (w : World) (fr base : Nat) : PutsF w fr base (.slice none 0 0) [] := ⟨[], World.ownsRow_nil _ _ _ _, fun i h => by simp at h⟩
theorem PutsF.block {w : World} {fr lo : Nat} {v : Value} {l : List (Int × List UInt8)} (h : PutsF w fr lo v l) : ∀ g, v.ownBlock = some g → lo ≤ g ∧ ∃ cs, w.heap[g]? = some (.cells cs 50 (0, 0)) := by
 intro g hg
 obtain ⟨xs, ho, -⟩ := h
 exact own_elem ho hg
theorem PutsF.keep {w w' : World} {T : List Nat} {fr lo : Nat} {v : Value} {l : List (Int × List UInt8)} (h : PutsF w fr lo v l) (hc : Chg T w w') (hT : Av w T [5]) (hv : ∀ g, v.ownBlock = some g → g ∉ T) : PutsF w' fr lo v l := by
 obtain ⟨xs, ho, hx⟩ := h
 refine ⟨xs, ?_, fun i hi => ?_⟩
 ·refine ⟨ho.1, ?_⟩
  rcases ho.2 with hn | ⟨g, cap, cur, rfl, hb, hg, rest⟩
  ·exact Or.inl hn
  ·exact Or.inr ⟨g, cap, cur, rfl, hb, hc.heap hg (hv g rfl), rest⟩
 ·obtain ⟨h0, g, c, h1, hf, h2, h3, cs, h4⟩ := hx i hi
  have hg : g ∉ T := hT.ne h4 (by simp)
  exact ⟨h0, g, c, h1, hf, h2.chgT hc hg, h3, cs, hc.heap h4 hg⟩
theorem PutsF.keep0 {w w' : World} {fr lo : Nat} {v : Value} {l : List (Int × List UInt8)} (h : PutsF w fr lo v l) (hc : Chg [] w w') : PutsF w' fr lo v l := h.keep hc (Av.nil _ _) (fun _ _ => by simp)
theorem PutsF.push {w w' : World} {fr base gb cb n : Nat} {v v' : Value} {l : List (Int × List UInt8)} {k : Int} {b : List UInt8} {xs : List Value} (hx : ∀ i (h : i < l.length), xs[i * 2]? = some (.int .i64 l[i].1) ∧ ∃ g c, xs[i * 2 + 1]? = some (.slice (some ⟨g, 0, none⟩) 40 c) ∧ fr ≤ g ∧ Bs w (some ⟨g, 0, none⟩) l[i].2 ∧ l[i].2.length = 40 ∧ Bt w g)
  (hl : xs.length = l.length * 2) (hn : n = l.length) (hv : ∀ g, v.ownBlock = some g → ∃ cs, w.heap[g]? = some (.cells cs 50 (0, 0))) (ho : w'.ownsRow base 50 2 v' (n + 1) (xs ++ [.int .i64 k, .slice (some ⟨gb, 0, none⟩) 40 cb])) (hc : Chg v.ownBlock.toList w w')
  (hb : Bs w (some ⟨gb, 0, none⟩) b) (hfr : fr ≤ gb) (hb4 : b.length = 40) (hbt : Bt w gb) : PutsF w' fr base v' (l ++ [(k, b)]) := by
 subst hn
 have hne : ∀ {g}, Bt w g → g ∉ v.ownBlock.toList := by
  rintro g ⟨cs2, h2⟩ hm
  obtain ⟨cs, h1⟩ := hv g (by simpa using hm)
  rw [h1] at h2
  cases h2
 have keepB : ∀ {g}, Bt w g → Bt w' g := fun {g} h => by
  obtain ⟨cs, h2⟩ := id h
  exact ⟨cs, hc.heap h2 (hne h)⟩
 refine ⟨_, by rw [List.length_append]; exact ho, fun i hi => ?_⟩
 by_cases h : i < l.length
 ·obtain ⟨h0, g, c, h1, hf, h2, h3, h4⟩ := hx i h
  rw [List.getElem_append_left h]
  exact ⟨by rw [List.getElem?_append_left (by omega)]; exact h0, g, c, by rw [List.getElem?_append_left (by omega)]; exact h1, hf, h2.chgT hc (hne h4), h3, keepB h4⟩
 ·have hi2 : i = l.length := by simp at hi; omega
  subst hi2
  have e : (l ++ [(k, b)])[l.length]'(by simp) = (k, b) := by simp
  rw [e]
  exact ⟨by rw [← hl]; simp, gb, cb, by rw [← hl, List.getElem?_append_right (by omega)]; simp, hfr, hb.chgT hc (hne hbt), hb4, keepB hbt⟩
theorem PutsF.get {w : World} {fr lo : Nat} {v : Value} {l : List (Int × List UInt8)} (h : PutsF w fr lo v l) (k : Nat) (hk : k < l.length) : ∃ g cap gd cd, v = .slice (some ⟨g, 0, none⟩) l.length cap ∧ l.length ≤ cap ∧
  w.cell? ⟨g, k * 2, none⟩ = some (.int .i64 l[k].1) ∧ w.cell? ⟨g, k * 2 + 1, none⟩ = some (.slice (some ⟨gd, 0, none⟩) 40 cd) ∧ fr ≤ gd ∧ Bs w (some ⟨gd, 0, none⟩) l[k].2 ∧ l[k].2.length = 40 ∧ Bt w gd := by
 obtain ⟨xs, ho, hx⟩ := h
 obtain ⟨h0, gd, cd, h1, hf, h2, h3, h4⟩ := hx k hk
 rcases ho.2 with ⟨_, e⟩ | ⟨g, cap, cur, rfl, hA, hg, hc1, hc2, hc3, ht⟩
 ·omega
 ·refine ⟨g, cap, gd, cd, rfl, hc1, cell_is hg _ ?_, cell_is hg _ ?_, hf, h2, h3, h4⟩
  ·rw [← ht, List.getElem?_take_of_lt (by omega), Array.getElem?_toList] at h0
   exact h0
  ·rw [← ht, List.getElem?_take_of_lt (by omega), Array.getElem?_toList] at h1
   exact h1
set_option maxRecDepth 100000 in
set_option maxHeartbeats 4000000 in
theorem mdumpF (w : World) {lo X rx : Nat} {last : Int} {L : List (Int × Value)} {vs : Int → List (Int × List UInt8)} (h : VerG w lo X rx last L vs) (hk : ∀ x ∈ L, 0 ≤ x.1 ∧ x.1 < 258) (hl : L.length ≤ 1000) : Calls Tryz.prog 194 #[.pointer (some ⟨X, 0, none⟩)] w fun e w' =>
  ∃ v, e = .returned v ∧ Chg [] w w' ∧ PutsF w' w.heap.size w.heap.size v (dumpL L vs) := by
 have c0 : w.cell? ⟨X, 0, none⟩ = some (.int .i64 258) := cell_is h.x 0 rfl
 have c1 : w.cell? ⟨X, 1, none⟩ = some (.map (some rx)) := cell_is h.x 1 rfl
 have HG := Lib.hid (xgone_any w c0)
 have HS := Lib.hid (sortedC_any w h.m (fun p hp => wf_i64 (by have := hk p hp; omega) (by have := hk p hp; omega)) (by omega))
 have HB := Lib.hid h
 have HK := Lib.hid hk
 clear h hk
 go_enter Tryz.func194, Tryz.ntmps194
 go_wp2_with fail
 refine HG.out.mono ?_
 rintro e w1 ⟨rfl, rfl⟩
 go_wp2_with (first
  | (go_at_call 232; refine (keysC_any (some rx) _).mono ?_; rintro e w1 ⟨rfl, rfl⟩)
  | (go_at_call 163; refine HS.out.mono ?_; rintro e w2 ⟨v2, rfl, o2, k2⟩; obtain ⟨pk, ck, rfl, hck⟩ := own_form o2))
 have hsl : (sortI (L.map Prod.fst)).length = L.length := by rw [sortI_length, List.length_map]
 have hmem : ∀ k, k ∈ sortI (L.map Prod.fst) → 0 ≤ k ∧ k < 258 ∧ ∃ v, getL L k = some v := fun k hk => by
  have hk2 := (sortI_perm _).mem_iff.1 hk
  obtain ⟨p, hp, e⟩ := List.mem_map.1 hk2
  have := HK.out p hp
  exact ⟨by omega, by omega, getL_key hk2⟩
 have hpl : dumpL L vs = (sortI (L.map Prod.fst)).map fun k => (k, lastB (vs k)) := rfl
 have HP := Lib.hid hpl
 have HM := Lib.hid hmem
 have O2 := Lib.hid o2
 clear hmem hpl o2 HG HS
 generalize hks : sortI (L.map Prod.fst) = ks at *
 have c21 := k2.cell c1 (by simp)
 generalize hn : L.length = n at *
 have hcki : (n : Int) ≤ ck := by omega
 go_loopw [2, 4, 5, 15] (fun v _ _ i wr => ∃ j : Nat, j ≤ n ∧ i = .int .i64 j ∧ Chg [] w2 wr ∧ PutsF wr w.heap.size w2.heap.size v ((ks.take j).map fun k => (k, lastB (vs k)))) (fun _ _ _ i _ => n - (intOf i).toNat)
 case atStart => exact ⟨0, by omega, rfl, Chg.refl _ _, PutsF.nil _ _ _⟩
 case round =>
  obtain ⟨j, hj, rfl, kr, hp⟩ := hrel
  by_cases hlt : j < n
  ·have hjk : j < ks.length := by omega
   obtain ⟨hk0, hk1, v, hv⟩ := HM.out ks[j] (List.getElem_mem hjk)
   have kwr : Chg [] w wr := k2.then kr
   have hVr := HB.out.keep kwr
   obtain ⟨m, g, cg, gd, cd, hvv, hcg, hd, hb, hb4, hbt⟩ : ∃ m g cg gd cd, v = .slice (some ⟨g, 0, none⟩) (m + 1) cg ∧ m + 1 ≤ cg ∧ wr.cell? ⟨g, m * 2 + 1, none⟩ = some (.slice (some ⟨gd, 0, none⟩) 40 cd) ∧ Bs wr (some ⟨gd, 0, none⟩) (lastB (vs ks[j])) ∧ (lastB (vs ks[j])).length = 40 ∧ Bt wr gd := by
    rcases hVr.row ks[j] hk0 hk1 with ⟨e1, -⟩ | ⟨v', e1, e2, e3⟩
    ·rw [hv] at e1; cases e1
    ·rw [hv] at e1
     cases e1
     obtain ⟨m, hm⟩ : ∃ m, (vs ks[j]).length = m + 1 := ⟨(vs ks[j]).length - 1, by have := List.length_pos_iff.2 e3; omega⟩
     obtain ⟨g, cg, gd, cd, a1, a2, a3, a4, a5, a6⟩ := e2.last hm
     exact ⟨m, g, cg, gd, cd, by rw [a1]; congr 1, a2, a3, a4, a5, a6⟩
   subst hvv
   have hlook : (Instr.lookup 268 (.map (some rx)) (.int .i64 ks[j]) false).run Tryz.prog wr = .ok (.slice (some ⟨g, 0, none⟩) (m + 1) cg) wr := by
    have := lookup258g hVr.m ks[j]
    rw [hv] at this
    exact this
   have hm1 : m + 1 ≤ 1000000 := by
    have h1 := hVr.small ks[j]
    rcases hVr.row ks[j] hk0 hk1 with ⟨e1, -⟩ | ⟨v', e1, ⟨xs, e2, -⟩, e3⟩
    ·rw [hv] at e1; cases e1
    ·rw [hv] at e1
     cases e1
     rcases e2.2 with ⟨e, -⟩ | ⟨g', cap, cur, e, -⟩
     ·cases e
     ·injection e with _ e
      omega
   have ck0 : ∃ gk, pk = some ⟨gk, 0, none⟩ ∧ wr.cell? ⟨gk, j, none⟩ = some (.int .i64 ks[j]) := by
    rcases O2.out.2 with ⟨_, h0⟩ | ⟨gk, cap, cur, e, hA, hg, hc1, hc2, hc3, ht⟩
    ·omega
    ·injection e with e1
     refine ⟨gk, e1, kr.cell (cell_is hg j ?_) (by simp)⟩
     have h1 : (ks.map encZ)[j]? = some (.int .i64 ks[j]) := by simp [hjk]
     rw [← ht, List.getElem?_take_of_lt (by omega), Array.getElem?_toList] at h1
     exact h1
   obtain ⟨gk, rfl, ck1⟩ := ck0
   have cw2 := kr.cell c21 (by simp)
   have HBs := Lib.hid hb
   have HPt := Lib.hid hp
   have HTk := Lib.hid (show (ks.take (j + 1)).map (fun k => (k, lastB (vs k))) = (ks.take j).map (fun k => (k, lastB (vs k))) ++ [(ks[j], lastB (vs ks[j]))] by rw [List.take_succ_eq_append_getElem hjk, List.map_append]; rfl)
   have HL4 := Lib.hid hb4
   have HBt := Lib.hid hbt
   have hsub : wrap64 ((m : Int) + 1 - 1) = (m : Nat) := by unfold wrap64; omega
   have hcgi : (m : Int) < cg := by omega
   clear hb hp hb4 hbt hv hVr kwr
   generalize ks[j] = k at *
   go_wp2_with fail
   refine (clone_bt wr HL4.out (by decide) (by decide) HBs.out).mono ?_
   rintro e w3 ⟨g2, c2, rfl, k3, b3, l3, t3⟩
   obtain ⟨xs, ho3, hx3⟩ := HPt.out.keep0 k3
   have hpl3 : ((ks.take j).map fun k => (k, lastB (vs k))).length = j := by simp; omega
   have hb23 := (HPt.out.keep0 k3).block
   have hs3 : w2.heap.size ≤ w3.heap.size := (kr.then k3).size
   have HFr := Lib.hid (show w.heap.size ≤ g2 from Nat.le_trans (k2.then kr).size l3)
   have B3 := Lib.hid b3
   have T3 := Lib.hid t3
   have HX3 := Lib.hid hx3
   have HO3 := Lib.hid ho3
   have H23 := Lib.hid hb23
   clear b3 t3 hx3 hb23 ho3
   go_wp2_with (at_builtin; refine wpList_append_lit rfl (.tmp 25) (.tmp 36) 85 50 rfl ty69 inf92 rfl (by decide) w2.heap.size w3 [.int .i64 k, .slice (some ⟨g2, 0, none⟩) 40 c2] 1 rfl _ ((ks.take j).map fun k => (k, lastB (vs k))).length xs rfl HO3.out (by omega) (by decide) hs3 (k := 0) rfl (by simp [Value.oneCell']) rfl 1 rfl ?_; intro v' w4 hap)
   have hxl : xs.length = ((ks.take j).map fun k => (k, lastB (vs k))).length * 2 := HO3.out.1
   have hfin : PutsF w4 w.heap.size w2.heap.size v' (((ks.take j).map fun k => (k, lastB (vs k))) ++ [(k, lastB (vs k))]) := PutsF.push HX3.out hxl rfl (fun g hg => (H23.out g hg).2) hap.1 (Chg.own hap.2.2 (fun g hg _ => by have hg2 : u2.ownBlock = some g := hg; simp [hg2])) B3.out HFr.out HL4.out T3.out
   rw [← HTk.out] at hfin
   go_roundw
   case rel => exact ⟨j + 1, by omega, by simp, Chg.of_below ((kr.then k3).below0.trans hap.2.1), hfin⟩
   case measure => simp [intOf]; omega
  ·obtain rfl : j = n := by omega
   go_wp2_with fail
   go_ret
   refine ⟨_, rfl, k2.then kr, ?_⟩
   rw [HP.out]
   rw [List.take_of_length_le (by omega)] at hp
   obtain ⟨xs, ho, hx⟩ := hp
   exact ⟨xs, own_base ho k2.size, hx⟩
set_option maxRecDepth 100000 in
theorem mgrdumpF (w : World) {lo M X B r rx : Nat} {qv : Value} {out num bas last given lastv : Int} {rd : Bool} {L : List (Int × Value)} {vs : Int → List (Int × List UInt8)} (hM : MgrG w M X B r qv out num bas last given rd) (h : VerG w lo X rx lastv L vs) (hk : ∀ x ∈ L, 0 ≤ x.1 ∧ x.1 < 258) (hl : L.length ≤ 1000) : Calls Tryz.prog 129 #[.pointer (some ⟨M, 0, none⟩)] w fun e w' =>
  ∃ v, e = .returned v ∧ Chg [] w w' ∧ PutsF w' w.heap.size w.heap.size v (dumpL L vs) := by
 have HG := Lib.hid (tgone_mg w hM)
 have HD := Lib.hid (mdumpF w h hk hl)
 have c0 : w.cell? ⟨M, 0, none⟩ = some (.pointer (some ⟨X, 0, none⟩)) := cell_is hM 0 rfl
 clear h hM
 go_enter Tryz.func129, Tryz.ntmps129
 go_wp2_with fail
 refine HG.out.mono ?_
 rintro e w1 ⟨rfl, rfl⟩
 go_wp2_with fail
 refine HD.out.mono ?_
 rintro e w1 ⟨v, rfl, hh⟩
 have HH := Lib.hid hh
 clear hh
 go_wp2_with fail
 go_ret
 exact ⟨v, rfl, HH.out⟩
theorem step_append_by {ops : Array Oper} {o : Oper} {a : Act} {w : World} {K : Act → World → Prop} {Q : Exit → Act → World → Prop} {E : Prop} (hgd : o.guard = none) (s x : Operand)
    (ho : o.op = .call { callee := .builtin .append, args := #[s, x], argTypes := #[47, 47] }) (base b bo m c n : Nat) (v : Value) (l r : List UInt8) (hs : a.eval s = v) (hown : w.ownsRow base 5 1 v n (Lib.byteCells l)) (hbase : base ≤ w.heap.size) (hn : n ≤ 1000000)
    (hx : a.eval x = .slice (some ⟨b, bo, none⟩) m c) (hb : Bs w (some ⟨b, bo, none⟩) r) (hr : r.length = m) (hm0 : 0 < m) (hm : m ≤ 1000000)
    (h : ∀ g cap w', w'.ownsRow base 5 1 (.slice (some ⟨g, 0, none⟩) (n + m) cap) (n + m) (Lib.byteCells (l ++ r)) → Chg v.ownBlock.toList w w' → (v.ownBlock = some g ∨ g = w.heap.size) → K (a.put o.dst (.slice (some ⟨g, 0, none⟩) (n + m) cap)) w') :
    if Region.wanted o (yielded ops a.tmps) = true then Oper.wp Tryz.prog o a w K Q else E := by
  obtain ⟨i, hi0, hz, hz1, hz2⟩ := info_parts inf5c
  refine step_append_lies w hgd s x 47 ho base 5 i _ 1 1 ty23 hi0 hz hz1 hz2 rfl (by decide) v n _ hs hown ⟨b, bo, none⟩ m c (Lib.byteCells r) hx (by simp [Lib.byteCells, hr]) ?_ ?_ hm0 (by unfold maxLen; omega) (by omega) hbase _ rfl ?_
  · intro j u hu
    rw [show (⟨b, bo, none⟩ : Addr).add j = ⟨b, bo + j, none⟩ from by unfold Addr.add; split <;> simp_all]
    have hj : j < r.length := by
      have := (List.getElem?_eq_some_iff.1 hu).1
      simpa [Lib.byteCells] using this
    rw [hb.at_ j hj]
    rw [← hu]
    simp [Lib.byteCells, hj]
  · intro u hu
    simp only [Lib.byteCells, List.mem_map] at hu
    obtain ⟨y, -, rfl⟩ := hu
    rfl
  · intro g cap w' h2 h3 h4 _
    refine h g cap w' ?_ (Chg.own h3 (fun g hg _ => by simp [hg])) h4
    rw [show Lib.byteCells (l ++ r) = Lib.byteCells l ++ Lib.byteCells r by simp [Lib.byteCells]]
    exact h2
def textB (last : Nat) (l : List (Int × List UInt8)) : List UInt8 := leB last 8 ++ (l.map fun p => leB p.1.toNat 4 ++ p.2).flatten
theorem textB_nil (last : Nat) : textB last [] = leB last 8 := by simp [textB]
theorem textB_snoc (last : Nat) (l : List (Int × List UInt8)) (p : Int × List UInt8) : textB last (l ++ [p]) = (textB last l ++ leB p.1.toNat 4) ++ p.2 := by simp [textB]
theorem textB_length (last : Nat) (l : List (Int × List UInt8)) (h : ∀ p ∈ l, p.2.length = 40) : (textB last l).length = 8 + 44 * l.length := by
  induction l with
  | nil => simp [textB, leB_length]
  | cons p l ih =>
    have ih := ih (fun q hq => h q (List.mem_cons_of_mem _ hq))
    have hp := h p List.mem_cons_self
    simp only [textB, List.length_append, leB_length, List.map_cons, List.flatten_cons, List.length_cons] at ih ⊢
    omega
theorem dumpL_keys {L : List (Int × Value)} (vs : Int → List (Int × List UInt8)) (hk : ∀ x ∈ L, 0 ≤ x.1 ∧ x.1 < 258) : ∀ p ∈ dumpL L vs, 0 ≤ p.1 ∧ p.1 < 258 := fun p hp => by
  simp only [dumpL, List.mem_map] at hp
  obtain ⟨k, hk2, rfl⟩ := hp
  obtain ⟨q, hq, e2⟩ := List.mem_map.1 ((sortI_perm _).mem_iff.1 hk2)
  have := hk q hq
  show 0 ≤ k ∧ k < 258
  omega
set_option maxRecDepth 100000 in
theorem tlast_ok (w : World) {M X B r : Nat} {qv : Value} {out num bas last given : Int} {rd : Bool} (h : MgrG w M X B r qv out num bas last given rd) : Calls Tryz.prog 128 #[.pointer (some ⟨M, 0, none⟩)] w fun e w' => e = .returned (.int .i64 last) ∧ w = w' := by
  have HG := Lib.hid (tgone_mg w h)
  have c7 : w.cell? ⟨M, 7, none⟩ = some (.int .i64 last) := cell_is h 7 rfl
  clear h
  go_enter Tryz.func128, Tryz.ntmps128
  go_wp2_with fail
  refine HG.out.mono ?_
  rintro e w1 ⟨rfl, rfl⟩
  go_wp2_with fail
  go_ret
  exact ⟨rfl, rfl⟩
set_option maxRecDepth 100000 in
set_option maxHeartbeats 4000000 in
theorem stext_ok (w : World) {lo P N S M X B r rx pos num : Nat} {qv : Value} {out nm bas given lastv : Int} {lst : Nat} {rd : Bool} {L : List (Int × Value)} {vs : Int → List (Int × List UInt8)} (hS : StoreG w P N S M pos num) (hM : MgrG w M X B r qv out nm bas lst given rd) (h : VerG w lo X rx lastv L vs) (hk : ∀ x ∈ L, 0 ≤ x.1 ∧ x.1 < 258) (hl : L.length ≤ 1000) (hlast : lst ≤ 1099511627776) :
    Calls Tryz.prog 58 #[.pointer (some ⟨P, 0, none⟩)] w fun e w' => ∃ g c, e = .returned (.slice (some ⟨g, 0, none⟩) (textB lst (dumpL L vs)).length c) ∧ Chg [] w w' ∧ w'.ownsRow w.heap.size 5 1 (.slice (some ⟨g, 0, none⟩) (textB lst (dumpL L vs)).length c) (textB lst (dumpL L vs)).length (Lib.byteCells (textB lst (dumpL L vs))) := by
  have p5 : w.cell? ⟨P, 5, none⟩ = some (.pointer (some ⟨M, 0, none⟩)) := cell_is hS 5 rfl
  have HL := Lib.hid (tlast_ok w hM)
  have n1 : IntKind.u64.wrap (lst : Int) = (lst : Int) := by rw [IntKind.wrap_u64]; omega
  have HP := Lib.hid (put64_own w lst (by omega) (Nat.le_refl w.heap.size))
  have HA := Lib.hid (And.intro hM (And.intro h (And.intro hk hl)))
  clear hS hM h hk hl
  go_enter Tryz.func58, Tryz.ntmps58
  go_wp2_with fail
  refine HL.out.mono ?_
  rintro e w1 ⟨rfl, rfl⟩
  go_wp2_with fail
  refine HP.out.mono ?_
  rintro e w1 ⟨g1, rfl, k1, o1⟩
  have p51 := k1.cell p5 (by simp)
  have HD := Lib.hid (mgrdumpF w1 (k1.heap HA.out.1 (by simp)) (HA.out.2.1.keep k1) HA.out.2.2.1 HA.out.2.2.2)
  have HO := Lib.hid (And.intro k1 o1)
  clear k1 o1 HL HP p5
  go_wp2_with fail
  refine HD.out.mono ?_
  rintro e w2 ⟨dv, rfl, k2, hp⟩
  have hdl : (dumpL L vs).length = L.length := by simp [dumpL, sortI_length]
  have hL := HA.out.2.2.2
  have hdk1 := dumpL_keys vs HA.out.2.2.1
  generalize hdq : dumpL L vs = dl at *
  have HDq := Lib.hid hdq
  clear hdq
  obtain ⟨pv, cv, rfl, hcv⟩ : ∃ pv cv, dv = .slice pv dl.length cv ∧ dl.length ≤ cv := by
    obtain ⟨xs, ho, -⟩ := hp
    exact own_form ho
  have hdk : ∀ p ∈ dl, (0 ≤ p.1 ∧ p.1 < 258) ∧ p.2.length = 40 := fun p hp2 => by
    refine ⟨hdk1 p hp2, ?_⟩
    obtain ⟨i, hi, rfl⟩ := List.getElem_of_mem hp2
    obtain ⟨_, _, _, _, _, _, _, _, _, _, h40, _⟩ := hp.get i hi
    exact h40
  clear hdk1
  obtain ⟨n, hn⟩ : ∃ n, n = dl.length := ⟨_, rfl⟩
  have HQ := Lib.hid (And.intro hp (And.intro hdk (And.intro hn (HO.out.1.then k2))))
  have hn1 : n ≤ 1000 := by omega
  rw [← hn] at hcv ⊢
  have HOw := Lib.hid (own_keep HO.out.2 k2.below0)
  have hsz2 : w.heap.size ≤ w2.heap.size := HQ.out.2.2.2.size
  have hg1 : w.heap.size ≤ g1 ∧ g1 < w1.heap.size := by obtain ⟨h1, cur, hh⟩ := own_elem HO.out.2 (g := g1) rfl; exact ⟨h1, heap_lt hh⟩
  clear hp hdk hn hdl hL k2 HD p51
  go_wp2_with fail
  go_loopw [3, 5, 19] (fun v _ i wr => ∃ j : Nat, j ≤ n ∧ i = .int .i64 j ∧ Chg [g1] w2 wr ∧ ∃ g c, v = .slice (some ⟨g, 0, none⟩) (8 + 44 * j) c ∧ wr.ownsRow w.heap.size 5 1 v (8 + 44 * j) (Lib.byteCells (textB lst (dl.take j))) ∧ (g = g1 ∨ w2.heap.size ≤ g)) (fun _ _ i _ => n - (intOf i).toNat)
  case atStart => exact ⟨0, Nat.zero_le _, rfl, Chg.refl _ _, g1, 8, rfl, by rw [List.take_zero, textB_nil]; exact HOw.out, Or.inl rfl⟩
  case round =>
    obtain ⟨j, hj, rfl, kr, g, c, rfl, ho, hg⟩ := hrel
    by_cases hlt : j < n
    · have hjd : j < dl.length := by have := HQ.out.2.2.1; omega
      obtain ⟨gp, cp, gd, cd, epv, hcp, e0, e1, hfr, hb, h40, hbt⟩ := HQ.out.1.get j hjd
      have hgd2 : gd < w2.heap.size := by obtain ⟨cs, hh⟩ := hbt; exact heap_lt hh
      have hgp : w1.heap.size ≤ gp := by
        rw [epv] at HQ
        exact (HQ.out.1.block gp rfl).1
      have hgne : gd ≠ g := by omega
      have hgd1 : gd ∉ [g1] := by rw [List.mem_singleton]; omega
      replace e0 := kr.cell e0 (by simp; omega)
      replace e1 := kr.cell e1 (by simp; omega)
      replace hb := hb.chgT kr hgd1
      replace hbt := Bt.keep hbt kr hgd1
      rw [← HQ.out.2.2.1] at epv hcp
      cases epv
      obtain ⟨hk0, -⟩ := HQ.out.2.1 dl[j] (List.getElem_mem hjd)
      have htk : dl.take (j + 1) = dl.take j ++ [dl[j]] := by rw [List.take_add_one, List.getElem?_eq_getElem hjd]; rfl
      obtain ⟨ky, db, hkd⟩ : ∃ ky db, dl[j] = (ky, db) := ⟨_, _, rfl⟩
      rw [hkd] at e0 hb h40 hk0 htk
      obtain ⟨kn, rfl⟩ : ∃ kn : Nat, ky = kn := ⟨ky.toNat, by have : 0 ≤ ky := hk0.1; omega⟩
      have hkn : kn < 258 := by have : (kn : Int) < 258 := hk0.2; omega
      have m1 : decide ((j : Int) < (n : Int)) = true := decide_eq_true (by omega)
      have m2 : IntKind.u32.wrap (kn : Int) = (kn : Int) := by rw [IntKind.wrap_u32]; omega
      have kB : Chg [] wr (wr.alloc (.cells #[.int .i64 kn, .slice (some ⟨gd, 0, none⟩) 40 cd] 50)) := Chg.alloc wr _
      have yB := heap_new wr (.cells #[.int .i64 kn, .slice (some ⟨gd, 0, none⟩) 40 cd] 50)
      have hrs : w.heap.size ≤ wr.heap.size ∧ w2.heap.size ≤ wr.heap.size := ⟨Nat.le_trans hsz2 kr.size, kr.size⟩
      generalize hz : wr.heap.size = z at *
      have HX := Lib.hid (And.intro (own_keep ho kB.below0) (And.intro (hb.chg kB) (And.intro (Bt.keep hbt kB (by simp)) (And.intro h40 (And.intro htk (kr.then (kB.mono (fun x hx _ => by cases hx))))))))
      clear ho hb hbt h40 htk hkd hk0 kr kB
      go_upto_region 5 with fail
      generalize wr.alloc (.cells #[.int .i64 kn, .slice (some ⟨gd, 0, none⟩) 40 cd] 50) = w3 at *
      have HP32 := Lib.hid (put32_any w3.drew kn (by omega))
      have a0 : w3.cell? ⟨z, 0, none⟩ = some (.int .i64 kn) := cell_is yB 0 rfl
      have a1 : w3.cell? ⟨z, 1, none⟩ = some (.slice (some ⟨gd, 0, none⟩) 40 cd) := cell_is yB 1 rfl
      have a0d : w3.drew.cell? ⟨z, 0, none⟩ = some (.int .i64 kn) := a0
      have a1d : w3.drew.cell? ⟨z, 1, none⟩ = some (.slice (some ⟨gd, 0, none⟩) 40 cd) := a1
      have HY := Lib.hid yB
      have h16 : 8 + 44 * j ≤ 1000000 := by omega
      have h17 : 8 + 44 * j + 4 ≤ 1000000 := by omega
      clear yB
      go_region_law
        (first
          | (go_simp; go_at_call 130; refine HP32.out.mono ?_; rintro e w4 ⟨g4, rfl, k4, b4, s4⟩
             have y4 := k4.heap (show w3.drew.heap[z]? = _ from HY.out) (by simp)
             have a04 : w4.cell? ⟨z, 0, none⟩ = some (.int .i64 kn) := cell_is y4 0 rfl
             have a14 : w4.cell? ⟨z, 1, none⟩ = some (.slice (some ⟨gd, 0, none⟩) 40 cd) := cell_is y4 1 rfl
             have o4 := own_keep (show w3.drew.ownsRow _ _ _ _ _ _ from HX.out.1) k4.below0
             have hb4 : w.heap.size ≤ w4.heap.size := Nat.le_trans (by have := heap_lt HY.out; show w.heap.size ≤ w3.heap.size; omega) k4.size)
          | (refine step_append_by rfl (.tmp 23) (.tmp 27) rfl w.heap.size g4 0 4 4 (8 + 44 * j) (.slice (some ⟨g, 0, none⟩) (8 + 44 * j) c) (textB lst (dl.take j)) (leB kn 4) rfl o4 hb4 h16 rfl b4 (leB_length _ _) (by decide) (by decide) ?_
             intro g5 c5 w5 o5 k5 n5
             have hzg : z ∉ (Value.slice (some ⟨g, 0, none⟩) (8 + 44 * j) c).ownBlock.toList := fun hm => by
               obtain ⟨-, cur, hh⟩ := own_elem o4 (g := z) (by simpa using hm)
               rw [y4] at hh
               cases hh
             have y5 := k5.heap y4 hzg
             have a15 : w5.cell? ⟨z, 1, none⟩ = some (.slice (some ⟨gd, 0, none⟩) 40 cd) := cell_is y5 1 rfl
             have hgd : gd ∉ (Value.slice (some ⟨g, 0, none⟩) (8 + 44 * j) c).ownBlock.toList := fun hm => hgne (by
               have e : (Value.slice (some ⟨g, 0, none⟩) (8 + 44 * j) c).ownBlock = some gd := by simpa using hm
               cases e
               rfl)
             have b5 := ((show Bs w3.drew _ _ from HX.out.2.1).chg k4).chgT k5 hgd
             have hb5 : w.heap.size ≤ w5.heap.size := Nat.le_trans hb4 k5.size)
          | (refine step_append_by rfl (.tmp 28) (.tmp 30) rfl w.heap.size gd 0 40 cd (8 + 44 * j + 4) (.slice (some ⟨g5, 0, none⟩) (8 + 44 * j + 4) c5) (textB lst (dl.take j) ++ leB kn 4) db rfl o5 hb5 h17 rfl b5 HX.out.2.2.2.1 (by decide) (by decide) ?_
             intro g6 c6 w6 o6 k6 n6))
      all_goals
        have hnew : Hid (Chg [g1] w2 w6 ∧ w6.ownsRow w.heap.size 5 1 (.slice (some ⟨g6, 0, none⟩) (8 + 44 * (j + 1)) c6) (8 + 44 * (j + 1)) (Lib.byteCells (textB lst (dl.take (j + 1)))) ∧ (g6 = g1 ∨ w2.heap.size ≤ g6)) := Lib.hid (by
          have hk := HX.out.2.2.2.2.2
          have e1 : textB lst (dl.take (j + 1)) = (textB lst (dl.take j) ++ leB kn 4) ++ db := by rw [HX.out.2.2.2.2.1, textB_snoc]; rfl
          have k24 : Chg [g1] w2 w4 := hk.drew.then (k4.mono (fun x hx _ => by cases hx))
          have g5w : g5 = g1 ∨ w2.heap.size ≤ g5 := by
            rcases n5 with h | h
            · cases h; exact hg
            · right; have := k24.size; omega
          have k25 : Chg [g1] w2 w5 := k24.trans k5 (fun x hx hl => by
            have e : (Value.slice (some ⟨g, 0, none⟩) (8 + 44 * j) c).ownBlock = some x := by simpa using hx
            obtain rfl : g = x := by cases e; rfl
            rcases hg with h | h
            · rw [h]; exact List.mem_singleton.2 rfl
            · omega)
          refine ⟨k25.trans k6 (fun x hx hl => ?_), ?_, ?_⟩
          · have e : (Value.slice (some ⟨g5, 0, none⟩) (8 + 44 * j + 4) c5).ownBlock = some x := by simpa using hx
            obtain rfl : g5 = x := by cases e; rfl
            rcases g5w with h | h
            · rw [h]; exact List.mem_singleton.2 rfl
            · omega
          · rw [e1]
            exact o6
          · rcases n6 with h | h
            · cases h; exact g5w
            · right; have := k25.size; omega)
        have m3 : IntKind.i64.wrap ((j : Int) + 1) = ((j + 1 : Nat) : Int) := by rw [IntKind.wrap_i64]; omega
        clear HP32 a0 a1 a0d a1d k4 b4 s4 y4 a04 a14 o4 hb4 o5 k5 n5 hzg y5 a15 hgd b5 hb5 o6 k6 n6
        go_wp2_with fail
        exact ⟨⟨j + 1, by omega, by go_num, hnew.out.1, g6, c6, rfl, hnew.out.2⟩, by simp [intOf]; omega⟩
    · have hje : j = n := by omega
      subst hje
      have m1 : decide ((j : Int) < (j : Int)) = false := decide_eq_false (by omega)
      have hlen : (textB lst dl).length = 8 + 44 * j := by rw [textB_length _ _ (fun p hp => (HQ.out.2.1 p hp).2), ← HQ.out.2.2.1]
      rw [List.take_of_length_le (by rw [← HQ.out.2.2.1]; exact Nat.le_refl _)] at ho
      have HZ := Lib.hid (And.intro ho (And.intro hlen (HQ.out.2.2.2.trans kr (fun x hx hl => by rw [List.mem_singleton] at hx; omega))))
      clear ho hlen kr HOw
      go_wp2_with fail
      go_ret
      rw [HDq.out, HZ.out.2.1]
      exact ⟨g, c, rfl, HZ.out.2.2, HZ.out.1⟩
def ckG (g : Gd) (inn : Int) (tv : Value) (ops : Int) (dv : Nat → Value) (zs : Nat → List (List UInt8)) : Gd := { g with pos := 0, num := 0, inn := inn, tv := tv, cnt := g.cnt + 1, ops := ops, dv := dv, gs := lenF zs, zs := zs }
def Cw (lw : Nat) (w w' : World) : Prop := ∃ U, Chg U w w' ∧ ∀ x ∈ U, x < w.heap.size → lw ≤ x ∧ ∃ cs t, w.heap[x]? = some (.cells cs t (0, 0)) ∧ t ∈ [102, 128, 132, 47, 210]
theorem Cw.of_chg {lw : Nat} {w w' : World} (h : Chg [] w w') : Cw lw w w' := ⟨[], h, fun x hx => by cases hx⟩
theorem Cw.trans {lw : Nat} {a b c : World} (h : Cw lw a b) (k : Cw lw b c) : Cw lw a c := by
  obtain ⟨S, h1, h2⟩ := h
  obtain ⟨U, k1, k2⟩ := k
  refine ⟨S ++ U, (h1.mono (fun x hx _ => List.mem_append_left _ hx)).trans k1 (fun x hx _ => List.mem_append_right _ hx), fun x hx hlt => ?_⟩
  by_cases hT : x ∈ S
  · exact h2 x hT hlt
  · rcases List.mem_append.1 hx with h | h
    · exact absurd h hT
    · obtain ⟨e1, cs, t, e2, e3⟩ := k2 x h (Nat.lt_of_lt_of_le hlt h1.size)
      exact ⟨e1, cs, t, by rw [← h1.block x hlt hT]; exact e2, e3⟩
theorem Cw.of_tp {lw : Nat} {w w' : World} {U ts : List Nat} (h : Chg U w w') (ht : Tp w U ts) (hts : ∀ t ∈ ts, t ∈ [102, 128, 132, 47, 210]) (hl : ∀ x ∈ U, lw ≤ x) : Cw lw w w' :=
  ⟨U, h, fun x hx _ => ⟨hl x hx, by obtain ⟨cs, t, e1, e2⟩ := ht x hx; exact ⟨cs, t, e1, hts t e2⟩⟩⟩
theorem Cw.cs {lw : Nat} {w w' : World} (h : Cw lw w w') : Cs lw w w' := by
  obtain ⟨U, h1, h2⟩ := h
  refine ⟨U, h1, fun x hx hlt => ⟨(h2 x hx hlt).1, fun cs t fr hh => ?_⟩⟩
  obtain ⟨-, cs', t', e1, e2⟩ := h2 x hx hlt
  rw [hh] at e1
  cases e1
  exact (show ∀ t ∈ [102, 128, 132, 47, 210], t ∈ [102, 195, 203, 270, 288, 128, 132, 47, 265, 210] by decide) t e2
theorem Wtx.keepW {w w' : World} {lw : Nat} {d : Ids} {s : Gs} {gq cq : Nat} {hdl : Int} {k : Nat} {t t0 : Int} {L : List (Int × Value)} {D : Int → List UInt8} (h : Wtx w d s gq cq hdl k t t0 L D) (hc : Cw lw w w') : Wtx w' d s gq cq hdl k t t0 L D := by
  obtain ⟨U, h1, h2⟩ := hc
  have lt : ∀ {x : Nat} {b}, w.heap[x]? = some b → x < w.heap.size := fun hh => (Array.getElem?_eq_some_iff.1 hh).1
  refine h.keepA h1 (fun x hx cs t fr hh ht => ?_) (fun hr => ?_)
  · obtain ⟨-, cs', t', e1, e2⟩ := h2 x hx (lt hh)
    rw [hh] at e1
    cases e1
    exact absurd ht ((show ∀ t ∈ [102, 128, 132, 47, 210], t ∉ [3, 203, 267, 5] by decide) t e2)
  · have hm := h.buf.2
    rcases Nat.lt_or_ge d.rw w.heap.size with hlt | hge
    · obtain ⟨-, cs', t', e1, -⟩ := h2 _ hr hlt
      exact absurd rfl (map_cells hm e1)
    · obtain ⟨es, ck, hh, -⟩ := hm
      exact absurd (lt hh) (by omega)
def CkR (w w' : World) (lw : Nat) (d : Ids) (s : Gs) (g : Gd) (i a : Nat) (F : List (List UInt8)) : Prop :=
  ∃ tv ops dv, (g.ops ≤ ops ∧ ops ≤ g.ops + 302) ∧ Sto w' lw d s (ckG g i tv ops dv (clrF (putF g.zs a F F.length) 6 8)) ∧ Cw lw w w'
def svG (g : Gd) (inn : Int) (tv : Value) (ops : Int) (dv : Nat → Value) (zs : Nat → List (List UInt8)) : Gd := { g with inn := inn, tv := tv, cnt := g.cnt + 1, ops := ops, dv := dv, gs := lenF zs, zs := zs }
theorem SvR.sto {w w' : World} {lw : Nat} {d : Ids} {s : Gs} {g : Gd} {ni : Int} {a : Nat} {l : List UInt8} (hs : SvR w w' lw g.dlo d.S d.N d.A d.c d.Z g.ops g.zs ni a g.cnt l) (h : Sto w lw d s g) :
    ∃ ops tv dv, (g.ops ≤ ops ∧ ops ≤ g.ops + 300) ∧ Sto w' lw d s (svG g ni tv ops dv (putF g.zs a (encS (g.cnt + 1) l) (encS (g.cnt + 1) l).length)) ∧ Cw lw w w' := by
  obtain ⟨ops, tv, ho, ⟨dv, hd⟩, hS, ht, U, u1, u2, u3⟩ := hs
  have tp : Tp w (d.S :: U) [210, 128, 132, 47] := fun x hx => by
    rcases List.mem_cons.1 hx with rfl | hx
    · exact ⟨_, _, h.slot, by simp⟩
    · obtain ⟨cs, t, e1, e2⟩ := u2 x hx
      exact ⟨cs, t, e1, List.mem_cons_of_mem _ e2⟩
  have hbn := h.bnd
  have hlo : ∀ x ∈ d.S :: U, lw ≤ x := fun x hx => by
    rcases List.mem_cons.1 hx with rfl | hx
    · omega
    · exact u3 x hx
  refine ⟨ops, tv, dv, ho, ⟨?_, hS, ht, hd, h.mx.keepA u1 (tp.av (by decide)) (tp.map h.mx.ver.m) (tp.map h.mx.book.2) (tp.map h.mx.map), h.ap, h.keys, h.bnd, h.bndZ, Nat.le_trans h.slo u1.size, h.dlo⟩, Cw.of_tp u1 tp (by decide) hlo⟩
  exact u1.heap h.store ((tp.av (ts' := [102]) (by decide)).ne h.store (by simp))
theorem Sto.redev {w w' : World} {lw : Nat} {d : Ids} {s : Gs} {g : Gd} {U : List Nat} {inn : Int} {tv : Value} {ops ops' : Int} {dv dv' : Nat → Value} {zs zs' : Nat → List (List UInt8)} (h : Sto w lw d s (svG g inn tv ops dv zs)) (hc : Chg U w w') (tp : Tp w U [128, 132]) (hlo : ∀ x ∈ U, lw ≤ x) (hd : DevG w' g.dlo d.N d.A d.c ops' d.Z dv' (lenF zs') zs') :
    Sto w' lw d s (svG g inn tv ops' dv' zs') ∧ Cw lw w w' := by
  refine ⟨⟨?_, ?_, h.text.keep hc (tp.av (by decide)), hd, h.mx.keepA hc (tp.av (by decide)) (tp.map h.mx.ver.m) (tp.map h.mx.book.2) (tp.map h.mx.map), h.ap, h.keys, h.bnd, h.bndZ, Nat.le_trans h.slo hc.size, h.dlo⟩, Cw.of_tp hc tp (by decide) hlo⟩
  · exact hc.heap h.store ((tp.av (ts' := [102]) (by decide)).ne h.store (by simp))
  · exact hc.heap h.slot ((tp.av (ts' := [210]) (by decide)).ne h.slot (by simp))
theorem dumpL_data {w : World} {lo X rx : Nat} {last : Int} {L : List (Int × Value)} {vs : Int → List (Int × List UInt8)} (h : VerG w lo X rx last L vs) (hk : ∀ x ∈ L, 0 ≤ x.1 ∧ x.1 < 258) : ∀ p ∈ dumpL L vs, p.2.length = 40 := fun p hp => by
  simp only [dumpL, List.mem_map] at hp
  obtain ⟨k, hk2, rfl⟩ := hp
  have hk3 := (sortI_perm _).mem_iff.1 hk2
  obtain ⟨v, hv⟩ := getL_key hk3
  obtain ⟨q, hq, e2⟩ := List.mem_map.1 hk3
  have hq2 := hk q hq
  rcases h.row k (by omega) (by omega) with ⟨e1, -⟩ | ⟨v', e1, e3, e4⟩
  · rw [hv] at e1; cases e1
  · obtain ⟨m, hm⟩ : ∃ m, (vs k).length = m + 1 := ⟨(vs k).length - 1, by have := List.length_pos_iff.2 e4; omega⟩
    obtain ⟨_, _, _, _, _, _, _, _, h40, _⟩ := e3.last hm
    exact h40
set_option maxRecDepth 100000 in
set_option maxHeartbeats 4000000 in
theorem scheck_ok (w : World) {lw : Nat} {d : Ids} {s : Gs} {g : Gd} {inn i a lst : Nat} (h : Sto w lw d s g) (hi : (inn = 1 ∧ i = 0 ∧ a = 0) ∨ (inn = 0 ∧ i = 1 ∧ a = 3)) (hinn : g.inn = inn) (hl : s.Lv.length ≤ 258) (hlast : s.last = lst) (hl2 : lst ≤ 1099511627776) (h0 : 0 ≤ g.ops) (h1 : g.ops ≤ 800000) (hn : g.cnt < 1099511627776) (hlw : lw ≤ w.heap.size) :
    Calls Tryz.prog 20 #[.pointer (some ⟨d.P, 0, none⟩)] w fun e w' => e = .returned (.int .i64 0) ∧ CkR w w' lw d s g i a (encS (g.cnt + 1) (textB lst (dumpL s.Lv s.vs))) := by
  have HDe := Lib.hid (dead_g w h.store)
  have hM := h.mx.mgr
  rw [hlast] at hM
  have HT := Lib.hid (stext_ok w.drew (L := s.Lv) (vs := s.vs) (show StoreG w.drew d.P d.N d.S d.M g.pos g.num from h.store) hM (h.mx.ver.keep (Chg.refl [] w).drew) h.keys (by omega) hl2)
  have p6 : w.cell? ⟨d.P, 6, none⟩ = some (.pointer (some ⟨d.S, 0, none⟩)) := cell_is h.store 6 rfl
  have hdl : ∀ p ∈ dumpL s.Lv s.vs, p.2.length = 40 := dumpL_data h.mx.ver h.keys
  have htl : (textB lst (dumpL s.Lv s.vs)).length = 8 + 44 * s.Lv.length := by rw [textB_length _ _ hdl]; simp [dumpL, sortI_length]
  have HI := Lib.hid hi
  have HH := Lib.hid (And.intro h (And.intro hinn hlw))
  clear h hi hM hdl hinn
  generalize textB lst (dumpL s.Lv s.vs) = tx at *
  obtain ⟨m, hm⟩ : ∃ m, m = tx.length := ⟨_, rfl⟩
  rw [← hm] at HT htl
  have hm1 : 0 < m ∧ m ≤ 11440 := by omega
  have HM := Lib.hid hm
  clear hm htl hl
  go_enter Tryz.func20, Tryz.ntmps20
  go_wp2_with fail
  refine HDe.out.mono ?_
  rintro e w1 ⟨rfl, rfl⟩
  have HSv : Hid (∀ (w2 : World) (gt ct : Nat), Chg [] w.drew w2 → w2.ownsRow w.drew.heap.size 5 1 (.slice (some ⟨gt, 0, none⟩) m ct) m (Lib.byteCells tx) → Calls Tryz.prog 57 #[.pointer (some ⟨d.S, 0, none⟩), .slice (some ⟨gt, 0, none⟩) m ct] w2 fun e w' => e = .returned (.int .i64 0) ∧ ∃ ops tv dv, (g.ops ≤ ops ∧ ops ≤ g.ops + 300) ∧ Sto w' lw d s (svG g i tv ops dv (putF g.zs a (encS (g.cnt + 1) tx) (encS (g.cnt + 1) tx).length)) ∧ Cw lw w w') := Lib.hid (by
    intro w2 gt ct k2 o2
    obtain ⟨h, hinn, hlw⟩ := HH.out
    have h2 := h.keep ((Chg.refl [] w).drew.then k2)
    have hct : m ≤ ct := by
      obtain ⟨pv, cv, e, hc⟩ := own_form o2
      cases e
      exact hc
    have hbt : Bt w2 gt := (own_elem o2 (g := gt) rfl).2
    have hsl := h2.slot
    rw [hinn] at hsl
    have hbn := h2.bnd
    refine (slsave_any w2 hsl h2.dev h0 (by omega) HI.out (by omega) (Bs.own o2) hbt HM.out.symm hm1.1 hm1.2 h2.dlo (by omega) h2.bndZ hct).mono ?_
    rintro e w' ⟨rfl, hsv⟩
    obtain ⟨ops, tv, dv, q1, q2, q3⟩ := hsv.sto h2
    exact ⟨rfl, ops, tv, dv, q1, q2, (Cw.of_chg ((Chg.refl [] w).drew.then k2)).trans q3⟩)
  have p6d : w.drew.cell? ⟨d.P, 6, none⟩ = some (.pointer (some ⟨d.S, 0, none⟩)) := p6
  go_wp2_with fail
  go_region_held3 (fun wx => wx.cell? ⟨d.P, 6, none⟩ = some (.pointer (some ⟨d.S, 0, none⟩)))
    (first | (exact p6) | (exact k2.cell p6d (by simp)) | (exact hp3))
    (first
      | (go_at_call 58; refine HT.out.mono ?_; rintro e w2 ⟨gt, ct, rfl, k2, o2⟩)
      | (go_at_call 57; refine (HSv.out w2 gt ct k2 o2).mono ?_; rintro e w3 ⟨rfl, ops3, tv3, dv3, hop3, hS3, hC3⟩
         have hp3 : w3.cell? ⟨d.P, 6, none⟩ = some (.pointer (some ⟨d.S, 0, none⟩)) := cell_is hS3.store 6 rfl))
  have q3 : w3.cell? ⟨d.P, 3, none⟩ = some (.int .i64 6) := cell_is hS3.store 3 rfl
  have HX3 := Lib.hid (And.intro hop3 (And.intro hS3 hC3))
  clear hS3 hC3 hop3 hp3 k2 o2 p6 p6d HSv HT HDe
  go_wp2_with fail
  go_loopw [3, 4, 5, 6] (fun er z _ _ wr => ∃ j ops4 dv4, er = .int .i64 0 ∧ z = .int .i64 (j : Nat) ∧ (6 ≤ j ∧ j ≤ 8) ∧ (g.ops ≤ ops4 ∧ ops4 ≤ g.ops + 300 + (j - 6 : Nat)) ∧ Sto wr lw d s (svG g i tv3 ops4 dv4 (clrF (putF g.zs a (encS (g.cnt + 1) tx) (encS (g.cnt + 1) tx).length) 6 j)) ∧ Cw lw w wr) (fun _ z _ _ _ => 8 - (intOf z).toNat)
  case atStart => exact ⟨6, ops3, dv3, rfl, rfl, ⟨by decide, by decide⟩, ⟨HX3.out.1.1, by have := HX3.out.1.2; omega⟩, by rw [clrF_zero]; exact HX3.out.2.1, HX3.out.2.2⟩
  case round =>
    obtain ⟨j, ops4, dv4, rfl, rfl, ⟨hj6, hj8⟩, hop4, hS4, hC4⟩ := hrel
    have r0 : wr.cell? ⟨d.P, 0, none⟩ = some (.pointer (some ⟨d.N, 0, none⟩)) := cell_is hS4.store 0 rfl
    have r4 : wr.cell? ⟨d.P, 4, none⟩ = some (.int .i64 7) := cell_is hS4.store 4 rfl
    have hZ8 := hS4.dev.len
    by_cases hlt : j < 8
    · have m1 : decide ((j : Int) ≤ 7) = true := decide_eq_true (by omega)
      have m2 : IntKind.i64.wrap ((j : Int) + 1) = ((j + 1 : Nat) : Int) := by rw [IntKind.wrap_i64]; omega
      have hjz : j < d.Z.length := by omega
      have HP := Lib.hid (pointer_ok wr hS4.dev j hjz)
      have HR := Lib.hid (dreset_any wr hS4.dev (by show (0 : Int) ≤ ops4; omega) (by show ops4 ≤ 1000000; omega) j hjz)
      have HW := Lib.hid (And.intro hop4 (And.intro hS4 hC4))
      clear hop4 hS4 hC4 q3 HX3
      obtain ⟨p, hp⟩ : ∃ p, p = (clrF (putF g.zs a (encS (g.cnt + 1) tx) (encS (g.cnt + 1) tx).length) 6 j j).length := ⟨_, rfl⟩
      have Hp := Lib.hid hp
      have HP2 : Hid (Calls Tryz.prog 59 #[.pointer (some ⟨d.N, 0, none⟩), .int .i64 j] wr fun e w' => e = .returned (.tuple #[.int .i64 p, .int .i64 0]) ∧ wr = w') := Lib.hid (by rw [hp]; exact HP.out)
      clear hp HP
      go_wp2_with fail
      refine HP2.out.mono ?_
      rintro e w4 ⟨rfl, rfl⟩
      by_cases hp0 : 0 < p
      · have m3 : decide (0 < (p : Int)) = true := decide_eq_true (by omega)
        go_wp2_with fail
        refine HR.out.mono ?_
        rintro e w5 ⟨rfl, k5, d5⟩
        have hnew : Hid (∃ ops4 dv4, (g.ops ≤ ops4 ∧ ops4 ≤ g.ops + 300 + ((j + 1) - 6 : Nat)) ∧ Sto w5 lw d s (svG g i tv3 ops4 dv4 (clrF (putF g.zs a (encS (g.cnt + 1) tx) (encS (g.cnt + 1) tx).length) 6 (j + 1))) ∧ Cw lw w w5) := Lib.hid (by
          obtain ⟨hop4, hS4, hC4⟩ := HW.out
          rw [show upF (svG g i tv3 ops4 dv4 (clrF (putF g.zs a (encS (g.cnt + 1) tx) (encS (g.cnt + 1) tx).length) 6 j)).zs j [] = clrF (putF g.zs a (encS (g.cnt + 1) tx) (encS (g.cnt + 1) tx).length) 6 (j + 1) from clrF_succ hj6, show upF (svG g i tv3 ops4 dv4 (clrF (putF g.zs a (encS (g.cnt + 1) tx) (encS (g.cnt + 1) tx).length) 6 j)).gs j 0 = lenF (clrF (putF g.zs a (encS (g.cnt + 1) tx) (encS (g.cnt + 1) tx).length) 6 (j + 1)) from (lenF_up _ _).trans (by rw [clrF_succ hj6])] at d5
          refine (fun q => ⟨ops4 + 1, _, by omega, q.1, hC4.trans q.2⟩) (hS4.redev k5 (fun x hx => ?_) (fun x hx => ?_) d5)
          · simp only [List.mem_cons, List.not_mem_nil, or_false] at hx
            rcases hx with rfl | rfl
            · exact ⟨_, _, hS4.dev.hdr, by simp⟩
            · exact ⟨_, _, hS4.dev.zone j hjz, by simp⟩
          · have hbn := hS4.bnd
            simp only [List.mem_cons, List.not_mem_nil, or_false] at hx
            rcases hx with rfl | rfl
            · omega
            · exact hS4.bndZ _ (List.getElem_mem _))
        clear k5 d5 HR HP2 HW
        go_wp2_with fail
        go_roundw
        case rel =>
          obtain ⟨o5, dv5, p1, p2, p3⟩ := hnew.out
          exact ⟨j + 1, o5, dv5, rfl, rfl, ⟨by omega, by omega⟩, p1, p2, p3⟩
        case measure => simp [intOf]; omega
      · have m3 : decide (0 < (p : Int)) = false := decide_eq_false (by omega)
        have hnew : Hid (∃ ops4 dv4, (g.ops ≤ ops4 ∧ ops4 ≤ g.ops + 300 + ((j + 1) - 6 : Nat)) ∧ Sto wr lw d s (svG g i tv3 ops4 dv4 (clrF (putF g.zs a (encS (g.cnt + 1) tx) (encS (g.cnt + 1) tx).length) 6 (j + 1))) ∧ Cw lw w wr) := Lib.hid (by
          obtain ⟨hop4, hS4, hC4⟩ := HW.out
          have hz : clrF (putF g.zs a (encS (g.cnt + 1) tx) (encS (g.cnt + 1) tx).length) 6 j j = [] := List.length_eq_zero_iff.1 (by have := Hp.out; omega)
          exact ⟨ops4, dv4, by omega, by rw [clrF_same hj6 hz]; exact hS4, hC4⟩)
        clear HR HP2 HW
        go_wp2_with fail
        go_roundw
        case rel =>
          obtain ⟨o5, dv5, p1, p2, p3⟩ := hnew.out
          exact ⟨j + 1, o5, dv5, rfl, rfl, ⟨by omega, by omega⟩, p1, p2, p3⟩
        case measure => simp [intOf]; omega
    · have hje : j = 8 := by omega
      subst hje
      have s7 := cell_is hS4.store 7 rfl
      have s8 := cell_is hS4.store 8 rfl
      have u7 := unfrozen hS4.store 7
      have u8 := unfrozen hS4.store 8
      have HW := Lib.hid (And.intro hop4 (And.intro hS4 hC4))
      have y1 := heap_set (heap_set hS4.store 7 (.int .i64 0) rfl) 8 (.int .i64 0) rfl
      have kz : Chg [d.P] wr ((wr.setCell ⟨d.P, 7, none⟩ (.int .i64 0)).setCell ⟨d.P, 8, none⟩ (.int .i64 0)) := (Chg.set _ _ _ _).then (Chg.set _ _ _ _)
      have HY := Lib.hid (And.intro y1 kz)
      clear hop4 hS4 hC4 q3 HX3 y1 kz
      go_wp2_with fail
      generalize (wr.setCell ⟨d.P, 7, none⟩ (.int .i64 0)).setCell ⟨d.P, 8, none⟩ (.int .i64 0) = w6 at *
      go_ret
      obtain ⟨hop4, hS4, hC4⟩ := HW.out
      obtain ⟨y1, kz⟩ := HY.out
      have tp : Tp wr [d.P] [102] := fun x hx => by
        rw [List.mem_singleton] at hx
        subst hx
        exact ⟨_, _, hS4.store, by simp⟩
      have hbn := hS4.bnd
      refine ⟨rfl, tv3, ops4, dv4, ⟨hop4.1, by have := hop4.2; omega⟩, ⟨y1, kz.heap hS4.slot ((tp.av (ts' := [210]) (by decide)).ne hS4.slot (by simp)), hS4.text.keep kz (tp.av (by decide)), hS4.dev.keep kz (tp.av (by decide)), hS4.mx.keepA kz (tp.av (by decide)) (tp.map hS4.mx.ver.m) (tp.map hS4.mx.book.2) (tp.map hS4.mx.map), hS4.ap, hS4.keys, hS4.bnd, hS4.bndZ, Nat.le_trans hS4.slo kz.size, hS4.dlo⟩, hC4.trans (Cw.of_tp kz tp (by decide) (fun x hx => by rw [List.mem_singleton] at hx; omega))⟩
end Go.Proofs.YtelakcjbknbehaaGreat
namespace Go.Proofs.YtelakcjbknbehaaGreat
open Go.RowKit Go.Lib Go.Maps Go.Shelf

end Go.Proofs.YtelakcjbknbehaaGreat
namespace Go.Proofs.YtelakcjbknbehaaGreat
open Go.RowKit Go.Lib

def logZ (zs : Nat → List (List UInt8)) (pos : Nat) (bl : List (List UInt8)) : Nat → Nat → List (List UInt8)
 | 0 => zs
 | j + 1 => match bl[j]? with | some p => upF (logZ zs pos bl j) (6 + (pos + j) / 96) (logZ zs pos bl j (6 + (pos + j) / 96) ++ [p]) | none => logZ zs pos bl j
theorem logZ_succ {zs : Nat → List (List UInt8)} {pos : Nat} {bl : List (List UInt8)} {j : Nat} (h : j < bl.length) : logZ zs pos bl (j + 1) = upF (logZ zs pos bl j) (6 + (pos + j) / 96) (logZ zs pos bl j (6 + (pos + j) / 96) ++ [bl[j]]) := by
 simp only [logZ, List.getElem?_eq_getElem h]
theorem logZ_len {zs : Nat → List (List UInt8)} {pos : Nat} {bl : List (List UInt8)} (h6 : (zs 6).length = min pos 96) (h7 : (zs 7).length = pos - 96) : ∀ j, j ≤ bl.length → pos + j ≤ 192 → (logZ zs pos bl j 6).length = min (pos + j) 96 ∧ (logZ zs pos bl j 7).length = pos + j - 96
 | 0, _, _ => ⟨h6, h7⟩
 | j + 1, hj, hp => by
  have ih := logZ_len (zs := zs) (pos := pos) (bl := bl) h6 h7 j (by omega) (by omega)
  rw [logZ_succ (by omega)]
  have : (pos + j) / 96 = 0 ∨ (pos + j) / 96 = 1 := by omega
  rcases this with e | e <;> rw [e] <;> simp only [upF] <;> simp <;> omega
def WgC (w wz : World) (Ns : List Nat) (vs : Nat → Value) : Prop := ∃ U, Chg U w wz ∧ ∀ x ∈ U, x < w.heap.size → x ∈ Ns ∨ ∃ z, z < 8 ∧ (vs z).ownBlock = some x
structure Wg (w wz : World) (base N A c : Nat) (ops : Int) (Z : List Nat) (vs : Nat → Value) (gs : Nat → Nat) (zs : Nat → List (List UInt8)) (P S M pos num lo : Nat) (v : Value) (bl : List (List UInt8)) (j : Nat) : Prop where
 dev : ∃ dv, DevG wz base N A c (ops + j) Z dv gs (logZ zs pos bl j) ∧ (∀ z, z < 8 → ∀ g, (dv z).ownBlock = some g → (vs z).ownBlock = some g ∨ w.heap.size ≤ g) ∧ (∀ z, z < 8 → ∀ g, (dv z).ownBlock = some g → v.ownBlock ≠ some g)
 rows : RowsAt wz lo v bl
 store : StoreG wz P N S M pos num
 chg : WgC w wz (N :: Z) vs
theorem Wg.step {w wz wy : World} {base N A c : Nat} {ops : Int} {Z : List Nat} {vs dv : Nat → Value} {gs : Nat → Nat} {zs : Nat → List (List UInt8)} {P S M pos num lo : Nat} {v v' : Value} {bl : List (List UInt8)} {j zz : Nat} (h : Wg w wz base N A c ops Z vs gs zs P S M pos num lo v bl j) (hq : zz = 6 + (pos + j) / 96) (hqz : zz < Z.length)
  (hj : j < bl.length) (hd : DevG wz base N A c (ops + j) Z dv gs (logZ zs pos bl j)) (hn1 : ∀ z, z < 8 → ∀ g, (dv z).ownBlock = some g → (vs z).ownBlock = some g ∨ w.heap.size ≤ g) (hn2 : ∀ z, z < 8 → ∀ g, (dv z).ownBlock = some g → v.ownBlock ≠ some g)
  (kc : Chg (N :: Z[zz] :: (dv (zz)).ownBlock.toList) wz wy) (hd' : DevG wy base N A c (ops + j + 1) Z (upF dv (zz) v') gs (upF (logZ zs pos bl j) (zz) (logZ zs pos bl j (zz) ++ [bl[j]])))
  (hv' : ∀ g, v'.ownBlock = some g → (dv (zz)).ownBlock = some g ∨ wz.heap.size ≤ g) : Wg w wy base N A c ops Z vs gs zs P S M pos num lo v bl (j + 1) := by
 have hlen := hd.len
 have hq8 : zz < 8 := by omega
 have hls := logZ_succ (zs := zs) (pos := pos) hj
 rw [← hq] at hls
 rw [← hls, show ops + (j : Int) + 1 = ops + ((j + 1 : Nat) : Int) by omega] at hd'
 have hz := hd.zone (zz) hqz
 have hr6 := hd.rows (zz) hq8
 have hb23 := hr6.block
 obtain ⟨U, hU, hU2⟩ := h.chg
 have hs := hU.size
 have rb := h.rows.block
 have av : Av wz (N :: Z[zz] :: (dv (zz)).ownBlock.toList) [5, 102] := fun x hx cs t fr hh => by
  rcases List.mem_cons.1 hx with rfl | hx
  ·rw [hd.hdr] at hh; cases hh; simp
  ·rcases List.mem_cons.1 hx with rfl | hx
   ·rw [hz] at hh; cases hh; simp
   ·obtain ⟨cs2, h2⟩ := hb23 x (by simpa using hx)
    rw [h2] at hh; cases hh; simp
 refine ⟨⟨_, hd', fun z hz8 g hg => ?_, fun z hz8 g hg hvg => ?_⟩, h.rows.keep kc (fun x hx cs t fr hh ht => av x hx cs t fr hh (by simp at ht; simp [ht])) (fun g hg hm => ?_), kc.heap h.store (av.ne h.store (by simp)), U ++ (N :: Z[zz] :: (dv (zz)).ownBlock.toList), (hU.mono (fun x hx _ => List.mem_append_left _ hx)).trans kc (fun x hx _ => List.mem_append_right _ hx), fun x hx hlt => ?_⟩
 ·unfold upF at hg
  split at hg
  ·rename_i e
   subst e
   rcases hv' g hg with h1 | h1
   ·exact hn1 _ hz8 g h1
   ·exact Or.inr (by omega)
  ·exact hn1 z hz8 g hg
 ·unfold upF at hg
  split at hg
  ·rename_i e
   subst e
   rcases hv' g hg with h1 | h1
   ·exact hn2 _ hz8 g h1 hvg
   ·obtain ⟨cs, h2⟩ := rb g hvg
    have := heap_lt h2
    omega
  ·exact hn2 z hz8 g hg hvg
 ·obtain ⟨cs, h2⟩ := rb g hg
  rcases List.mem_cons.1 hm with rfl | hm
  ·rw [hd.hdr] at h2; cases h2
  ·rcases List.mem_cons.1 hm with rfl | hm
   ·rw [hz] at h2; cases h2
   ·exact hn2 _ hq8 g (by simpa using hm) hg
 ·rcases List.mem_append.1 hx with hx | hx
  ·exact hU2 x hx hlt
  ·rcases List.mem_cons.1 hx with rfl | hx
   ·exact Or.inl List.mem_cons_self
   ·rcases List.mem_cons.1 hx with rfl | hx
    ·exact Or.inl (List.mem_cons_of_mem _ (List.getElem_mem _))
    ·rcases hn1 _ hq8 x (by simpa using hx) with h1 | h1
     ·exact Or.inr ⟨_, hq8, h1⟩
     ·omega
set_option maxRecDepth 100000 in
set_option maxHeartbeats 8000000 in
theorem swrite_two (w : World) {base lo N A c P S M pos num cnt k : Nat} {ops num0 : Int} {Z : List Nat} {vs : Nat → Value} {gs : Nat → Nat} {zs : Nat → List (List UInt8)} {v : Value} {l : List (Int × List UInt8)}
  (hP : StoreG w P N S M pos num) (HL : ∀ w1, Chg [] w w1 → Calls Tryz.prog 81 #[.pointer (some ⟨S, 0, none⟩)] w1 fun e w' => ∃ u, e = .returned (.tuple #[u, .int .i64 cnt]) ∧ Chg [] w1 w')
  (hD : DevG w base N A c ops Z vs gs zs) (h0 : 0 ≤ ops) (h1 : ops ≤ 900000) (hlow : base ≤ N) (hT : TxOne w lo v k l) (hk0 : 1 ≤ k) (hk1 : k ≤ 1099511627776) (hcnt : cnt < 4294967296) (hnum : num < 1099511627776) (hl0 : 0 < l.length) (hl : l.length ≤ 16) (hr : Rise l) (hk : ∀ x ∈ l, 0 ≤ x.1 ∧ x.1 < 258)
  (hz6 : (zs 6).length = min pos 96) (hz7 : (zs 7).length = pos - 96) (hpos : pos + l.length + 1 ≤ 192) (h7 : 7 < Z.length) :
  Calls Tryz.prog 62 #[.pointer (some ⟨P, 0, none⟩), .agg #[.int .i64 num0, v]] w fun e w' => e = .returned (.int .i64 0) ∧ StoreG w' P N S M (pos + l.length + 1) (num + 1) ∧ WgC w w' (P :: N :: Z) vs ∧
   ∃ dv, DevG w' base N A c (ops + l.length + 2) Z dv (goodF gs (logZ zs pos (batL cnt (num + 1) k l) (l.length + 1)) 8) (logZ zs pos (batL cnt (num + 1) k l) (l.length + 1)) := by
 obtain ⟨gt, ct, pbt, cbt, rfl, -, -, -, -, -, -, -⟩ := hT.open_
 have k0 : Chg [] w (w.alloc (.cells #[.int .i64 num0, .slice (some ⟨gt, 0, none⟩) 1 ct] 108)) := Chg.alloc w _
 have K0 := heap_new w (.cells #[.int .i64 num0, .slice (some ⟨gt, 0, none⟩) 1 ct] 108)
 have hP0 := k0.heap hP (by simp)
 have p6 : (w.alloc (.cells #[.int .i64 num0, .slice (some ⟨gt, 0, none⟩) 1 ct] 108)).cell? ⟨P, 6, none⟩ = some (.pointer (some ⟨S, 0, none⟩)) := cell_is hP0 6 rfl
 have HL0 := Lib.hid (HL _ k0)
 have HP := Lib.hid hP
 have HD := Lib.hid hD
 have HT := Lib.hid hT
 clear HL hP hD hT
 go_enter Tryz.func62, Tryz.ntmps62
 go_wp2_with fail
 generalize w.alloc (.cells #[.int .i64 num0, .slice (some ⟨gt, 0, none⟩) 1 ct] 108) = w1 at *
 generalize hz : w.heap.size = K at *
 refine HL0.out.mono ?_
 rintro e w2 ⟨u, rfl, k2'⟩
 have k2 := k0.then k2'
 have K2 := k2'.heap K0 (by simp)
 have hP2 := k2.heap HP.out (by simp)
 have p8 : w2.cell? ⟨P, 8, none⟩ = some (.int .i64 num) := cell_is hP2 8 rfl
 have q0 : w2.cell? ⟨K, 0, none⟩ = some (.int .i64 num0) := cell_is K2 0 rfl
 have z0 : w2.frozen? ⟨K, 0, none⟩ = false := unfrozen K2 0
 have kS : Chg [] w (w2.setCell ⟨K, 0, none⟩ (.int .i64 ((num : Int) + 1))) := k2.new_set (by omega) 0 _
 have K3 : (w2.setCell ⟨K, 0, none⟩ (.int .i64 ((num : Int) + 1))).heap[K]? = some (.cells #[.int .i64 ((num : Int) + 1), .slice (some ⟨gt, 0, none⟩) 1 ct] 108 (0, 0)) := heap_set K2 0 _ rfl
 have a0 : (w2.setCell ⟨K, 0, none⟩ (.int .i64 ((num : Int) + 1))).cell? ⟨K, 0, none⟩ = some (.int .i64 ((num : Int) + 1)) := cell_is K3 0 rfl
 have a1 : (w2.setCell ⟨K, 0, none⟩ (.int .i64 ((num : Int) + 1))).cell? ⟨K, 1, none⟩ = some (.slice (some ⟨gt, 0, none⟩) 1 ct) := cell_is K3 1 rfl
 have hE := bencode_one _ (e := cnt) (num := num + 1) (HT.out.keep kS) (by omega) (by omega) hk0 hk1 hcnt hl0 hl hr hk
 rw [show ((num + 1 : Nat) : Int) = (num : Int) + 1 by omega] at hE
 have HE := Lib.hid hE
 clear hE
 clear p6 HL0 K0 k2' K2 hP2 K3 hk
 go_wp2_with fail
 obtain ⟨lo3, hlo3⟩ : ∃ lo3, lo3 = (w2.setCell ⟨K, 0, none⟩ (.int .i64 ((num : Int) + 1))).heap.size := ⟨_, rfl⟩
 have HLo := Lib.hid (show w.heap.size ≤ lo3 from by rw [hlo3]; exact kS.size)
 rw [← hlo3] at HE
 clear hlo3
 refine HE.out.mono ?_
 rintro e w3 ⟨v', rfl, k3', hrows⟩
 have k3 := kS.then k3'
 have hP3 := k3.heap HP.out (by simp)
 have hD3 := HD.out.keep k3 (Av.nil _ _)
 have hbl : (batL cnt (num + 1) k l).length = l.length + 1 := batL_length _ _ _ _
 have h64 : ∀ x ∈ batL cnt (num + 1) k l, x.length = 64 := fun x hx => by
  obtain ⟨i, hi, rfl⟩ := List.getElem_of_mem hx
  obtain ⟨-, -, -, -, -, -, -, -, h, -⟩ := hrows.get i hi
  exact h
 obtain ⟨gr, cr, gd', cd', hv', hcr, -, -, -, -⟩ := hrows.get 0 (by omega)
 subst hv'
 have HR := Lib.hid hrows
 have HD3 := Lib.hid hD3
 have HP3 := Lib.hid hP3
 have HGm := Lib.hid (geom_hdr w3 (N := N) (A := A) (c := c) ⟨_, hD3.hdr⟩)
 have p0 : w3.cell? ⟨P, 0, none⟩ = some (.pointer (some ⟨N, 0, none⟩)) := cell_is hP3 0 rfl
 have HBL := Lib.hid hbl
 have hsz3 := k3.size
 have hlr : lo3 ≤ gr := by
  obtain ⟨xs, ho, -⟩ := hrows
  exact (own_elem ho rfl).1
 have HV6 := Lib.hid (show ∀ z, z < 8 → ∀ g, (vs z).ownBlock = some g → g < w.heap.size from fun z hz g hg => by
  obtain ⟨cs, h5⟩ := (HD.out.rows z hz).block g hg
  exact heap_lt h5)
 clear HE kS a0 a1 q0 z0 p8 HD HT k2 k3' hD3 hrows hbl hP3
 obtain ⟨bl, hbl'⟩ : ∃ bl, batL cnt (num + 1) k l = bl := ⟨_, rfl⟩
 rw [hbl'] at HR HBL h64
 rw [hbl']
 have HBb := Lib.hid hbl'
 clear hbl'
 go_wp2_with fail
 refine HGm.out.mono ?_
 rintro e w4 ⟨rfl, k4⟩
 have hP4 := k4.heap HP3.out (by simp)
 have HD4 := Lib.hid (HD3.out.keep k4 (Av.nil _ _))
 have HR4 := Lib.hid (HR.out.keep0 k4)
 have hfs := field_size
 have p7 : w4.cell? ⟨P, 7, none⟩ = some (.int .i64 pos) := cell_is hP4 7 rfl
 have p4 : w4.cell? ⟨P, 4, none⟩ = some (.int .i64 7) := cell_is hP4 4 rfl
 have p3 : w4.cell? ⟨P, 3, none⟩ = some (.int .i64 6) := cell_is hP4 3 rfl
 have hpn : IntKind.i64.wrap ((pos : Int) + (bl.length : Nat)) = (pos : Int) + (bl.length : Nat) := by rw [IntKind.wrap_i64]; have := HBL.out; omega
 have hgt : decide (192 < (pos : Int) + (bl.length : Nat)) = false := decide_eq_false (by have := HBL.out; omega)
 have HP4 := Lib.hid hP4
 have kk4 := k3.then k4
 clear hP4 HGm p0 HP3 HD3 HR k4 k3
 go_wp2_with fail
 go_quiet (fail)
 have kd : Chg [] w4 (w4.drewN nq) := (Chg.refl [] w4).drewN nq
 have k5 := kk4.then kd
 have hD5 := HD4.out.keep kd (Av.nil _ _)
 have hR5 := HR4.out.keep0 kd
 have hP5 : StoreG (w4.drewN nq) P N S M pos num := HP4.out
 have hW5 : Wg w (w4.drewN nq) base N A c ops Z vs gs zs P S M pos num lo3 (.slice (some ⟨gr, 0, none⟩) bl.length cr) bl 0 := by
  refine ⟨⟨vs, (by show DevG _ _ _ _ _ (ops + ((0 : Nat) : Int)) _ _ _ zs; simpa using hD5), fun z hz g hg => Or.inl hg, fun z hz g hg e => ?_⟩, hR5, hP5, ⟨[], k5, fun x hx => by cases hx⟩⟩
  have h5 := HV6.out z hz g hg
  have h6 := hlr
  have e' : gr = g := Option.some.inj e
  subst e'
  have := HLo.out
  omega
 have HW5 := Lib.hid hW5
 clear hW5 hR5 hP5 hD5 HD4 HR4 HP4 p7 p4 p3 hpn hgt hfs
 generalize w4.drewN nq = w5 at *
 go_wp2_with fail
 go_loopw [10, 11, 12, 13, 68] (fun _ _ _ _ i wr => ∃ j : Nat, j ≤ bl.length ∧ i = .int .i64 j ∧ Wg w wr base N A c ops Z vs gs zs P S M pos num lo3 (.slice (some ⟨gr, 0, none⟩) bl.length cr) bl j) (fun _ _ _ _ i _ => bl.length - (intOf i).toNat)
 case atStart => exact ⟨0, by omega, rfl, HW5.out⟩
 case round =>
  obtain ⟨j, hj, rfl, hWr⟩ := hrel
  rename World => wr
  clear HW5
  by_cases hlt : j < bl.length
  ·have HWr := Lib.hid hWr
   obtain ⟨⟨dv, hd, hn1, hn2⟩, hrows, hstore, hchg⟩ := hWr
   obtain ⟨gr1, cap1, gd, cd, hv1, -, r0, hbs, h64j, hbt⟩ := hrows.get j hlt
   cases hv1
   have hlti : (j : Int) < bl.length := by omega
   have HBL1 := HBL.out
   have nN : gd ≠ N := by
    obtain ⟨cs, hh⟩ := hbt
    exact heap_ne hh hd.hdr (by simp)
   have kdr : Chg [] wr wr.drew := (Chg.refl [] wr).drew
   have hdd := hd.keep kdr (Av.nil _ _)
   obtain ⟨q, hq⟩ : ∃ q, q = (pos + j) / 96 := ⟨_, rfl⟩
   have hq01 : q = 0 ∨ q = 1 := by omega
   obtain ⟨zz, hzz⟩ : ∃ zz, zz = 6 + q := ⟨_, rfl⟩
   have hqz : zz < Z.length := by omega
   have hzq' : zz = 6 + (pos + j) / 96 := by rw [hzz, hq]
   have hrm : (logZ zs pos bl j zz).length < 96 := by
    rw [hzz]
    have := logZ_len (zs := zs) (pos := pos) (bl := bl) hz6 hz7 j (by omega) (by omega)
    rcases hq01 with e | e
    ·rw [e]; show (logZ zs pos bl j 6).length < 96; omega
    ·rw [e]; show (logZ zs pos bl j 7).length < 96; omega
   have hA := dappend_any wr.drew (cd := cd) hdd (by omega) (by omega) zz hqz hrm (hbs.chg kdr) h64j (fun g hg => by subst hg; exact nN) hlow
   have HA := Lib.hid hA
   have kdr' := kdr.mono (T := N :: Z[zz] :: (dv zz).ownBlock.toList) (fun x hx _ => by cases hx)
   have hzq := hd.zone zz hqz
   have hr6 := hd.rows zz (by omega)
   have nP : P ∉ N :: Z[zz] :: (dv zz).ownBlock.toList := fun hm => by
    rcases List.mem_cons.1 hm with e | hm
    ·exact heap_ne hstore hd.hdr (by simp) e
    ·rcases List.mem_cons.1 hm with e | hm
     ·exact heap_ne hstore hzq (by simp) e
     ·obtain ⟨cs, hh⟩ := hr6.block P (by simpa using hm)
      rw [hstore] at hh
      cases hh
   have p0 : wr.cell? ⟨P, 0, none⟩ = some (.pointer (some ⟨N, 0, none⟩)) := cell_is hstore 0 rfl
   have p3 : wr.cell? ⟨P, 3, none⟩ = some (.int .i64 6) := cell_is hstore 3 rfl
   have p7 : wr.cell? ⟨P, 7, none⟩ = some (.int .i64 pos) := cell_is hstore 7 rfl
   have hq1 : IntKind.i64.wrap ((pos : Int) + (j : Nat)) = (pos : Int) + (j : Nat) := by rw [IntKind.wrap_i64]; omega
   have hq2 : ((pos : Int) + (j : Nat)).tdiv 96 = (q : Nat) := by
    rw [Int.tdiv_eq_ediv_of_nonneg (by omega)]
    omega
   have hq3 : IntKind.i64.wrap ((q : Nat) : Int) = (q : Int) := by rw [IntKind.wrap_i64]; omega
   have hq4 : IntKind.i64.wrap (6 + (q : Int)) = (zz : Int) := by rw [IntKind.wrap_i64]; omega
   have HW := Lib.hid (fun wy v' kc hd' hv' => HWr.out.step (wy := wy) (v' := v') (dv := dv) hzq' hqz hlt hd hn1 hn2 kc hd' hv')
   have HnP := Lib.hid nP
   clear hd hn1 hn2 hrows hstore hchg hbs h64j hbt nN hdd hA hzq hr6 nP HBL1 hrm hq01 hzq' hzz hq
   go_wp2_with fail
   go_region_held3 (fun wx => wx.cell? ⟨P, 0, none⟩ = some (.pointer (some ⟨N, 0, none⟩)) ∧ wx.cell? ⟨P, 3, none⟩ = some (.int .i64 6) ∧ wx.cell? ⟨P, 7, none⟩ = some (.int .i64 pos))
    (first
     | (exact ⟨p0, p3, p7⟩)
     | (exact ⟨kc.cell p0 HnP.out, kc.cell p3 HnP.out, kc.cell p7 HnP.out⟩))
    (first
     | (go_at_call 136; refine HA.out.mono ?_; rintro e w6 ⟨v', rfl, kc', dc, hvc⟩; have kc := kdr'.then kc'))
   have hWn := Lib.hid (HW.out _ _ kc dc hvc)
   have hb16 : bl.length ≤ 17 := by have := HBL.out; omega
   clear HW HA HnP kc dc hvc kc' p0 p3 p7
   go_wp2_with fail
   exact ⟨⟨j + 1, by omega, by go_num, hWn.out⟩, by simp [intOf]; omega⟩
  ·obtain rfl : j = bl.length := by omega
   obtain ⟨⟨dv, hd, -, -⟩, -, hstore, hchg⟩ := hWr
   have HF := Lib.hid (dflush_any wr hd (by omega) (by have := HBL.out; omega))
   have p0 : wr.cell? ⟨P, 0, none⟩ = some (.pointer (some ⟨N, 0, none⟩)) := cell_is hstore 0 rfl
   have nP : P ∉ N :: Z := fun hm => by
    rcases List.mem_cons.1 hm with e | hm
    ·exact heap_ne hstore hd.hdr (by simp) e
    ·obtain ⟨i, hi, e⟩ := List.getElem_of_mem hm
     exact heap_ne hstore (hd.zone i hi) (by simp) e.symm
   have HS := Lib.hid hstore
   have HnP := Lib.hid nP
   have HCg := Lib.hid hchg
   have Hpb := Lib.hid (show pos + bl.length < 1000 by have := HBL.out; omega)
   have Hop := Lib.hid (show ops + (bl.length : Nat) + 1 = ops + (l.length : Nat) + 2 by have := HBL.out; omega)
   clear hd hstore hchg nP
   go_wp2_with fail
   refine HF.out.mono ?_
   rintro e w6 ⟨rfl, k6, hd6⟩
   have hP6 := k6.heap HS.out HnP.out
   have p7 : w6.cell? ⟨P, 7, none⟩ = some (.int .i64 pos) := cell_is hP6 7 rfl
   have p8 : w6.cell? ⟨P, 8, none⟩ = some (.int .i64 num) := cell_is hP6 8 rfl
   have f7 := unfrozen hP6 7
   have f8 := unfrozen hP6 8
   have HD6 := Lib.hid hd6
   have HP6 := Lib.hid hP6
   clear hd6 hP6 HF HS p0
   go_wp2_with fail
   go_ret
   have hps := pos_wrap pos bl.length l.length HBL.out Hpb.out
   have hop := Hop.out
   rw [hps]
   have hdF := HD6.out
   rw [hop] at hdF
   have kS1 := Chg.set w6 P 7 (.int .i64 ((pos + l.length + 1 : Nat) : Int))
   have hP7 : StoreG (w6.setCell ⟨P, 7, none⟩ (.int .i64 ((pos + l.length + 1 : Nat) : Int))) P N S M (pos + l.length + 1) num := heap_set HP6.out 7 _ rfl
   have kS2 := Chg.set (w6.setCell ⟨P, 7, none⟩ (.int .i64 ((pos + l.length + 1 : Nat) : Int))) P 8 (.int .i64 ((num : Int) + 1))
   rw [HBb.out]
   have hdF2 := hdF
   rw [HBL.out] at hdF2
   refine ⟨rfl, heap_set hP7 8 _ rfl, ?_, dv, (hdF2.keep kS1 (Av.row HP6.out (by decide))).keep kS2 (Av.row hP7 (by decide))⟩
   obtain ⟨U, u1, u2⟩ := HCg.out
   refine ⟨U ++ (P :: N :: Z), (((u1.mono (fun x hx _ => List.mem_append_left _ hx)).then (k6.mono (fun x hx _ => List.mem_append_right _ (List.mem_cons_of_mem _ hx)))).then_set (fun _ => List.mem_append_right _ List.mem_cons_self) 7 _).then_set (fun _ => List.mem_append_right _ List.mem_cons_self) 8 _, fun x hx hlt => ?_⟩
   rcases List.mem_append.1 hx with hx | hx
   ·rcases u2 x hx hlt with h1 | h1
    ·exact Or.inl (List.mem_cons_of_mem _ h1)
    ·exact Or.inr h1
   ·exact Or.inl hx
def doneT (g : Gd) (dv : Nat → Value) (k : Nat) (l : List (Int × List UInt8)) : Gd :=
 { g with pos := g.pos + l.length + 1, num := g.num + 1, ops := g.ops + l.length + 2, dv := dv, gs := goodF g.gs (logZ g.zs g.pos (batL g.cnt (g.num + 1) k l) (l.length + 1)) 8, zs := logZ g.zs g.pos (batL g.cnt (g.num + 1) k l) (l.length + 1) }
def FlushT (w w' : World) (lw : Nat) (d : Ids) (s : Gs) (g : Gd) (k : Nat) (hdl : Int) (l : List (Int × List UInt8)) : Prop :=
 ∃ z Lv' dv, Sto w' lw d (doneS s z k hdl Lv' l) (doneT g dv k l) ∧ Cs lw w w' ∧ w'.ownsRow lw 3 1 (.slice (some ⟨z, 0, none⟩) 0 0) 0 []
set_option maxRecDepth 100000 in
set_option maxHeartbeats 4000000 in
theorem sflush_two (w : World) {lw : Nat} {d : Ids} {s : Gs} {g : Gd} {gq cq : Nat} {hdl : Int} {k : Nat} {t t0 : Int} {L : List (Int × Value)} {D : Int → List UInt8} (h : Sto w lw d s g) (hw : Wtx w d s gq cq hdl k t t0 L D) (hout : s.out = 0) (hT : lw ≤ d.T) (hlw : lw ≤ w.heap.size)
  (hk0 : 1 ≤ k) (hlast : s.lastv < k) (hk1 : k ≤ 1099511627776) (hs : ∀ c, (s.vs c).length + 16 < 1000000) (hn0 : 0 ≤ s.num) (hn1 : s.num ≤ 100000000) (hz6 : (g.zs 6).length = min g.pos 96) (hz7 : (g.zs 7).length = g.pos - 96) (hpos : g.pos + L.length + 1 ≤ 192) (ho0 : 0 ≤ g.ops) (ho1 : g.ops ≤ 900000) (hcnt : g.cnt < 4294967296) (hnum : g.num < 1000000000) :
  Calls Tryz.prog 21 #[.pointer (some ⟨d.P, 0, none⟩)] w fun e w' => e = .returned (.int .i64 0) ∧ FlushT w w' lw d s g k hdl (putsL L D) := by
 have HD := Lib.hid (dead_g w h.store)
 have p5 : w.cell? ⟨d.P, 5, none⟩ = some (.pointer (some ⟨d.M, 0, none⟩)) := cell_is h.store 5 rfl
 have hm := h.mx.mgr
 rw [hw.qv, hout] at hm
 obtain ⟨cs, hq1, hq2⟩ := hw.q
 have hpl : (putsL L D).length = L.length := putsL_length L D
 have HB := Lib.hid (tbatch_one w (k := k) (l := putsL L D) hm (by have := hw.len; omega) hn0 (by omega) (fun w1 k1 => waiting_one w1 (k1.heap hm (by simp)) (k1.cell (cell_is hq1 0 hq2) (by simp)) (h.mx.map.keep k1 (by simp)) hw.tab (k1.heap hw.tx (by simp)) (hw.buf.keep k1 (by simp) (by simp)) (hw.bd.keep k1) hw.bk (by have := hw.len; omega)))
 have HS := Lib.hid h
 have HW := Lib.hid hw
 have HO := Lib.hid hout
 have HQv := Lib.hid hw.qv
 clear h hw hm hout hq1 hq2
 go_enter Tryz.func21, Tryz.ntmps21
 go_wp2_with fail
 refine HD.out.mono ?_
 rintro e w1 ⟨rfl, rfl⟩
 go_wp2_with fail
 refine HB.out.mono ?_
 rintro e w1 ⟨gt, ct, rfl, k1, hm1, ht1⟩
 have hS := HS.out
 have avM : ∀ ts, 195 ∉ ts → Av w [d.M] ts := fun ts h1 => Av.row hS.mx.mgr h1
 have nmM : ∀ {x L}, MapAt w x L → x ∉ [d.M] := fun hm => by simpa using map_cells hm hS.mx.mgr
 have S1 : Sto w1 lw d { s with out := 1 } g :=
  ⟨k1.heap hS.store ((avM [102] (by decide)).ne hS.store (by simp)), k1.heap hS.slot ((avM [210] (by decide)).ne hS.slot (by simp)), hS.text.keep k1 (avM _ (by decide)), hS.dev.keep k1 (avM _ (by decide)),
   hS.mx.chgM k1 (by rw [HQv.out]; exact hm1) rfl rfl rfl rfl rfl rfl rfl, hS.ap, hS.keys, hS.bnd, hS.bndZ, Nat.le_trans hS.slo k1.size, hS.dlo⟩
 have W1 := HW.out.keepA k1 (avM _ (by decide)) (nmM HW.out.buf.2)
 have c1 : Cs lw w w1 := Cs.of_tp (ts := [195]) k1 (fun x hx => by rw [List.mem_singleton] at hx; subst hx; exact ⟨_, _, hS.mx.mgr, by simp⟩) (by decide) (fun x hx => by rw [List.mem_singleton] at hx; subst hx; exact hS.bnd.2.2.2.1)
 have ka : Chg [] w1 (w1.alloc (.cells #[.int .i64 (s.num + 1), .slice (some ⟨gt, 0, none⟩) 1 ct] 108)) := Chg.alloc w1 _
 have A0 := heap_new w1 (.cells #[.int .i64 (s.num + 1), .slice (some ⟨gt, 0, none⟩) 1 ct] 108)
 have S2 := S1.keep ka
 have W2 := W1.keep ka
 have c2 := c1.trans (Cs.of_chg ka)
 have ht2 := ht1.keep ka
 have h7 : 7 < d.Z.length := by have := S2.dev.len; omega
 have hl0 : 0 < (putsL L D).length := by have := HW.out.len0; omega
 have hl16 : (putsL L D).length ≤ 16 := by have := HW.out.len; omega
 have hwr := swrite_two _ (num0 := s.num + 1) S2.store (fun w' k' => load_g w' (k'.heap S2.slot (by simp)) (S2.text.keep k' (Av.nil _ _))) S2.dev ho0 ho1 S2.dlo ht2 hk0 hk1 hcnt (by omega) hl0 hl16 (rise_puts D HW.out.buf.2.nodup) (putsL_in D HW.out.bk) hz6 hz7 (by rw [hpl]; exact hpos) h7
 have HWr := Lib.hid hwr
 have q5 : w1.cell? ⟨d.P, 5, none⟩ = some (.pointer (some ⟨d.M, 0, none⟩)) := cell_is S1.store 5 rfl
 have HS2 := Lib.hid S2
 have HW2 := Lib.hid W2
 have HC2 := Lib.hid c2
 have Hpl := Lib.hid hpl
 clear hwr S1 S2 W1 W2 c1 c2 ht1 ht2 hm1 k1 ka hS avM nmM hpos hl0 hl16 HB HD hpl hk0
 go_wp2_with fail
 generalize w1.alloc (.cells #[.int .i64 (s.num + 1), .slice (some ⟨gt, 0, none⟩) 1 ct] 108) = w2 at *
 refine HWr.out.mono ?_
 rintro e w3 ⟨rfl, hP3, ⟨U0, k0, hU0⟩, dv, hd3⟩
 have S2 := HS2.out
 have hbn := S2.bnd
 have hmem : ∀ x ∈ U0.filter (fun x => decide (x < w2.heap.size)), x ∈ d.P :: d.N :: d.Z ∨ ∃ z, z < 8 ∧ (g.dv z).ownBlock = some x := fun x hx => by
  obtain ⟨hx1, hx2⟩ := List.mem_filter.1 hx
  exact hU0 x hx1 (of_decide_eq_true hx2)
 have k3 : Chg (U0.filter (fun x => decide (x < w2.heap.size))) w2 w3 := k0.mono (fun x hx hlt => List.mem_filter.2 ⟨hx, decide_eq_true hlt⟩)
 have tp : Tp w2 (U0.filter (fun x => decide (x < w2.heap.size))) [102, 128, 132, 47] := fun x hx => by
  rcases hmem x hx with h1 | ⟨z, hz, hg⟩
  ·exact S2.wtp.1 x (List.mem_append_left _ h1)
  ·obtain ⟨cs, h2⟩ := (S2.dev.rows z hz).block x hg
   exact ⟨cs, 47, h2, by simp⟩
 have hlow : ∀ x ∈ U0.filter (fun x => decide (x < w2.heap.size)), lw ≤ x := fun x hx => by
  rcases hmem x hx with h1 | ⟨z, hz, hg⟩
  ·exact S2.wtp.2 x (List.mem_append_left _ h1)
  ·obtain ⟨xs, ho, -⟩ := S2.dev.rows z hz
   have := (own_elem ho hg).1
   omega
 have S3x : Mx w3 d.M d.X d.rx d.B d.rb d.r { s with out := 1 } := S2.mx.keepA k3 (tp.av (by decide)) (tp.map S2.mx.ver.m) (tp.map S2.mx.book.2) (tp.map S2.mx.map)
 have slot3 := k3.heap S2.slot ((tp.av (ts' := [210]) (by decide)).ne S2.slot (by simp))
 have text3 := S2.text.keep k3 (tp.av (by decide))
 have W3 := HW2.out.keepA k3 (tp.av (by decide)) (tp.map HW2.out.buf.2)
 have c3 := HC2.out.trans (Cs.of_tp k3 tp (by decide) hlow)
 obtain ⟨cs, hq1, hq2⟩ := W3.q
 have hdn := tdone_ok w3 S3x (show ({ s with out := 1 } : Gs).qv = _ from W3.qv) W3.cq rfl (cell_is hq1 0 hq2) W3.tab W3.tx W3.buf W3.bd W3.bk W3.len0 W3.len S2.ap S2.keys (Nat.le_trans S2.slo k3.size) hlast (by omega) hs W3.book hn0 (by show s.num ≤ _; omega)
 have HDn := Lib.hid hdn
 have r5 : w3.cell? ⟨d.P, 5, none⟩ = some (.pointer (some ⟨d.M, 0, none⟩)) := cell_is hP3 5 rfl
 have HS3 := Lib.hid (And.intro S3x (And.intro slot3 (And.intro text3 (And.intro hP3 hd3))))
 have HW3 := Lib.hid W3
 have HC3 := Lib.hid c3
 clear hdn S2 tp hmem hlow k0 hU0 hbn S3x slot3 text3 hP3 hd3 W3 c3 hq1 hq2 k3 HWr HC2 HW2 q5
 go_wp2_with fail
 refine HDn.out.mono ?_
 rintro e w4 ⟨rfl, z, ⟨⟨Lv', hx4, hap4, hk4⟩, hcd, -⟩, o4⟩
 have hF : FlushT w w4 lw d s g k hdl (putsL L D) := by
  obtain ⟨hx3, slot3, text3, hP3, hd3⟩ := HS3.out
  have c4 := HC3.out.trans (Cs.of_cd hcd hx3.mgr HW3.out.tx hx3.ver.x hx3.book.2 hx3.ver.m (by
   have := HS.out.bnd
   exact ⟨this.2.2.2.2.2.2.2.2.2.1, this.2.2.2.1, hT, this.2.2.2.2.2.2.2.1, this.2.2.2.2.1, this.2.2.2.2.2.1⟩))
  obtain ⟨U, kU, hU⟩ := hcd
  have av : ∀ ts : List Nat, (∀ t ∈ ts, t ∉ [195, 203, 270, 288]) → Av w3 U ts := fun ts hts => Cd.av hU hx3.mgr HW3.out.tx hx3.ver.x hx3.book.2 hx3.ver.m hts
  refine ⟨z, Lv', dv, ⟨?_, kU.heap slot3 ((av [210] (by decide)).ne slot3 (by simp)), text3.keep kU (av _ (by decide)), hd3.keep kU (av _ (by decide)), hx4, hap4, hk4, HS.out.bnd, HS.out.bndZ, Nat.le_trans HS.out.slo c4.size, HS.out.dlo⟩, c4, ownsRow_low o4 (Nat.le_trans hlw HC3.out.size)⟩
  exact kU.heap hP3 ((av [102] (by decide)).ne hP3 (by simp))
 have HF := Lib.hid hF
 clear hF hx4 hap4 hk4 hcd o4 HDn HS3 HW3 HC3 r5
 go_wp2_with fail
 go_ret
 exact ⟨rfl, HF.out⟩
end Go.Proofs.YtelakcjbknbehaaGreat
