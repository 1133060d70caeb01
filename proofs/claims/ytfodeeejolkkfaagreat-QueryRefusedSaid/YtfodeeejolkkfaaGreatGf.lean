/- Lemmas and walks: Walks: a cell is got, set, added to. Walks: a cell is added to, cells are moved. Walks: a world of law 26 is made and begins. Walks: fresh, Round, Class of law 26. Walks: awake of law 26. Plain: doubles as whole numbers of least units. No program in this text. Plain: doubles as whole numbers of least units: reading, order, whole numbers. No program in this text. Plain: doubles: differences, ints, one divided by a number. No program in this text. Plain: a number as an int: the ways. No program in this text. Plain: sums at the numbers' edges; kinds of numbers. No program in this text but the one sum of doubles. Walks: math.IsInf; cells are moved. Walks: the sum of noughts. Walks: the sum of cells of a store that was never written. Walks: how many cells of a store that was never written are noughts. Walks: a store that was never written, and a transaction, on both sides. Walks: awake of the questions. Walks: a transaction that is none is refused. -/
import Ieee.Arith
import Derived.Test.YtfodeeejolkkfaaGreatGa
import Derived.Test.YtfodeeejolkkfaaGreatGe
namespace Go.Proofs.YtfodeeejolkkfaaGreat
open Go.RowKit Go.Lib

/-- a cell's number. -/
def getF (f : Int → List Nat) (m : Nat) : Nat := (f (m / 5 : Nat)).getD (m % 5) 0
/-- the cells behind a Set. -/
def setF (f : Int → List Nat) (m x : Nat) : Int → List Nat := fun b => if b = (m / 5 : Nat) then (f b).set (m % 5) x else f b
theorem getF_set (f : Int → List Nat) (m x j : Nat) (h5 : ∀ b, (f b).length = 5) : getF (setF f m x) j = if j = m then x else getF f j := by
  unfold getF setF
  by_cases hb : ((j / 5 : Nat) : Int) = (m / 5 : Nat)
  · rw [if_pos hb]
    by_cases hj : j = m
    · subst hj
      rw [if_pos rfl, List.getD_eq_getElem?_getD, List.getElem?_set]
      have : j % 5 < (f ((j / 5 : Nat) : Int)).length := by rw [h5]; omega
      rw [if_pos rfl, if_pos this]; rfl
    · rw [if_neg hj, List.getD_eq_getElem?_getD, List.getD_eq_getElem?_getD, List.getElem?_set, if_neg (by omega)]
  · rw [if_neg hb, if_neg (by rintro rfl; exact hb rfl)]
theorem setF_five {f : Int → List Nat} (h : ∀ b, (f b).length = 5 ∧ ∀ x ∈ f b, CanB x) {m x : Nat} (hx : CanB x) : ∀ b, (setF f m x b).length = 5 ∧ ∀ y ∈ setF f m x b, CanB y := by
  intro b
  unfold setF
  split
  · refine ⟨by rw [List.length_set]; exact (h b).1, fun y hy => ?_⟩
    rcases List.mem_or_eq_of_mem_set hy with hy | rfl
    · exact (h b).2 y hy
    · exact hx
  · exact h b
theorem getF_can {f : Int → List Nat} (h : ∀ b, (f b).length = 5 ∧ ∀ x ∈ f b, CanB x) (m : Nat) : CanB (getF f m) := by
  unfold getF
  have hl := (h (m / 5 : Nat)).1
  have hlt : m % 5 < (f (m / 5 : Nat)).length := by rw [hl]; omega
  rw [List.getD_eq_getElem?_getD, List.getElem?_eq_getElem hlt, Option.getD_some]
  exact (h _).2 _ (List.getElem_mem hlt)
/-- doubles of an own row, at a place. -/
theorem own_fl {w : World} {base n : Nat} {v : Value} {l : List Nat} (h : w.ownsRow base 42 1 v n (flCells l)) (hn : 0 < n) :
    ∃ g cap cur, v = .slice (some ⟨g, 0, none⟩) n cap ∧ base ≤ g ∧ w.heap[g]? = some (.cells cur 42 (0, 0)) ∧ n ≤ cap ∧ l.length = n ∧ ∀ j (hj : j < l.length), w.cell? ⟨g, j, none⟩ = some (.float .f64 l[j]) := by
  have hl := h.1
  simp only [flCells, List.length_map, Nat.mul_one] at hl
  rcases h.2 with ⟨rfl, h0⟩ | ⟨g, cap, cur, rfl, hb, hg, hc, hm, hs, ht⟩
  · omega
  · refine ⟨g, cap, cur, rfl, hb, hg, hc, hl, fun j hj => ?_⟩
    have := h.cells (g := g) rfl j (.float .f64 l[j]) (by simp [flCells, hj])
    rw [add_lit, Nat.zero_add] at this
    exact this
set_option maxRecDepth 100000 in
set_option maxHeartbeats 1000000 in
theorem cget_in (w : World) {base : Nat} {d : Ids} {f : Int → List Nat} {n k m : Nat} (h : Sn w base d f n k) (hn : n ≤ 11) (hm : m < 1290) :
    Calls Tryz.prog 21 #[.pointer (some ⟨d.P, 0, none⟩), .int .i64 1, .int .i64 m] w fun e w' => e = .returned (.tuple #[.float .f64 (getF f m), .int .i64 0]) ∧ Ow base w w' ∧ Sn w' base d f (n + 1) k := by
  have hr : (m : Int).tmod 5 = ((m % 5 : Nat) : Int) := rfl
  have h5 := h.five (m / 5 : Nat)
  go_enter Tryz.func21, Tryz.ntmps21
  go_wp2_with fail
  refine (block_in w h hn hm).mono ?_
  rintro e w1 ⟨v, rfl, k1, h1, o1⟩
  obtain ⟨g, cap, cur, rfl, -, -, hcap, hl, hc⟩ := own_fl o1 (by decide)
  have hlt : m % 5 < (f (m / 5 : Nat)).length := by rw [hl]; omega
  have c0 := hc (m % 5) hlt
  have hx : (f (m / 5 : Nat))[m % 5] = getF f m := by
    unfold getF
    rw [List.getD_eq_getElem?_getD, List.getElem?_eq_getElem hlt, Option.getD_some]
  rw [hx] at c0
  clear hx hlt hc o1 hl h h5
  have hi : ((m % 5 : Nat) : Int) < 5 := by omega
  generalize m % 5 = j at *
  go_wp2_with fail
  go_ret2
  exact ⟨rfl, k1, h1⟩
set_option maxRecDepth 100000 in
theorem cget_out (w : World) {base : Nat} {d : Ids} {f : Int → List Nat} {n k : Nat} {i : Int} (h : Sn w base d f n k) (hi : i < 0 ∨ 1290 ≤ i) :
    Calls Tryz.prog 21 #[.pointer (some ⟨d.P, 0, none⟩), .int .i64 1, .int .i64 i] w fun e w' => e = .returned (.tuple #[.float .f64 0, .int .i64 2]) ∧ Chg [] w w' := by
  go_enter Tryz.func21, Tryz.ntmps21
  go_wp2_with fail
  refine (block_out w h hi).mono ?_
  rintro e w1 ⟨rfl, k1⟩
  go_wp2_with fail
  go_ret2
  exact ⟨rfl, k1⟩
set_option maxRecDepth 100000 in
theorem cset_out (w : World) {base : Nat} {d : Ids} {f : Int → List Nat} {n k x : Nat} {i : Int} (h : Sn w base d f n k) (hi : i < 0 ∨ 1290 ≤ i) :
    Calls Tryz.prog 19 #[.pointer (some ⟨d.P, 0, none⟩), .int .i64 1, .int .i64 i, .float .f64 x] w fun e w' => e = .returned (.int .i64 2) ∧ Chg [] w w' := by
  go_enter Tryz.func19, Tryz.ntmps19
  go_wp2_with fail
  refine (block_out w h hi).mono ?_
  rintro e w1 ⟨rfl, k1⟩
  go_wp2_with fail
  go_ret
  exact ⟨rfl, k1⟩
theorem canB_canB (x : Nat) : canB (canB x) = canB x := by
  by_cases h : isNaNB x = true
  · have e : canB x = nanB := by unfold canB; rw [if_pos h]
    rw [e]
    decide
  · have e : canB x = x := by unfold canB; rw [if_neg h]
    rw [e, e]
theorem packB_set (l : List Nat) (j x : Nat) : packB (l.set j x) = packB (l.set j (canB x)) := by
  induction l generalizing j with
  | nil => rfl
  | cons a l ih =>
    cases j with
    | zero => simp only [List.set_cons_zero, packB_cons]; congr 1; unfold encB; rw [canB_canB]
    | succ j => simp only [List.set_cons_succ, packB_cons, ih]
theorem Ow.new_set {base : Nat} {w w' : World} (h : Ow base w w') {g : Nat} (hg : w.heap.size ≤ g) (i : Nat) (v : Value) : Ow base w (w'.setCell ⟨g, i, none⟩ v) := by
  obtain ⟨T, h1, h2⟩ := h
  exact ⟨T, h1.new_set hg i v, h2⟩
theorem Av.row {w : World} {g : Nat} {cs : Array Value} {t : TypeId} {fr : Nat × Nat} (h : w.heap[g]? = some (.cells cs t fr)) {ts : List Nat} (ht : t ∉ ts) : Av w [g] ts := fun x hx cs' t' fr' hh => by
  rw [List.mem_singleton] at hx; subst hx; rw [h] at hh; cases hh; exact ht
theorem St.keepRow {w w' : World} {base : Nat} {d : Ids} {q : Int → List UInt8} {n k g : Nat} {cs : Array Value} {fr : Nat × Nat} (h : St w base d q n k) (hc : Chg [g] w w') (hg : w.heap[g]? = some (.cells cs 42 fr)) (hb : base ≤ g) : St w' base d q n k := by
  obtain ⟨L, h1, h2, h3⟩ := h.buf
  have hne : ∀ {x : Nat} {cs' : Array Value} {t : TypeId} {fr' : Nat × Nat}, w.heap[x]? = some (.cells cs' t fr') → t ≠ 42 → x ∉ [g] := fun hx ht => (Av.row hg (ts := [_]) (by simpa using ht.symm)).ne hx (by simp)
  refine ⟨h.sta.keep hc (fun x hx => by rw [List.mem_singleton] at hx; omega), hc.heap h.tx (hne h.tx (by decide)), ⟨L, h1.keep hc (hne h1.1 (by decide)) (by simpa using map_cells h1.2 hg), h2, fun b hb1 hb2 => ?_⟩, h.vw.keep hc (Av.row hg (by decide)), h.sp.keep hc (Av.row hg (by decide)), h.high⟩
  rcases h3 b hb1 hb2 with ⟨e1, e2⟩ | ⟨g2, c2, e1, e2, e3, cs2, e4⟩
  · exact Or.inl ⟨e1, e2⟩
  · exact Or.inr ⟨g2, c2, e1, e2.chgT hc (hne e4 (by decide)), e3, cs2, hc.heap e4 (hne e4 (by decide))⟩
set_option maxRecDepth 100000 in
set_option maxHeartbeats 2000000 in
theorem cset_in (w : World) {base : Nat} {d : Ids} {f : Int → List Nat} {n k m x : Nat} (h : Sn w base d f n k) (hn : n ≤ 11) (hk : k ≤ 15) (hm : m < 1290) (hx : x < 18446744073709551616) :
    Calls Tryz.prog 19 #[.pointer (some ⟨d.P, 0, none⟩), .int .i64 1, .int .i64 m, .float .f64 x] w fun e w' => e = .returned (.int .i64 0) ∧ Ow base w w' ∧ Sn w' base d (setF f m (canB x)) (n + 1) (k + 1) := by
  have hr : (m : Int).tmod 5 = ((m % 5 : Nat) : Int) := rfl
  have hq : (m : Int).tdiv 5 = ((m / 5 : Nat) : Int) := rfl
  have h5 := h.five (m / 5 : Nat)
  have hcx := canB_can hx
  go_enter Tryz.func19, Tryz.ntmps19
  go_wp2_with fail
  refine (block_in w h hn hm).mono ?_
  rintro e w1 ⟨v, rfl, k1, h1, o1⟩
  obtain ⟨g, cap, cur, rfl, hgb, hgc, hcap, hl, hc⟩ := own_fl o1 (by decide)
  have hlt : m % 5 < (f (m / 5 : Nat)).length := by rw [hl]; omega
  obtain ⟨u0, c0⟩ : ∃ u, w1.cell? ⟨g, m % 5, none⟩ = some (.float .f64 u) := ⟨_, hc (m % 5) hlt⟩
  have f0 := unfrozen hgc (m % 5)
  have hF : Fl (w1.setCell ⟨g, m % 5, none⟩ (.float .f64 x)) (some ⟨g, 0, none⟩) ((f (m / 5 : Nat)).set (m % 5) x) := by
    refine Or.inr ⟨g, 0, rfl, fun j hj => ?_⟩
    rw [List.length_set] at hj
    rw [Nat.zero_add, List.getElem_set]
    by_cases e : m % 5 = j
    · rw [if_pos e, ← e]
      have hh := heap_set hgc (m % 5) (.float .f64 x) rfl
      refine cell_is hh _ ?_
      have hz : m % 5 < cur.size := by
        have := hc (m % 5) hlt
        rw [cell_of_row _ _ _ _ _ _ hgc] at this
        exact (Array.getElem?_eq_some_iff.1 this).1
      simp [hz]
    · rw [if_neg e]
      have hh := heap_set hgc (m % 5) (.float .f64 x) rfl
      refine cell_is hh _ ?_
      have := hc j hj
      rw [cell_of_row _ _ _ _ _ _ hgc] at this
      rw [Array.getElem?_setIfInBounds, if_neg e]
      exact this
  have kS : Chg [g] w1 (w1.setCell ⟨g, m % 5, none⟩ (.float .f64 x)) := Chg.set w1 g _ _
  have hg0 : base ≤ g := by have := heap_lt h.st.tx; have := h.st.high.1; obtain ⟨_, _, _, hq1, _⟩ := h.st.vw; have := heap_lt hq1; omega
  have o2 : Ow base w (w1.setCell ⟨g, m % 5, none⟩ (.float .f64 x)) := k1.new_set hgb _ _
  have h2 : Sn (w1.setCell ⟨g, m % 5, none⟩ (.float .f64 x)) base d f (n + 1) k := ⟨h1.st.keepRow kS hgc hg0, h.five⟩
  have hlen : ((f (m / 5 : Nat)).set (m % 5) x).length = 5 := by rw [List.length_set]; exact hl
  have hlt5 : ((m % 5 : Nat) : Int) < 5 := by omega
  have hxs : ∀ y ∈ (f (m / 5 : Nat)).set (m % 5) x, canB y < 18446744073709551616 := by
    intro y hy
    rcases List.mem_or_eq_of_mem_set hy with hy | rfl
    · rw [canB_self (h5.2 y hy)]; exact (h5.2 y hy).1
    · exact hcx.1
  have HP := Lib.hid (pack_any (w1.setCell ⟨g, m % 5, none⟩ (.float .f64 x)) (c := cap) hlen (by omega) hF hxs)
  have HE : packB ((f (m / 5 : Nat)).set (m % 5) x) = packB (setF f m (canB x) (m / 5 : Nat)) := by rw [packB_set]; unfold setF; rw [if_pos rfl]
  have HE2 := Lib.hid HE
  have hsz : w.heap.size ≤ (w1.setCell ⟨g, m % 5, none⟩ (.float .f64 x)).heap.size := o2.size
  clear hF hc hxs hlen hl kS h1 k1 h5 HE hlt o1 hgc
  generalize m % 5 = j at *
  have hst : ∀ a v m w, (store a (.float .f64 v) m).run Tryz.prog w = stored Tryz.prog w a (.float .f64 v) m := fun a v m w => run_store Tryz.prog w a _ m rfl
  go_wp2_with fail
  refine HP.out.mono ?_
  rintro e w2 ⟨v2, rfl, k2, -, hv⟩
  obtain ⟨g2, c2, rfl, hB2, hg2⟩ := hv (by trivial)
  rw [HE2.out] at hB2
  have h3 := h2.keep k2
  have o3 := o2.then k2
  clear hv h2 o2 k2 c0 f0
  go_wp2_with fail
  have kx : Chg [] w2 (w2.alloc (.cells #[.int .i64 (m / 5 : Nat), .slice (some ⟨g2, 0, none⟩) 40 c2] 92)) := Chg.alloc w2 _
  have x0 := heap_new w2 (.cells #[.int .i64 (m / 5 : Nat), .slice (some ⟨g2, 0, none⟩) 40 c2] 92)
  have h5' := setF_five h.five (m := m) hcx
  refine (swrite_st _ (h3.keep kx).st hk (b := (m / 5 : Nat)) (E := w2.heap.size) (eo := 0) (by omega) (by omega) (cell_is x0 0 rfl) (cell_is x0 1 rfl) (hB2.chg kx) (by rw [packB_len, (h5' _).1])).mono ?_
  rintro e w4 ⟨rfl, o4, h4⟩
  have hfin : Sn w4 base d (setF f m (canB x)) (n + 1) (k + 1) := by
    refine ⟨?_, h5'⟩
    have he : (putQ (fun b => packB (f b)) (m / 5 : Nat) (packB (setF f m (canB x) (m / 5 : Nat)))) = (fun b => packB (setF f m (canB x) b)) := by
      funext b
      unfold putQ
      by_cases hb : b = ((m / 5 : Nat) : Int)
      · rw [if_pos hb, hb]
      · rw [if_neg hb]; unfold setF; rw [if_neg hb]
    rw [← he]
    exact h4
  have hof := (o3.then kx).trans o4
  clear h h3 h4 o3 o4 kx x0 hB2
  go_wp2_with fail
  go_ret
  exact ⟨rfl, hof, hfin⟩
end Go.Proofs.YtfodeeejolkkfaaGreat
namespace Go.Proofs.YtfodeeejolkkfaaGreat
open Go.RowKit Go.Lib

/-- a sum, any NaN as the one. -/
def addC (a b : Nat) : Nat := match Ieee.double.add a b with | some d => canB d | none => nanB
theorem addC_can (a b : Nat) : CanB (addC a b) := by
  unfold addC
  cases h : Ieee.double.add a b with
  | none => exact ⟨by decide, fun _ => rfl⟩
  | some d => exact canB_can (Ieee.double.add_lt h)
theorem run_add (a b : Nat) (w : World) : ∃ c w', (binOp .add 42 (.float .f64 a) (.float .f64 b)).run Tryz.prog w = .ok (.float .f64 c) w' ∧ canB c = addC a b ∧ c < 18446744073709551616 ∧ Chg [] w w' := by
  cases h : Ieee.double.add a b with
  | some d =>
    exact ⟨d, w, run_float_arith w .add 42 .f64 a b d h, by unfold addC; rw [h], Ieee.double.add_lt h, Chg.refl _ _⟩
  | none =>
    refine ⟨(Question.nanBits .f64 a b).cut (w.tape w.drawn (.nanBits .f64 a b)), w.drew, ?_, ?_, ?_, (Chg.refl _ _).drew⟩
    · have h' : FloatKind.f64.format.add a b = none := h
      simp [binOp, Op.floatArith, h', Question.forced]
    · have : isNaNB ((Question.nanBits .f64 a b).cut (w.tape w.drawn (.nanBits .f64 a b))) = true := by
        show isNaNB ((w.tape w.drawn (.nanBits .f64 a b) % 2) * 9223372036854775808 + 9218868437227405312 + 1 + (w.tape w.drawn (.nanBits .f64 a b) / 2) % 4503599627370495) = true
        have h1 : w.tape w.drawn (.nanBits .f64 a b) % 2 < 2 := Nat.mod_lt _ (by decide)
        have h2 : (w.tape w.drawn (.nanBits .f64 a b) / 2) % 4503599627370495 < 4503599627370495 := Nat.mod_lt _ (by decide)
        generalize w.tape w.drawn (.nanBits .f64 a b) % 2 = u at *
        generalize (w.tape w.drawn (.nanBits .f64 a b) / 2) % 4503599627370495 = q at *
        unfold isNaNB magB
        refine decide_eq_true ?_
        rcases (by omega : u = 0 ∨ u = 1) with rfl | rfl <;> omega
      unfold canB addC
      rw [if_pos this, h]
    · show (w.tape w.drawn (.nanBits .f64 a b) % 2) * 9223372036854775808 + 9218868437227405312 + 1 + (w.tape w.drawn (.nanBits .f64 a b) / 2) % 4503599627370495 < 18446744073709551616
      have h1 : w.tape w.drawn (.nanBits .f64 a b) % 2 < 2 := Nat.mod_lt _ (by decide)
      have h2 : (w.tape w.drawn (.nanBits .f64 a b) / 2) % 4503599627370495 < 4503599627370495 := Nat.mod_lt _ (by decide)
      omega
set_option maxRecDepth 100000 in
set_option maxHeartbeats 1000000 in
theorem cadd_in (w : World) {base : Nat} {d : Ids} {f : Int → List Nat} {n k m x : Nat} (h : Sn w base d f n k) (hn : n ≤ 10) (hk : k ≤ 15) (hm : m < 1290) :
    Calls Tryz.prog 20 #[.pointer (some ⟨d.P, 0, none⟩), .int .i64 1, .int .i64 m, .float .f64 x] w fun e w' => e = .returned (.tuple #[.float .f64 (addC (getF f m) x), .int .i64 0]) ∧ Ow base w w' ∧ Sn w' base d (setF f m (addC (getF f m) x)) (n + 2) (k + 1) := by
  have hy := addC_can (getF f m) x
  have HY := Lib.hid (canB_self hy)
  go_enter Tryz.func20, Tryz.ntmps20
  go_wp2_with fail
  refine (cget_in w h (by omega) hm).mono ?_
  rintro e w1 ⟨rfl, k1, h1⟩
  obtain ⟨c, w2, ha, hc, hclt, k2⟩ := run_add (getF f m) x w1
  have HC := Lib.hid hc
  clear hc
  have h2 := h1.keep k2
  have o2 := k1.then k2
  go_wp2_with fail
  refine (fbits_any c w2).mono ?_
  rintro e w3 ⟨rfl, rfl⟩
  rw [HC.out]
  go_wp2_with fail
  refine (fromBits_any _ w2).mono ?_
  rintro e w3 ⟨rfl, rfl⟩
  rw [HY.out]
  go_wp2_with fail
  refine (cset_in w2 h2 (by omega) hk hm hy.1).mono ?_
  rintro e w4 ⟨rfl, o4, h4⟩
  rw [HY.out] at h4
  have o5 := o2.trans o4
  clear h h1 h2 k1 k2 o2 o4 ha
  go_wp2_with fail
  go_ret2
  exact ⟨rfl, o5, h4⟩
set_option maxRecDepth 100000 in
theorem cadd_out (w : World) {base : Nat} {d : Ids} {f : Int → List Nat} {n k x : Nat} {i : Int} (h : Sn w base d f n k) (hi : i < 0 ∨ 1290 ≤ i) :
    Calls Tryz.prog 20 #[.pointer (some ⟨d.P, 0, none⟩), .int .i64 1, .int .i64 i, .float .f64 x] w fun e w' => e = .returned (.tuple #[.float .f64 0, .int .i64 2]) ∧ Chg [] w w' := by
  go_enter Tryz.func20, Tryz.ntmps20
  go_wp2_with fail
  refine (cget_out w h hi).mono ?_
  rintro e w1 ⟨rfl, k1⟩
  go_wp2_with fail
  go_ret2
  exact ⟨rfl, k1⟩
end Go.Proofs.YtfodeeejolkkfaaGreat
namespace Go.Proofs.YtfodeeejolkkfaaGreat
open Go.RowKit Go.Lib

/-- a mounted store without transactions, all of it below base. -/
structure Sm (w : World) (base N A c : Nat) (Z : List Nat) (P S M X rx B rb r : Nat) : Prop where
  store : StoreAt w P N S (some ⟨M, 0, none⟩)
  dev : ∃ ops, DevAt w N A c ops Z
  mg : Mg w M X rx B rb r 0 [] []
  low : P < base ∧ N < base ∧ A < base ∧ M < base ∧ X < base ∧ rx < base ∧ B < base ∧ rb < base ∧ r < base
  lowZ : ∀ z ∈ Z, z < base
  ap : ∀ x, x = N ∨ x = A ∨ x ∈ Z → x ≠ B ∧ x ≠ rb ∧ x ≠ r
theorem Sm.keep {w w' : World} {T : List Nat} {base N A c : Nat} {Z : List Nat} {P S M X rx B rb r : Nat} (h : Sm w base N A c Z P S M X rx B rb r) (hc : Chg T w w') (hT : ∀ x ∈ T, base ≤ x) : Sm w' base N A c Z P S M X rx B rb r := by
  obtain ⟨l1, l2, l3, l4, l5, l6, l7, l8, l9⟩ := h.low
  have n : ∀ x, x < base → x ∉ T := fun x hx hm => by have := hT x hm; omega
  obtain ⟨ops, hd⟩ := h.dev
  have m := h.mg
  exact ⟨h.store.keep hc (n _ l1), ⟨ops, hd.keep hc (n _ l2) (n _ l3) (fun z hz => n _ (h.lowZ z hz))⟩,
    ⟨hc.heap m.mgr (n _ l4), ⟨hc.heap m.ver.1 (n _ l5), m.ver.2.keep hc (n _ l6)⟩, m.book.keep hc (n _ l7) (n _ l8), m.map.keep hc (n _ l9), m.n1, m.n2, m.n3⟩, h.low, h.lowZ, h.ap⟩
/-- cells that were never set. -/
def f0 : Int → List Nat := fun _ => [0, 0, 0, 0, 0]
theorem f0_five : ∀ b, (f0 b).length = 5 ∧ ∀ x ∈ f0 b, CanB x := fun b => ⟨rfl, fun x hx => by
  simp [f0] at hx
  subst hx
  exact ⟨by decide, fun h => absurd h (by decide)⟩⟩
/-- block K is a world of law 26: its store P, its reference G, its handle h. -/
def WdAt (w : World) (K P G : Nat) (h : Int) : Prop := w.heap[K]? = some (.cells #[.pointer (some ⟨P, 0, none⟩), .pointer (some ⟨G, 0, none⟩), .int .i64 h] 48 (0, 0))
set_option maxRecDepth 100000 in
set_option maxHeartbeats 1000000 in
theorem wbegin (w : World) {base N A c : Nat} {Z : List Nat} {P S M X rx B rb r K G Y : Nat} (h : Sm w base N A c Z P S M X rx B rb r) (hG : RmAt w G Y (.slice none 0 0) (.slice none 0 0) (.slice none 0 0) 0) (hK : WdAt w K P G 0) (hb : base ≤ G ∧ base ≤ K) :
    Calls Tryz.prog 45 #[.pointer (some ⟨K, 0, none⟩)] w fun e w' => e = .returned (.bool true) ∧ ∃ d, d.P = P ∧ Chg [K, G, B, rb, r] w w' ∧ Sn w' w.heap.size d f0 0 0 ∧ WdAt w' K P G 1 := by
  have c0 : w.cell? ⟨K, 0, none⟩ = some (.pointer (some ⟨P, 0, none⟩)) := cell_is hK 0 rfl
  obtain ⟨l1, l2, l3, l4, l5, l6, l7, l8, l9⟩ := h.low
  have hGl := heap_lt hG
  have hKG : K ≠ G := heap_ne hK hG (by simp)
  go_enter Tryz.func45, Tryz.ntmps45
  go_wp2_with fail
  refine (sbegin_any w h.store h.mg).mono ?_
  rintro e w1 ⟨T, W, rw, Q, V, rfl, k1, hP1, hM1, hT1, n1, n2, n3, b1, b2, b3⟩
  have nK : K ∉ [B, rb, r] := by simp; omega
  have nG : G ∉ [B, rb, r] := by simp; omega
  have hK1 : WdAt w1 K P G 0 := k1.heap hK nK
  have hG1 := k1.heap hG nG
  obtain ⟨ops, hd⟩ := h.dev
  have hne : ∀ x, x = N ∨ x = A ∨ x ∈ Z → x ∉ [B, rb, r] := fun x hx => by have := h.ap x hx; simp; omega
  have hd1 := hd.keep k1 (hne _ (Or.inl rfl)) (hne _ (Or.inr (Or.inl rfl))) (fun z hz => hne _ (Or.inr (Or.inr hz)))
  have c1 : w1.cell? ⟨K, 1, none⟩ = some (.pointer (some ⟨G, 0, none⟩)) := cell_is hK1 1 rfl
  go_wp2_with fail
  refine (rbegin_one w1 hG1).mono ?_
  rintro e w2 ⟨rfl, k2⟩
  have hK2 : WdAt w2 K P G 0 := k2.heap hK1 (by simpa using hKG)
  have c2 : w2.cell? ⟨K, 2, none⟩ = some (.int .i64 0) := cell_is hK2 2 rfl
  have f2 := unfrozen hK2 2
  have k3 := Chg.set w2 K 2 (.int .i64 1)
  have hK3 : WdAt (w2.setCell ⟨K, 2, none⟩ (.int .i64 1)) K P G 1 := heap_set hK2 2 _ rfl
  have kk : Chg [G, K] w1 (w2.setCell ⟨K, 2, none⟩ (.int .i64 1)) := (k2.mono (fun x hx _ => by simp at hx; simp [hx])).then (k3.mono (fun x hx _ => by simp at hx; simp [hx]))
  have hhi : ∀ x ∈ [G, K], base ≤ x := fun x hx => by simp at hx; omega
  have hKl := heap_lt hK
  have ha : Sta w1 base ⟨P, N, S, M, X, rx, B, rb, r, A, c, Z, T, W, rw, Q, V⟩ := ⟨hP1, ⟨ops, hd1⟩, hM1, h.low, h.lowZ⟩
  have ha2 := ha.keep kk hhi
  have hav : ∀ ts, 163 ∉ ts → 48 ∉ ts → Av w1 [G, K] ts := fun ts h1 h2 x hx cs t fr hh => by
    simp at hx
    rcases hx with rfl | rfl
    · rw [show w1.heap[x]? = _ from hG1] at hh; cases hh; exact h1
    · rw [show w1.heap[x]? = _ from hK1] at hh; cases hh; exact h2
  have nmap : ∀ {x L}, MapAt w1 x L → x ∉ [G, K] := fun hm hx => by
    simp at hx
    rcases hx with rfl | rfl
    · exact map_cells hm (show w1.heap[_]? = _ from hG1) rfl
    · exact map_cells hm (show w1.heap[_]? = _ from hK1) rfl
  have hfin : Sn (w2.setCell ⟨K, 2, none⟩ (.int .i64 1)) w.heap.size ⟨P, N, S, M, X, rx, B, rb, r, A, c, Z, T, W, rw, Q, V⟩ f0 0 0 := by
    have hv1 : Vw w1 w.heap.size Q X W V 0 := ⟨_, 0, [], hT1.view, Nat.le_refl _, World.ownsRow_nil _ _ _ _⟩
    have hs1 : SpV w1 w.heap.size V 0 := ⟨_, [], hT1.spans, Nat.le_refl _, World.ownsRow_nil _ _ _ _⟩
    refine ⟨⟨⟨ha2.store, ha2.dev, ha2.mg, ⟨by show P < _; omega, by show N < _; omega, by show A < _; omega, by show M < _; omega, by show X < _; omega, by show rx < _; omega, by show B < _; omega, by show rb < _; omega, by show r < _; omega⟩, fun z hz => by have := h.lowZ z hz; omega⟩, kk.heap hT1.tx ((hav [173] (by simp) (by simp)).ne hT1.tx (by simp)),
      ⟨[], hT1.buf.keep kk ((hav [272] (by simp) (by simp)).ne hT1.buf.1 (by simp)) (nmap hT1.buf.2), Nat.le_refl _, fun b _ _ => Or.inl ⟨rfl, zero_pack⟩⟩,
      hv1.keep kk (hav _ (by simp) (by simp)), hs1.keep kk (hav _ (by simp) (by simp)), b2, b3, b1⟩, f0_five⟩
  have hch : Chg [K, G, B, rb, r] w (w2.setCell ⟨K, 2, none⟩ (.int .i64 1)) := (k1.mono (fun x hx _ => by simp at hx; simp; omega)).then (kk.mono (fun x hx _ => by simp at hx; simp; omega))
  clear h ha ha2 hd hd1 hG hG1 hK1 hK2 k1 k2 k3 kk hM1 hT1 hP1 hav nmap
  go_wp2_with fail
  go_ret
  exact ⟨rfl, _, rfl, hch, hfin, hK3⟩
end Go.Proofs.YtfodeeejolkkfaaGreat
namespace Go.Proofs.YtfodeeejolkkfaaGreat
open Go.RowKit Go.Lib

/-- a new world of law 26: all of it lies behind w. -/
def FrR (w : World) (e : Ending) (w' : World) : Prop :=
  ∃ base d K G, e = .returned (.tuple #[.pointer (some ⟨K, 0, none⟩), .bool true]) ∧ Chg [] w w' ∧ Sn w' base d f0 0 0 ∧ WdAt w' K d.P G 1 ∧ w.heap.size ≤ base
set_option maxRecDepth 100000 in
set_option maxHeartbeats 2000000 in
theorem fresh_any (w : World) : Calls Tryz.prog 16 #[] w (FrR w) := by
  have kg : Chg [] w (w.alloc (.cells #[.int .i64 8, .int .i64 96] 80)) := Chg.alloc w _
  have g0 := heap_new w (.cells #[.int .i64 8, .int .i64 96] 80)
  have a0 : (w.alloc (.cells #[.int .i64 8, .int .i64 96] 80)).cell? ⟨w.heap.size, 0, none⟩ = some (.int .i64 8) := cell_is g0 0 rfl
  have a1 : (w.alloc (.cells #[.int .i64 8, .int .i64 96] 80)).cell? ⟨w.heap.size, 1, none⟩ = some (.int .i64 96) := cell_is g0 1 rfl
  go_enter Tryz.func16, Tryz.ntmps16
  go_wp2_with fail
  generalize w.alloc (.cells #[.int .i64 8, .int .i64 96] 80) = w0 at *
  have hw0 := kg.size
  generalize hz0 : w.heap.size = z0 at *
  refine (new_any w0).mono ?_
  rintro e w1 ⟨N, A, c, Z, rfl, k1, hD, hO, lN, lA, lZ⟩
  have g1 := k1.heap g0 (by simp)
  have hs1 := k1.size
  have hAl := hD.A_lt
  have hNl := heap_lt hD.1
  have hZl : ∀ z ∈ Z, z < w1.heap.size := fun z hz => by
    obtain ⟨j, hj, e⟩ := List.getElem_of_mem hz
    rw [← e]
    exact heap_lt (hD.2.2.2.2 j hj)
  clear a0 a1
  go_wp2_with fail
  refine (mount_any w1 hD hO hZl (by omega) (by omega)).mono ?_
  rintro e w2 ⟨P, S, M, X, rx, B, rb, r, rfl, hM, lP, lS, lM, lX, lrx, lB, lrb, lr, n1, n2, n3⟩
  obtain ⟨k2, hD2, hP2, hS2, hm2, hx2, hb2, hr2⟩ := hM
  have h0l := heap_lt g0
  have g2 := k2.heap g1 (by
    intro hm
    rcases List.mem_cons.1 hm with e | hm
    · omega
    · have := lZ _ hm; omega)
  have hs2 := k2.size
  have b0 : w2.cell? ⟨z0, 0, none⟩ = some (.int .i64 8) := cell_is g2 0 rfl
  have b1 : w2.cell? ⟨z0, 1, none⟩ = some (.int .i64 96) := cell_is g2 1 rfl
  have hSm : Sm w2 w2.heap.size N A c Z P S M X rx B rb r := by
    refine ⟨hP2, ⟨_, hD2⟩, ⟨hm2, hx2, hb2, hr2, n1, n2, n3⟩, ?_, fun z hz => Nat.lt_of_lt_of_le (hZl z hz) hs2, ?_⟩
    · have := heap_lt hP2; have := heap_lt hm2; have := heap_lt hx2.1; have := hx2.2.lt; have := heap_lt hb2.1; have := hb2.2.lt; have := hr2.lt; omega
    · rintro x (rfl | rfl | hx)
      · omega
      · omega
      · have := hZl x hx; omega
  have kk2 : Chg [] w w2 := (kg.then k1).trans k2 (fun x hx hlt => by
    rcases List.mem_cons.1 hx with e | hx
    · have := kg.size; omega
    · have := lZ x hx; have := kg.size; omega)
  clear hD hO hP2 hD2 hS2 hm2 hx2 hb2 hr2 k2 g1 g0 k1 kg
  go_wp2_with fail
  refine (rcap_min w2).mono ?_
  rintro e w3 ⟨rfl, k3⟩
  have h3 := hSm.keep k3 (fun x hx => by cases hx)
  have kk3 := kk2.then k3
  have hs3 := k3.size
  clear hSm b0 b1 g2
  go_wp2_with fail
  refine (rm_new w3).mono ?_
  rintro e w4 ⟨G, Y, rfl, k4, hG, lG⟩
  have h4 := h3.keep k4 (fun x hx => by cases hx)
  have kk4 := kk3.then k4
  have hs4 := k4.size
  clear h3
  go_wp2_with fail
  have k5 : Chg [] w4 (w4.alloc (.cells #[.pointer (some ⟨P, 0, none⟩), .pointer (some ⟨G, 0, none⟩), .int .i64 0] 48)) := Chg.alloc w4 _
  have hK := heap_new w4 (.cells #[.pointer (some ⟨P, 0, none⟩), .pointer (some ⟨G, 0, none⟩), .int .i64 0] 48)
  have h5 := h4.keep k5 (fun x hx => by cases hx)
  have hG5 := k5.heap hG (by simp)
  refine (wbegin _ h5 hG5 hK (by omega)).mono ?_
  rintro e w6 ⟨rfl, d, hP, k6, hn, hw⟩
  subst hP
  have hfin : Chg [] w w6 := (kk4.then k5).trans k6 (fun x hx hlt => by
    simp at hx
    have := kk2.size
    omega)
  have hbase : z0 ≤ (w4.alloc (.cells #[.pointer (some ⟨d.P, 0, none⟩), .pointer (some ⟨G, 0, none⟩), .int .i64 0] 48)).heap.size := by have := (kk4.then k5).size; omega
  clear h4 h5 hG hG5 hK k5 k6 kk4 kk3 kk2
  go_wp2_with fail
  go_ret2
  exact ⟨_, d, _, G, rfl, hfin, hn, hw, by rw [hz0]; exact hbase⟩
set_option maxRecDepth 100000 in
theorem round_any (w : World) (i : Int) (_hi : -9223372036854775808 ≤ i ∧ i ≤ 9223372036854775807) : Calls Tryz.prog 17 #[.int .i64 i, .int .i64 1290] w fun e w' => ∃ m : Nat, m < 1290 ∧ e = .returned (.int .i64 m) ∧ w = w' := by
  have h1 : -1290 < i.tmod 1290 ∧ i.tmod 1290 < 1290 := by
    have := Int.tmod_lt_of_pos i (b := 1290) (by omega)
    have := Int.lt_tmod_of_pos i (b := 1290) (by omega)
    omega
  go_enter Tryz.func17, Tryz.ntmps17
  go_wp2_with fail
  · obtain ⟨m, hm⟩ : ∃ m : Nat, i.tmod 1290 + 1290 = m := ⟨(i.tmod 1290 + 1290).toNat, by omega⟩
    go_ret
    exact ⟨m, by omega, by rw [← hm]; rfl, rfl⟩
  · obtain ⟨m, hm⟩ : ∃ m : Nat, i.tmod 1290 = m := ⟨(i.tmod 1290).toNat, by omega⟩
    go_ret
    exact ⟨m, by omega, by rw [← hm]; rfl, rfl⟩
/-- a number's kind, by its bits without the sign. -/
def clsM (m : Nat) : Int := if 9218868437227405312 < m then 1 else if m = 9218868437227405312 then 9 else if m = 0 then 6 else if m < 4503599627370496 then 7 else 8
/-- a number's kind. -/
def clsV (v : Nat) : Int := if 9218868437227405312 < magB v then 1 else if 9223372036854775808 ≤ v then 11 - clsM (magB v) else clsM (magB v)
theorem and_sign {b : Nat} (h : b < 18446744073709551616) : bits .and .u64 (b : Int) 9223372036854775808 = if 9223372036854775808 ≤ b then 9223372036854775808 else 0 := by
  have h1 := u64_and_nat b 9223372036854775808 h (by decide)
  have e : b &&& 9223372036854775808 = if 9223372036854775808 ≤ b then 9223372036854775808 else 0 := by
    apply Nat.eq_of_testBit_eq
    intro i
    rw [Nat.testBit_and, show (9223372036854775808 : Nat) = 2 ^ 63 by decide, Nat.testBit_two_pow]
    by_cases hi : 63 = i
    · subst hi
      rw [Nat.testBit_eq_decide_div_mod_eq]
      by_cases hb : 2 ^ 63 ≤ b
      · rw [if_pos hb, Nat.testBit_two_pow, show b / 2 ^ 63 % 2 = 1 by omega]; rfl
      · rw [if_neg hb, show b / 2 ^ 63 % 2 = 0 by omega]; rfl
    · rw [show decide (63 = i) = false from decide_eq_false hi, Bool.and_false]
      split
      · rw [Nat.testBit_two_pow, decide_eq_false hi]
      · rw [Nat.zero_testBit]
  rw [e] at h1
  by_cases hb : 9223372036854775808 ≤ b
  · rw [if_pos hb] at h1 ⊢; exact h1
  · rw [if_neg hb] at h1 ⊢; exact h1
/-- the same, as the program reckons it. -/
def kI (mi : Int) : Int := bif mi == 9218868437227405312 then 9 else bif mi == 0 then 6 else bif decide (mi < 4503599627370496) then 7 else 8
def clsI (mi si : Int) : Int := bif decide (9218868437227405312 < mi) then 1 else bif si != 0 then 11 - kI mi else kI mi
theorem bif_dec {α : Type} (p : Prop) [Decidable p] (a b : α) : (bif decide p then a else b) = if p then a else b := by by_cases h : p <;> simp [h]
theorem cls_I (v : Nat) : clsV v = clsI (magB v : Nat) (if 9223372036854775808 ≤ v then 9223372036854775808 else 0) := by
  have hk : ∀ m : Nat, ¬ 9218868437227405312 < m → clsM m = kI m := by
    intro m hm
    unfold clsM kI
    rw [if_neg hm]
    rcases Nat.lt_trichotomy m 9218868437227405312 with h | h | h
    · rw [if_neg (by omega), show ((m : Int) == 9218868437227405312) = false from beq_eq_false_iff_ne.2 (by omega), cond_false]
      by_cases h0 : m = 0
      · rw [if_pos h0, show ((m : Int) == 0) = true from beq_iff_eq.2 (by omega), cond_true]
      · rw [if_neg h0, show ((m : Int) == 0) = false from beq_eq_false_iff_ne.2 (by omega), cond_false, bif_dec]
        by_cases h5 : m < 4503599627370496
        · rw [if_pos h5, if_pos (by omega)]
        · rw [if_neg h5, if_neg (by omega)]
    · rw [if_pos h, show ((m : Int) == 9218868437227405312) = true from beq_iff_eq.2 (by omega), cond_true]
    · omega
  unfold clsV clsI
  rw [bif_dec]
  by_cases h : 9218868437227405312 < magB v
  · rw [if_pos h, if_pos (by omega)]
  · have h' : ¬ (9218868437227405312 : Int) < (magB v : Nat) := by omega
    rw [if_neg h, if_neg h', hk _ h]
    by_cases hs : 9223372036854775808 ≤ v
    · simp only [if_pos hs]
      rw [show ((9223372036854775808 : Int) != 0) = true from bne_iff_ne.2 (by omega), cond_true]
    · simp only [if_neg hs]
      rw [show ((0 : Int) != 0) = false from bne_self_eq_false _, cond_false]
set_option maxRecDepth 100000 in
theorem class_any (b : Nat) (w : World) (h : canB b < 18446744073709551616) : Calls Tryz.prog 23 #[.float .f64 b] w fun e w' => e = .returned (.int .i64 (clsV (canB b))) ∧ w = w' := by
  have HB := Lib.hid (rbits_any b w)
  generalize canB b = v at *
  obtain ⟨mi, h1⟩ : ∃ mi, bits .andNot .u64 (v : Int) 9223372036854775808 = mi := ⟨_, rfl⟩
  obtain ⟨si, h2⟩ : ∃ si, bits .and .u64 (v : Int) 9223372036854775808 = si := ⟨_, rfl⟩
  have HE : clsV v = clsI mi si := by rw [cls_I, ← h1, ← h2, andNot_sign h, and_sign h]
  have H := Lib.hid HE
  clear h HE
  go_enter Tryz.func23, Tryz.ntmps23
  go_wp2_with fail
  refine HB.out.mono ?_
  rintro e w' ⟨rfl, rfl⟩
  go_wp2_with fail
  all_goals
    go_ret
    refine ⟨?_, rfl⟩
    rw [H.out]
    unfold clsI kI
    have hd1 : (9218868437227405312 < mi ∧ decide (9218868437227405312 < mi) = true) ∨ (¬ 9218868437227405312 < mi ∧ decide (9218868437227405312 < mi) = false) := by
      by_cases h : 9218868437227405312 < mi
      · exact Or.inl ⟨h, decide_eq_true h⟩
      · exact Or.inr ⟨h, decide_eq_false h⟩
    have hd2 : (mi < 4503599627370496 ∧ decide (mi < 4503599627370496) = true) ∨ (¬ mi < 4503599627370496 ∧ decide (mi < 4503599627370496) = false) := by
      by_cases h : mi < 4503599627370496
      · exact Or.inl ⟨h, decide_eq_true h⟩
      · exact Or.inr ⟨h, decide_eq_false h⟩
    clear H
    rcases hd1 with ⟨hd1, he1⟩ | ⟨hd1, he1⟩
    · first
        | (exfalso; omega)
        | (rw [he1]; rfl)
    · rw [he1]
      rcases hd2 with ⟨hd2, he2⟩ | ⟨hd2, he2⟩
      · first
          | (exfalso; omega)
          | (rw [he2]; simp only [*, cond_true, cond_false]; first | done | rfl)
          | (simp only [*, cond_true, cond_false]; first | done | rfl)
      · first
          | (exfalso; omega)
          | (rw [he2]; simp only [*, cond_true, cond_false]; first | done | rfl)
          | (simp only [*, cond_true, cond_false]; first | done | rfl)
end Go.Proofs.YtfodeeejolkkfaaGreat
namespace Go.Proofs.YtfodeeejolkkfaaGreat
open Go.RowKit Go.Lib

theorem Ow.chg0 {base : Nat} {w w1 w2 : World} (h : Chg [] w w1) (k : Ow base w1 w2) (hb : w.heap.size ≤ base) : Chg [] w w2 := by
  obtain ⟨T, h1, h2⟩ := k
  exact h.trans h1 (fun x hx hlt => by have := (h2 x hx).1; omega)
theorem WdAt.keep {base : Nat} {w w' : World} {K P G : Nat} {h : Int} (hw : WdAt w K P G h) (ho : Ow base w w') : WdAt w' K P G h := ho.heap hw (by simp)
theorem canS : canB 9223372036854775808 = 9223372036854775808 := by decide +kernel
theorem clsS : clsV 9223372036854775808 = 5 := by decide +kernel
theorem getS : getF (setF f0 7 9223372036854775808) 7 = 9223372036854775808 := by rw [getF_set _ _ _ _ (fun b => (f0_five b).1), if_pos rfl]
set_option maxRecDepth 100000 in
set_option maxHeartbeats 2000000 in
theorem awake_any (w : World) : Calls Tryz.prog 9 #[] w fun e w' => e = .returned (.bool true) ∧ Chg [] w w' := by
  obtain ⟨S, hS⟩ : ∃ S, S = 9223372036854775808 := ⟨_, rfl⟩
  have HF := Lib.hid (fun w => rfrom_any S w (by rw [hS]; decide))
  have hcS : canB S = S := by rw [hS]; exact canS
  have HC := Lib.hid hcS
  have HL := Lib.hid (show clsV S = 5 by rw [hS]; exact clsS)
  have HG := Lib.hid (show getF (setF f0 7 S) 7 = S by rw [hS]; exact getS)
  have hlt := Lib.hid (show S < 18446744073709551616 by rw [hS]; decide)
  have hS' := Lib.hid hS
  clear hS hcS
  go_enter Tryz.func9, Tryz.ntmps9
  go_wp2_with fail
  refine (fresh_any w).mono ?_
  rintro e w1 ⟨base, d, K, G, rfl, k1, hn, hw, hb⟩
  have c0 : w1.cell? ⟨K, 0, none⟩ = some (.pointer (some ⟨d.P, 0, none⟩)) := cell_is hw 0 rfl
  have c2 : w1.cell? ⟨K, 2, none⟩ = some (.int .i64 1) := cell_is hw 2 rfl
  go_wp2_with fail
  go_region_held3 (fun wx => wx.cell? ⟨K, 0, none⟩ = some (.pointer (some ⟨d.P, 0, none⟩)) ∧ wx.cell? ⟨K, 2, none⟩ = some (.int .i64 1))
    (first | (exact ⟨c0, c2⟩) | (exact ⟨cell_is hw3 0 rfl, cell_is hw3 2 rfl⟩))
    (first
      | (go_at_call 18; rw [show (9223372036854775808 : Int) = ((S : Nat) : Int) from by rw [hS'.out]; rfl]; refine (HF.out w1.drew).mono ?_; rintro e w2 ⟨rfl, rfl⟩; rw [HC.out])
      | (go_at_call 19; refine (cset_in w1.drew (m := 7) (hn.keep (Chg.refl [] w1).drew) (by omega) (by omega) (by omega) hlt.out).mono ?_; rintro e w3 ⟨rfl, o3, h3⟩; have hw3 := hw.keep ((Ow.of_chg (base := base) (Chg.refl [] w1).drew).trans o3)))
  rw [HC.out] at h3
  have k3 := Ow.chg0 k1.drew o3 hb
  clear c0 c2 hn hw o3
  have c0 : w3.cell? ⟨K, 0, none⟩ = some (.pointer (some ⟨d.P, 0, none⟩)) := cell_is hw3 0 rfl
  have c2 : w3.cell? ⟨K, 2, none⟩ = some (.int .i64 1) := cell_is hw3 2 rfl
  go_wp2_with fail
  go_region_held3 (fun wx => wx.cell? ⟨K, 0, none⟩ = some (.pointer (some ⟨d.P, 0, none⟩)) ∧ wx.cell? ⟨K, 2, none⟩ = some (.int .i64 1))
    (first | (exact ⟨c0, c2⟩) | (exact ⟨cell_is hw4 0 rfl, cell_is hw4 2 rfl⟩))
    (first
      | (go_at_call 21; refine (cget_in w3.drew (m := 7) (h3.keep (Chg.refl [] w3).drew) (by omega) (by omega)).mono ?_; rintro e w4 ⟨rfl, o4, h4⟩; have hw4 := hw3.keep ((Ow.of_chg (base := base) (Chg.refl [] w3).drew).trans o4)))
  have k4 := Ow.chg0 k3.drew o4 hb
  have c0 : w4.cell? ⟨K, 0, none⟩ = some (.pointer (some ⟨d.P, 0, none⟩)) := cell_is hw4 0 rfl
  obtain ⟨ops, hd⟩ := h4.st.sta.dev
  have HN := Lib.hid (ccount_any w4 h4.st.sta.store hd)
  have HX := Lib.hid (class_any S w4 (by rw [HC.out]; exact hlt.out))
  clear c2 h3 hw3 o4 h4 hw4 hd
  go_wp2_with fail
  rw [HG.out]
  refine HX.out.mono ?_
  rintro e w5 ⟨rfl, rfl⟩
  rw [HC.out, HL.out]
  go_wp2_with fail
  refine HN.out.mono ?_
  rintro e w5 ⟨rfl, k5⟩
  go_wp2_with fail
  go_ret
  exact ⟨rfl, k4.then k5⟩
end Go.Proofs.YtfodeeejolkkfaaGreat
namespace Go.Proofs.YtfodeeejolkkfaaGreat
open Ieee

/-- 'n / 2 ^ d' as a whole number, without the bound on the digits. -/
def cutW (way : Toward) (neg : Bool) (n d : Nat) : Nat :=
  n / 2 ^ d + (match way with
    | .even => decide (2 ^ d < 2 * (n % 2 ^ d)) || (2 ^ d == 2 * (n % 2 ^ d) && n / 2 ^ d % 2 == 1)
    | .down => neg && n % 2 ^ d != 0
    | .up => !neg && n % 2 ^ d != 0
    | .zero => false).toNat
theorem cut_eq (way : Toward) (neg : Bool) (n d : Nat) : way.cut neg n d = cutW way neg n d := by
  unfold Toward.cut cutW
  simp only [Nat.one_shiftLeft]
  by_cases h : d ≤ n.log2 + 2
  · rw [Nat.min_eq_left h]
    cases way <;> rfl
  · rw [Nat.min_eq_right (by omega)]
    have h1 : n < 2 ^ (n.log2 + 1) := Nat.lt_log2_self
    have h2 : 2 ^ (n.log2 + 2) = 2 * 2 ^ (n.log2 + 1) := by rw [Nat.pow_succ]; omega
    have h3 : 2 ^ (n.log2 + 2) ≤ 2 ^ d := Nat.pow_le_pow_right (by decide) (by omega)
    have e1 : n / 2 ^ (n.log2 + 2) = 0 := Nat.div_eq_of_lt (by omega)
    have e2 : n / 2 ^ d = 0 := Nat.div_eq_of_lt (by omega)
    have e3 : n % 2 ^ (n.log2 + 2) = n := Nat.mod_eq_of_lt (by omega)
    have e4 : n % 2 ^ d = n := Nat.mod_eq_of_lt (by omega)
    rw [e1, e2, e3, e4]
    cases way with
    | even =>
      have c1 : ¬ 2 ^ (n.log2 + 2) < 2 * n := by omega
      have c2 : ¬ 2 ^ d < 2 * n := by omega
      simp [c1, c2]
    | down => rfl
    | up => rfl
    | zero => rfl
theorem cutW_shift (way : Toward) (neg : Bool) (n d j : Nat) : cutW way neg (n * 2 ^ j) (d + j) = cutW way neg n d := by
  have hp : 0 < 2 ^ j := Nat.pow_pos (by decide)
  unfold cutW
  rw [Nat.pow_add, Nat.mul_div_mul_right _ _ hp, Nat.mul_mod_mul_right]
  congr 2
  have a1 : (2 ^ d * 2 ^ j < 2 * (n % 2 ^ d * 2 ^ j)) ↔ (2 ^ d < 2 * (n % 2 ^ d)) := by
    rw [← Nat.mul_assoc]; exact Nat.mul_lt_mul_right hp
  have a2 : (2 ^ d * 2 ^ j == 2 * (n % 2 ^ d * 2 ^ j)) = (2 ^ d == 2 * (n % 2 ^ d)) := by
    rw [← Nat.mul_assoc, Bool.eq_iff_iff, beq_iff_eq, beq_iff_eq]; exact Nat.mul_left_inj (by omega)
  have a3 : (n % 2 ^ d * 2 ^ j != 0) = (n % 2 ^ d != 0) := by
    rw [Bool.eq_iff_iff, bne_iff_ne, bne_iff_ne, Ne, Ne, Nat.mul_eq_zero]; omega
  cases way with
  | even => simp only [a1, a2]
  | down => simp only [a3]
  | up => simp only [a3]
  | zero => rfl
theorem cutW_zero (way : Toward) (neg : Bool) (n : Nat) : cutW way neg n 0 = n := by
  unfold cutW
  rw [Nat.pow_zero, Nat.div_one, Nat.mod_one]
  cases way <;> simp
theorem cutW_exact (way : Toward) (neg : Bool) (n j : Nat) : cutW way neg (n * 2 ^ j) j = n := by
  have := cutW_shift way neg n 0 j
  rw [Nat.zero_add, cutW_zero] at this
  exact this
theorem cutW_split (way : Toward) (neg : Bool) (m a b c : Nat) (h : c = a + b) : cutW way neg (m * 2 ^ c) b = m * 2 ^ a := by
  rw [h, Nat.pow_add, ← Nat.mul_assoc, cutW_exact]

/-- 'm * 2 ^ i' in units of 2 ^ -1074. -/
def units (m : Nat) (i : Int) : Nat := m * 2 ^ (i + 1074).toNat
/-- the magnitude at a rung, in units. -/
def valR (r : Nat) : Nat := if r < 4503599627370496 then r else (4503599627370496 + r % 4503599627370496) * 2 ^ (r / 4503599627370496 - 1)
/-- the rung nearest to so many units. -/
def rungOf (N : Nat) : Nat := if N = 0 then 0 else min ((N.log2 - 52) * 4503599627370496 + cutW .even false N (N.log2 - 52)) 9218868437227405312

theorem log2_mul (m j : Nat) (h : m ≠ 0) : (m * 2 ^ j).log2 = m.log2 + j := by
  have hp : 0 < 2 ^ j := Nat.pow_pos (by decide)
  rw [Nat.log2_eq_iff (by intro e; rcases Nat.mul_eq_zero.1 e with e | e <;> omega)]
  have h1 := Nat.log2_self_le h
  have h2 := @Nat.lt_log2_self m
  refine ⟨by rw [Nat.pow_add]; exact Nat.mul_le_mul_right _ h1, ?_⟩
  rw [show m.log2 + j + 1 = m.log2 + 1 + j by omega, Nat.pow_add]
  exact Nat.mul_lt_mul_of_pos_right h2 hp
theorem cutW_even (neg : Bool) (n d : Nat) : cutW .even neg n d = cutW .even false n d := rfl
theorem nearest_units (s : Bool) (m : Nat) (i : Int) (hi : -1074 ≤ i) : double.nearest s m i = double.word s (rungOf (units m i)) := by
  unfold Format.nearest rungOf
  by_cases hm : m = 0
  · subst hm; rw [if_pos rfl, if_pos (by simp [units])]
  · have hp : 0 < 2 ^ (i + 1074).toNat := Nat.pow_pos (by decide)
    have hu : units m i ≠ 0 := by unfold units; intro e; rcases Nat.mul_eq_zero.1 e with e | e <;> omega
    rw [if_neg hm, if_neg hu]
    have e1 : double.leastPlace = -1074 := by decide
    have e2 : double.binade = 4503599627370496 := by decide
    have e3 : double.infRung = 9218868437227405312 := by decide
    have e4 : double.fractionBits = 52 := rfl
    have hL : (units m i).log2 = m.log2 + (i + 1074).toNat := log2_mul _ _ hm
    simp only [e1, e2, e3, e4, cut_eq]
    obtain ⟨L, hLL⟩ : ∃ L, m.log2 = L := ⟨_, rfl⟩
    obtain ⟨j, hj⟩ : ∃ j : Nat, i + 1074 = j := ⟨(i + 1074).toNat, by omega⟩
    have hi' : i = (j : Int) - 1074 := by omega
    rw [hL, hLL]
    have ej : (i + 1074).toNat = j := by omega
    have k1 : (max (i + (L : Int) - ((52 : Nat) : Int)) (-1074) - -1074).toNat = L + j - 52 := by omega
    rw [ej, k1]
    have key : cutW .even s (m <<< (i - max (i + (L : Int) - ((52 : Nat) : Int)) (-1074)).toNat) (max (i + (L : Int) - ((52 : Nat) : Int)) (-1074) - i).toNat = cutW .even false (units m i) (L + j - 52) := by
      unfold units
      rw [ej, Nat.shiftLeft_eq]
      by_cases hc : 52 ≤ L
      · have k2 : (i - max (i + (L : Int) - ((52 : Nat) : Int)) (-1074)).toNat = 0 := by omega
        have k3 : (max (i + (L : Int) - ((52 : Nat) : Int)) (-1074) - i).toNat = L - 52 := by omega
        have k4 : L + j - 52 = (L - 52) + j := by omega
        rw [k2, k3, k4, cutW_shift, Nat.pow_zero, Nat.mul_one]
        rfl
      · have k3 : (max (i + (L : Int) - ((52 : Nat) : Int)) (-1074) - i).toNat = 0 := by omega
        have k5 : (i - max (i + (L : Int) - ((52 : Nat) : Int)) (-1074)).toNat = j - (L + j - 52) := by omega
        rw [k3, k5, cutW_zero]
        have := cutW_exact .even false (m * 2 ^ (j - (L + j - 52))) (L + j - 52)
        rw [Nat.mul_assoc, ← Nat.pow_add, show j - (L + j - 52) + (L + j - 52) = j by omega] at this
        rw [this]
    rw [key]
theorem integral_units (way : Toward) (s : Bool) (m : Nat) (i : Int) (hi : -1074 ≤ i) : (Datum.number s m i).integral way = .number s (cutW way s (units m i) 1074) 0 := by
  unfold Datum.integral
  simp only
  congr 1
  rw [cut_eq, Nat.shiftLeft_eq]
  unfold units
  by_cases h : 0 ≤ i
  · rw [show (-i).toNat = 0 by omega, cutW_zero]
    exact (cutW_split way s m _ _ _ (by omega)).symm
  · rw [show i.toNat = 0 by omega, Nat.pow_zero, Nat.mul_one]
    have := cutW_shift way s m (-i).toNat (i + 1074).toNat
    rw [show (-i).toNat + (i + 1074).toNat = 1074 by omega] at this
    exact this.symm

/-! rungs and units -/
theorem rung_rep (W j : Nat) (hW : W < 9007199254740992) (h0 : W ≠ 0) (hj : W.log2 + j ≤ 2097) : rungOf (W * 2 ^ j) < 9218868437227405312 ∧ valR (rungOf (W * 2 ^ j)) = W * 2 ^ j := by
  have hl := log2_mul W j h0
  have hp : 0 < 2 ^ j := Nat.pow_pos (by decide)
  have hN : W * 2 ^ j ≠ 0 := by intro e; rcases Nat.mul_eq_zero.1 e with e | e <;> omega
  have hW2 : W.log2 < 53 := (Nat.log2_lt h0).2 (by simpa using hW)
  unfold rungOf
  rw [if_neg hN, hl]
  by_cases hc : W.log2 + j ≤ 52
  · have hb : W * 2 ^ j < 2 ^ 53 := (Nat.log2_lt hN).1 (by omega)
    rw [show W.log2 + j - 52 = 0 by omega, cutW_zero, Nat.zero_mul, Nat.zero_add]
    generalize W * 2 ^ j = N at *
    rw [show (2 : Nat) ^ 53 = 9007199254740992 by decide] at hb
    rw [Nat.min_eq_left (by omega)]
    refine ⟨by omega, ?_⟩
    unfold valR
    by_cases h1 : N < 4503599627370496
    · rw [if_pos h1]
    · rw [if_neg h1, show N / 4503599627370496 - 1 = 0 by omega, Nat.pow_zero]; omega
  · obtain ⟨k, hk⟩ : ∃ k, W.log2 + j - 52 = k := ⟨_, rfl⟩
    obtain ⟨t, ht⟩ : ∃ t, j = t + k := ⟨j - k, by omega⟩
    have e1 : W * 2 ^ j = (W * 2 ^ t) * 2 ^ k := by rw [ht, Nat.pow_add, Nat.mul_assoc]
    have hlt := log2_mul W t h0
    have hNt : W * 2 ^ t ≠ 0 := by intro e; rw [e, Nat.zero_mul] at e1; exact hN e1
    have hb1 : W * 2 ^ t < 2 ^ 53 := (Nat.log2_lt hNt).1 (by omega)
    have hb2 : 2 ^ 52 ≤ W * 2 ^ t := (Nat.le_log2 hNt).1 (by omega)
    rw [hk, e1, cutW_exact]
    generalize W * 2 ^ t = M at *
    rw [show (2 : Nat) ^ 53 = 9007199254740992 by decide] at hb1
    rw [show (2 : Nat) ^ 52 = 4503599627370496 by decide] at hb2
    rw [Nat.min_eq_left (by omega)]
    refine ⟨by omega, ?_⟩
    unfold valR
    rw [if_neg (by omega), show (k * 4503599627370496 + M) / 4503599627370496 - 1 = k by omega, show 4503599627370496 + (k * 4503599627370496 + M) % 4503599627370496 = M by omega]
theorem valR_form (r : Nat) (h : r < 9218868437227405312) : ∃ W j, W < 9007199254740992 ∧ valR r = W * 2 ^ j ∧ j ≤ 2045 ∧ (j = 0 ∨ 4503599627370496 ≤ W) := by
  unfold valR
  by_cases h1 : r < 4503599627370496
  · exact ⟨r, 0, by omega, by rw [if_pos h1, Nat.pow_zero, Nat.mul_one], by omega, Or.inl rfl⟩
  · exact ⟨4503599627370496 + r % 4503599627370496, r / 4503599627370496 - 1, by omega, by rw [if_neg h1], by omega, Or.inr (by omega)⟩
theorem rungOf_valR (r : Nat) (h : r < 9218868437227405312) : rungOf (valR r) = r := by
  unfold valR
  by_cases h1 : r < 4503599627370496
  · rw [if_pos h1]
    unfold rungOf
    by_cases h0 : r = 0
    · rw [if_pos h0, h0]
    · have hl : r.log2 < 52 := (Nat.log2_lt h0).2 (by simpa using h1)
      rw [if_neg h0, show r.log2 - 52 = 0 by omega, cutW_zero]; omega
  · rw [if_neg h1]
    have hM : 4503599627370496 + r % 4503599627370496 ≠ 0 := by omega
    have hl : (4503599627370496 + r % 4503599627370496).log2 = 52 := by
      rw [Nat.log2_eq_iff hM]
      rw [show (2 : Nat) ^ 52 = 4503599627370496 by decide, show (2 : Nat) ^ (52 + 1) = 9007199254740992 by decide]; omega
    have hl2 := log2_mul _ (r / 4503599627370496 - 1) hM
    unfold rungOf
    have hp : 0 < 2 ^ (r / 4503599627370496 - 1) := Nat.pow_pos (by decide)
    rw [if_neg (by intro e; rcases Nat.mul_eq_zero.1 e with e | e <;> omega), hl2, hl, show 52 + (r / 4503599627370496 - 1) - 52 = r / 4503599627370496 - 1 by omega, cutW_exact]
    omega
theorem valR_inj {r q : Nat} (h : r < 9218868437227405312) (h' : q < 9218868437227405312) (e : valR r = valR q) : r = q := by
  rw [← rungOf_valR r h, ← rungOf_valR q h', e]
theorem valR_zero {r : Nat} (h : valR r = 0) : r = 0 := by
  unfold valR at h
  split at h
  · exact h
  · have hp : 0 < 2 ^ (r / 4503599627370496 - 1) := Nat.pow_pos (by decide)
    rcases Nat.mul_eq_zero.1 h with h | h <;> omega
/-- what is not above a power of two is rounded to what is not above it. -/
theorem rung_le (N k : Nat) (hk : 52 ≤ k) (hN : N ≤ 2 ^ k) : rungOf N ≤ (k - 51) * 4503599627370496 := by
  unfold rungOf
  by_cases h0 : N = 0
  · rw [if_pos h0]; omega
  · rw [if_neg h0]
    by_cases he : N = 2 ^ k
    · have hl : (2 ^ k : Nat).log2 = k := by
        rw [Nat.log2_eq_iff (by rw [← he]; exact h0)]; exact ⟨Nat.le_refl _, Nat.pow_lt_pow_right (by decide) (by omega)⟩
      rw [he, hl]
      have := cutW_exact .even false (2 ^ 52) (k - 52)
      rw [← Nat.pow_add, show 52 + (k - 52) = k by omega] at this
      rw [this, show (2 : Nat) ^ 52 = 4503599627370496 by decide]
      omega
    · have hlk : N.log2 < k := (Nat.log2_lt h0).2 (by omega)
      have hb : N < 2 ^ (N.log2 + 1) := Nat.lt_log2_self
      by_cases hc : N.log2 ≤ 52
      · rw [show N.log2 - 52 = 0 by omega, cutW_zero]
        have : N < 2 ^ 53 := Nat.lt_of_lt_of_le hb (Nat.pow_le_pow_right (by decide) (by omega))
        rw [show (2 : Nat) ^ 53 = 9007199254740992 by decide] at this
        by_cases hk2 : k = 52
        · subst hk2
          rw [show (2 : Nat) ^ 52 = 4503599627370496 by decide] at hN
          omega
        · omega
      · have hcut : cutW .even false N (N.log2 - 52) ≤ 9007199254740992 := by
          unfold cutW
          have e : (2 : Nat) ^ (N.log2 + 1) = 2 ^ (N.log2 - 52) * 9007199254740992 := by
            rw [show (9007199254740992 : Nat) = 2 ^ 53 by decide, ← Nat.pow_add]; congr 1; omega
          have hd : N / 2 ^ (N.log2 - 52) < 9007199254740992 := Nat.div_lt_of_lt_mul (by omega)
          have hb : ∀ b : Bool, b.toNat ≤ 1 := by intro b; cases b <;> simp
          exact Nat.le_trans (Nat.add_le_add_left (hb _) _) (by omega)
        omega
end Go.Proofs.YtfodeeejolkkfaaGreat
namespace Go.Proofs.YtfodeeejolkkfaaGreat
open Ieee

/-- the units of 1. -/
def pw (k : Nat) : Nat := 2 ^ k
theorem pw_eq (k : Nat) : pw k = 2 ^ k := rfl
theorem pw_pos (k : Nat) : 0 < pw k := Nat.pow_pos (by decide)
theorem pw_succ (k : Nat) : pw (k + 1) = 2 * pw k := Nat.pow_succ'
def T1 : Nat := pw 1074
theorem T1_pow : T1 = 2 ^ 1074 := pw_eq 1074
theorem T1_pos : 0 < T1 := pw_pos 1074
theorem T1_half' : T1 = 2 * pw 1073 := pw_succ 1073
theorem pw_le {i j : Nat} (h : i ≤ j) : pw i ≤ pw j := Nat.pow_le_pow_right (by decide) h
theorem pw_add (t k : Nat) : 2 ^ t * pw k = 2 ^ (t + k) := by rw [pw_eq, Nat.pow_add]
theorem pw_add' (k : Nat) : pw (52 + k) = 4503599627370496 * pw k := by
  have := pw_add 52 k
  rw [← pw_eq (52 + k), show (2 : Nat) ^ 52 = 4503599627370496 by decide] at this
  exact this.symm
theorem top_pow : pw (52 + 1075) = 9007199254740992 * T1 := by
  rw [pw_add', show 1075 = 1074 + 1 from rfl, pw_succ]
  have : T1 = pw 1074 := rfl
  rw [← this]; omega
theorem rung_le' (N k : Nat) (hk : 52 ≤ k) (hN : N ≤ pw k) : rungOf N ≤ (k - 51) * 4503599627370496 := rung_le N k hk hN
theorem units_pw (m : Nat) (i : Int) : units m i = m * pw (i + 1074).toNat := rfl
/-- finite. -/
def FinB (b : Nat) : Prop := b < 18446744073709551616 ∧ magB b < 9218868437227405312
def negB (b : Nat) : Bool := decide (9223372036854775808 ≤ b)
def sgnI (s : Bool) (n : Nat) : Int := if s then -(n : Int) else (n : Int)
/-- a finite number in units. -/
def rv (b : Nat) : Int := sgnI (negB b) (valR (magB b))

theorem read_fin {b : Nat} (h : FinB b) : ∃ m i, double.read b = .number (negB b) m i ∧ -1074 ≤ i ∧ units m i = valR (magB b) ∧ (m < 4503599627370496 → i = -1074) ∧ m < 9007199254740992 := by
  obtain ⟨h1, h2⟩ := h
  unfold Format.read
  have e1 : double.signWeight = 9223372036854775808 := by decide
  have e2 : double.binade = 4503599627370496 := by decide
  have e3 : double.infRung = 9218868437227405312 := by decide
  have e4 : double.leastPlace = -1074 := by decide
  simp only [e1, e2, e3, e4]
  have hs : (b / 9223372036854775808 % 2 == 1) = negB b := by
    unfold negB
    rw [Bool.eq_iff_iff, beq_iff_eq, decide_eq_true_iff]; omega
  rw [hs]
  unfold magB at h2 ⊢
  generalize b % 9223372036854775808 = r at *
  by_cases h3 : r < 4503599627370496
  · rw [if_pos h3]
    refine ⟨r, -1074, rfl, by omega, ?_, fun _ => rfl, by omega⟩
    unfold units valR
    rw [if_pos h3]; simp
  · rw [if_neg h3, if_pos h2]
    refine ⟨4503599627370496 + r % 4503599627370496, -1074 + ((r / 4503599627370496 - 1 : Nat) : Int), rfl, by omega, ?_, fun h => by omega, by omega⟩
    unfold units valR
    rw [if_neg h3, show (-1074 + ((r / 4503599627370496 - 1 : Nat) : Int) + 1074).toNat = r / 4503599627370496 - 1 by omega]
theorem sgn_mul (s : Bool) (n k : Nat) : sgnI s n * (k : Int) = sgnI s (n * k) := by
  unfold sgnI; cases s <;> simp [Int.neg_mul]
theorem signed_eq (s : Bool) (m k : Nat) : signed s m k = sgnI s (m * 2 ^ k) := by
  unfold signed sgnI; rw [Nat.shiftLeft_eq]
theorem units_base (m : Nat) (i base : Int) (h1 : -1074 ≤ base) (h2 : base ≤ i) : m * 2 ^ (i - base).toNat * 2 ^ (base + 1074).toNat = units m i := by
  unfold units
  rw [Nat.mul_assoc, ← Nat.pow_add]; congr 2; omega
theorem compare_mul (a b : Int) (k : Nat) (hk : 0 < k) : compare (a * (k : Int)) (b * (k : Int)) = compare a b := by
  have hk' : (0 : Int) < k := by omega
  rcases Int.lt_trichotomy a b with h | h | h
  · rw [Int.compare_eq_lt.2 h, Int.compare_eq_lt.2 (Int.mul_lt_mul_of_pos_right h hk')]
  · subst h; rw [Int.compare_eq_eq.2 rfl, Int.compare_eq_eq.2 rfl]
  · rw [Int.compare_eq_gt.2 h, Int.compare_eq_gt.2 (Int.mul_lt_mul_of_pos_right h hk')]
theorem order_num (s t : Bool) (m n : Nat) (i j : Int) (hi : -1074 ≤ i) (hj : -1074 ≤ j) :
    (Datum.number s m i).order (.number t n j) = some (compare (sgnI s (units m i)) (sgnI t (units n j))) := by
  unfold Datum.order
  simp only
  rw [signed_eq, signed_eq]
  congr 1
  have hp : 0 < 2 ^ (min i j + 1074).toNat := Nat.pow_pos (by decide)
  rw [← compare_mul _ _ _ hp, sgn_mul, sgn_mul, units_base _ _ _ (by omega) (by omega), units_base _ _ _ (by omega) (by omega)]
theorem order_fin {b c : Nat} (hb : FinB b) (hc : FinB c) : double.order b c = some (compare (rv b) (rv c)) := by
  obtain ⟨m, i, e1, h1, h2, _⟩ := read_fin hb
  obtain ⟨n, j, e2, h3, h4, _⟩ := read_fin hc
  unfold Format.order
  rw [e1, e2, order_num _ _ _ _ _ _ h1 h3, h2, h4]
  rfl
theorem word_eq (s : Bool) (r : Nat) : double.word s r = if s then 9223372036854775808 + r else r := by
  unfold Format.word; rw [show double.signWeight = 9223372036854775808 by decide]
theorem mag_word {s : Bool} {r : Nat} (h : r < 9223372036854775808) : magB (double.word s r) = r := by
  rw [word_eq]; unfold magB; cases s
  · rw [if_neg (by decide)]; omega
  · rw [if_pos rfl]; omega
theorem neg_word {s : Bool} {r : Nat} (h : r < 9223372036854775808) : negB (double.word s r) = s := by
  rw [word_eq]; unfold negB; cases s
  · rw [if_neg (by decide)]; exact decide_eq_false (by omega)
  · rw [if_pos rfl]; exact decide_eq_true (by omega)
theorem word_lt {s : Bool} {r : Nat} (h : r < 9223372036854775808) : double.word s r < 18446744073709551616 := by
  rw [word_eq]; split <;> omega
theorem word_fin {s : Bool} {r : Nat} (h : r < 9218868437227405312) : FinB (double.word s r) := ⟨word_lt (by omega), by rw [mag_word (by omega)]; exact h⟩
theorem word_rv {s : Bool} {r : Nat} (h : r < 9218868437227405312) : rv (double.word s r) = sgnI s (valR r) := by
  unfold rv; rw [mag_word (by omega), neg_word (by omega)]
theorem word_self {b : Nat} (h : b < 18446744073709551616) : double.word (negB b) (magB b) = b := by
  rw [word_eq]; unfold negB magB
  by_cases g : 9223372036854775808 ≤ b
  · rw [decide_eq_true g, if_pos rfl]; omega
  · rw [decide_eq_false g, if_neg (by decide)]; omega
theorem fin_word {b : Nat} (h : FinB b) {c : Nat} (hc : FinB c) (hs : negB b = negB c) (hv : valR (magB b) = valR (magB c)) : b = c := by
  rw [← word_self h.1, ← word_self hc.1, hs, valR_inj h.2 hc.2 hv]

/-! made whole -/
/-- the whole number that a number is made. -/
def wholeN (way : Toward) (b : Nat) : Nat := cutW way (negB b) (valR (magB b)) 1074
def wholeB (way : Toward) (b : Nat) : Nat := double.write ((double.read b).integral way)
theorem cutW_le (way : Toward) (s : Bool) (n d : Nat) : cutW way s n d ≤ n / 2 ^ d + 1 := by
  unfold cutW
  have hb : ∀ b : Bool, b.toNat ≤ 1 := by intro b; cases b <;> simp
  exact Nat.add_le_add_left (hb _) _
theorem units_zero (W : Nat) : units W 0 = W * T1 := by
  rw [units_pw, show ((0 : Int) + 1074).toNat = 1074 by omega]; exact rfl
theorem write_num (s : Bool) (m : Nat) (i : Int) (hi : -1074 ≤ i) : double.write (.number s m i) = double.word s (rungOf (units m i)) := nearest_units s m i hi
theorem whole_write {b : Nat} (way : Toward) (h : FinB b) : wholeB way b = double.word (negB b) (rungOf (wholeN way b * T1)) := by
  obtain ⟨m, i, e1, h1, h2, _⟩ := read_fin h
  unfold wholeB wholeN
  rw [e1, integral_units way _ _ _ h1, write_num _ _ _ (by omega), units_zero, h2]
theorem whole_rep (way : Toward) (s : Bool) (r : Nat) (h : r < 9218868437227405312) :
    rungOf (cutW way s (valR r) 1074 * T1) < 9218868437227405312 ∧ valR (rungOf (cutW way s (valR r) 1074 * T1)) = cutW way s (valR r) 1074 * T1 := by
  obtain ⟨M, j, hM, he, hj, _⟩ := valR_form r h
  by_cases hc : 1074 ≤ j
  · obtain ⟨t, rfl⟩ : ∃ t, j = t + 1074 := ⟨j - 1074, by omega⟩
    have e2 : cutW way s (valR r) 1074 * T1 = valR r := by
      rw [he, cutW_split way s M t 1074 _ rfl, Nat.mul_assoc]
      exact congrArg (M * ·) (pw_add t 1074)
    rw [e2, rungOf_valR r h]
    exact ⟨h, rfl⟩
  · have hd : valR r / T1 ≤ 4503599627370496 := by
      have h3 : valR r < 4503599627370497 * T1 := by
        rw [he, ← pw_eq, T1_half']
        have h4 : M * pw j ≤ M * pw 1073 := Nat.mul_le_mul_left _ (pw_le (by omega))
        have hp := pw_pos 1073
        generalize pw 1073 = P at *
        have h6 : M * P ≤ 9007199254740991 * P := Nat.mul_le_mul_right _ (by omega)
        omega
      have := (Nat.div_lt_iff_lt_mul T1_pos).2 h3
      omega
    have hW := cutW_le way s (valR r) 1074
    rw [← T1_pow] at hW
    obtain ⟨W, hWe⟩ : ∃ W, cutW way s (valR r) 1074 = W := ⟨_, rfl⟩
    rw [hWe] at hW ⊢
    have hW2 : W < 9007199254740992 := by omega
    by_cases h0 : W = 0
    · subst h0
      rw [Nat.zero_mul]
      exact ⟨by decide, by decide⟩
    · have hl : W.log2 < 53 := (Nat.log2_lt h0).2 (by simpa using hW2)
      have hr := rung_rep W 1074 hW2 h0 (by omega)
      rw [← T1_pow] at hr
      exact hr
theorem whole_fin {b : Nat} (way : Toward) (h : FinB b) : FinB (wholeB way b) ∧ negB (wholeB way b) = negB b ∧ valR (magB (wholeB way b)) = wholeN way b * T1 := by
  have h1 := whole_rep way (negB b) (magB b) h.2
  rw [whole_write way h]
  refine ⟨word_fin h1.1, neg_word (by unfold wholeN; omega), ?_⟩
  rw [mag_word (by unfold wholeN; omega)]
  exact h1.2
theorem whole_rv {b : Nat} (way : Toward) (h : FinB b) : rv (wholeB way b) = sgnI (negB b) (wholeN way b * T1) := by
  obtain ⟨_, h2, h3⟩ := whole_fin way h
  unfold rv; rw [h2, h3]
theorem sgn_inj {s : Bool} {m n : Nat} (h : sgnI s m = sgnI s n) : m = n := by
  unfold sgnI at h; cases s <;> simp at h <;> omega
/-- a number of units that is whole. -/
def IsWhole (b : Nat) : Prop := valR (magB b) % T1 = 0
instance (b : Nat) : Decidable (IsWhole b) := by unfold IsWhole; infer_instance
theorem whole_of (way : Toward) {b : Nat} (h : IsWhole b) : wholeN way b * T1 = valR (magB b) := by
  unfold IsWhole at h
  have e : valR (magB b) = valR (magB b) / T1 * T1 := by have := Nat.div_add_mod (valR (magB b)) T1; rw [Nat.mul_comm] at this; omega
  unfold wholeN
  generalize valR (magB b) = N at *
  have e2 : cutW way (negB b) (N / T1 * T1) 1074 = N / T1 := by
    have := cutW_exact way (negB b) (N / T1) 1074
    rw [← T1_pow] at this
    exact this
  rw [← e] at e2
  rw [e2]; exact e.symm
theorem whole_self (way : Toward) {b : Nat} (h : FinB b) (hw : IsWhole b) : wholeB way b = b := by
  obtain ⟨h1, h2, h3⟩ := whole_fin way h
  exact fin_word h1 h h2 (h3.trans (whole_of way hw))
theorem whole_is (way : Toward) {b : Nat} (h : FinB b) : IsWhole (wholeB way b) := by
  unfold IsWhole; rw [(whole_fin way h).2.2]; exact Nat.mul_mod_left _ _
/-- it is as it was made: it is whole. -/
theorem whole_iff (way : Toward) {b : Nat} (h : FinB b) : (double.order b (wholeB way b) == some .eq) = decide (IsWhole b) := by
  rw [order_fin h (whole_fin way h).1, whole_rv way h, Bool.eq_iff_iff, decide_eq_true_iff, beq_iff_eq]
  constructor
  · intro e
    have e1 := Int.compare_eq_eq.1 (Option.some.inj e)
    have e2 := sgn_inj (s := negB b) (show sgnI (negB b) (valR (magB b)) = _ from e1)
    unfold IsWhole; rw [e2]; exact Nat.mul_mod_left _ _
  · intro hw
    congr 1
    exact Int.compare_eq_eq.2 (congrArg (sgnI (negB b)) (whole_of way hw).symm)
/-- not farther than a half. -/
theorem even_near (s : Bool) (N : Nat) : 2 * (cutW .even s N 1074 * T1) ≤ 2 * N + T1 ∧ 2 * N ≤ 2 * (cutW .even s N 1074 * T1) + T1 := by
  have hd := Nat.div_add_mod N T1
  have hm := Nat.mod_lt N T1_pos
  unfold cutW
  rw [← T1_pow, Nat.add_mul]
  rw [Nat.mul_comm] at hd
  generalize N / T1 * T1 = A at *
  by_cases c : T1 < 2 * (N % T1)
  · simp [c]; omega
  · by_cases c2 : T1 == 2 * (N % T1) && N / T1 % 2 == 1
    · rw [c2]
      have := (Bool.and_eq_true_iff.1 c2).1
      rw [beq_iff_eq] at this
      simp; omega
    · rw [Bool.not_eq_true] at c2
      rw [c2]
      simp [c]; omega
end Go.Proofs.YtfodeeejolkkfaaGreat
namespace Go.Proofs.YtfodeeejolkkfaaGreat
open Ieee

theorem valR_mono {r q : Nat} (h : r ≤ q) : valR r ≤ valR q := by
  unfold valR
  by_cases h1 : q < 4503599627370496
  · rw [if_pos h1, if_pos (by omega)]; exact h
  · rw [if_neg h1]
    by_cases h2 : r < 4503599627370496
    · rw [if_pos h2]
      have hp : 1 ≤ 2 ^ (q / 4503599627370496 - 1) := Nat.pow_pos (by decide)
      have := Nat.mul_le_mul_left (4503599627370496 + q % 4503599627370496) hp
      omega
    · rw [if_neg h2]
      by_cases h3 : r / 4503599627370496 = q / 4503599627370496
      · rw [h3]; exact Nat.mul_le_mul_right _ (by omega)
      · have h4 : r / 4503599627370496 < q / 4503599627370496 := by omega
        have e : (2 : Nat) ^ (q / 4503599627370496 - 1) = 2 ^ (r / 4503599627370496 - 1) * 2 ^ (q / 4503599627370496 - r / 4503599627370496) := by
          rw [← Nat.pow_add]; congr 1; omega
        have h5 : 2 ≤ 2 ^ (q / 4503599627370496 - r / 4503599627370496) := by
          have := Nat.pow_le_pow_right (n := 2) (by decide) (show 1 ≤ q / 4503599627370496 - r / 4503599627370496 by omega)
          simpa using this
        rw [e]
        have h6 : (4503599627370496 + r % 4503599627370496) * 2 ^ (r / 4503599627370496 - 1) ≤ (2 * 4503599627370496) * 2 ^ (r / 4503599627370496 - 1) := Nat.mul_le_mul_right _ (by omega)
        have h7 : 4503599627370496 * (2 ^ (r / 4503599627370496 - 1) * 2) ≤ (4503599627370496 + q % 4503599627370496) * (2 ^ (r / 4503599627370496 - 1) * 2 ^ (q / 4503599627370496 - r / 4503599627370496)) :=
          Nat.mul_le_mul (by omega) (Nat.mul_le_mul_left _ h5)
        have h8 : 2 * 4503599627370496 * 2 ^ (r / 4503599627370496 - 1) = 4503599627370496 * (2 ^ (r / 4503599627370496 - 1) * 2) := by
          generalize 2 ^ (r / 4503599627370496 - 1) = P; omega
        omega
theorem valR_pow (k : Nat) : valR ((k + 1) * 4503599627370496) = pw (52 + k) := by
  unfold valR
  rw [if_neg (by omega), show (k + 1) * 4503599627370496 % 4503599627370496 = 0 by omega, show (k + 1) * 4503599627370496 / 4503599627370496 - 1 = k by omega, Nat.add_zero, ← pw_eq k, ← pw_add', show (52 : Nat) + k = 52 + k from rfl]
theorem fin_num {b : Nat} (h : b < 9218868437227405312) : FinB b ∧ rv b = valR b ∧ FinB (9223372036854775808 + b) ∧ rv (9223372036854775808 + b) = -(valR b : Int) := by
  have w0 : double.word false b = b := by rw [word_eq]; rfl
  have w1 : double.word true b = 9223372036854775808 + b := by rw [word_eq]; rfl
  have f0 := word_fin (s := false) h
  have f1 := word_fin (s := true) h
  have r0 := word_rv (s := false) h
  have r1 := word_rv (s := true) h
  rw [w0] at f0 r0
  rw [w1] at f1 r1
  exact ⟨f0, r0, f1, r1⟩
theorem half_rv : FinB 4602678819172646912 ∧ rv 4602678819172646912 = (pw 1073 : Nat) ∧ FinB 13826050856027422720 ∧ rv 13826050856027422720 = -((pw 1073 : Nat) : Int) := by
  have h := @fin_num ((1021 + 1) * 4503599627370496) (by decide)
  rw [valR_pow 1021] at h
  exact h
theorem top_rv : FinB 4845873199050653696 ∧ rv 4845873199050653696 = (9007199254740992 * T1 : Nat) ∧ FinB 14069245235905429504 ∧ rv 14069245235905429504 = -((9007199254740992 * T1 : Nat) : Int) := by
  have h := @fin_num ((1075 + 1) * 4503599627370496) (by decide)
  rw [valR_pow 1075, show pw (52 + 1075) = 9007199254740992 * T1 from top_pow] at h
  exact h

/-! the difference -/
theorem sum_rv (s t : Bool) (m n : Nat) (i j : Int) (hi : -1074 ≤ i) (hj : -1074 ≤ j) :
    ∃ g, ((Datum.number s m i).sum (.number t n j)).map double.write = some (double.word g (rungOf (sgnI s (units m i) + sgnI t (units n j)).natAbs)) ∧
      (0 < sgnI s (units m i) + sgnI t (units n j) → g = false) ∧ (sgnI s (units m i) + sgnI t (units n j) < 0 → g = true) := by
  unfold Datum.sum
  simp only [Option.map_some]
  rw [write_num _ _ _ (by omega), signed_eq, signed_eq]
  have hk : (0 : Int) < ((2 ^ (min i j + 1074).toNat : Nat) : Int) := by
    have : 0 < 2 ^ (min i j + 1074).toNat := Nat.pow_pos (by decide)
    omega
  have e : (sgnI s (m * 2 ^ (i - min i j).toNat) + sgnI t (n * 2 ^ (j - min i j).toNat)) * ((2 ^ (min i j + 1074).toNat : Nat) : Int) = sgnI s (units m i) + sgnI t (units n j) := by
    rw [Int.add_mul, sgn_mul, sgn_mul, units_base _ _ _ (by omega) (by omega), units_base _ _ _ (by omega) (by omega)]
  have eu : units (sgnI s (m * 2 ^ (i - min i j).toNat) + sgnI t (n * 2 ^ (j - min i j).toNat)).natAbs (min i j) = (sgnI s (units m i) + sgnI t (units n j)).natAbs := by
    rw [← e, Int.natAbs_mul, Int.natAbs_natCast]
    rfl
  refine ⟨_, congrArg some (congrArg _ (congrArg rungOf eu)), ?_, ?_⟩
  · intro h
    rw [← e] at h
    have h2 := Int.pos_of_mul_pos_left h hk
    rw [if_neg (by omega)]; exact decide_eq_false (by omega)
  · intro h
    rw [← e] at h
    have h2 := Int.neg_of_mul_neg_left h hk
    rw [if_neg (by omega)]; exact decide_eq_true h2
theorem sub_rv {b c : Nat} (hb : FinB b) (hc : FinB c) : ∃ g, double.sub b c = some (double.word g (rungOf (rv b - rv c).natAbs)) ∧ (0 < rv b - rv c → g = false) ∧ (rv b - rv c < 0 → g = true) := by
  obtain ⟨m, i, e1, h1, h2, _⟩ := read_fin hb
  obtain ⟨n, j, e2, h3, h4, _⟩ := read_fin hc
  have := sum_rv (negB b) (!negB c) m n i j h1 h3
  have e : sgnI (negB b) (units m i) + sgnI (!negB c) (units n j) = rv b - rv c := by
    unfold rv; rw [h2, h4]; unfold sgnI; cases negB b <;> cases negB c <;> simp <;> omega
  rw [e] at this
  unfold Format.sub
  rw [e1, e2]
  exact this
/-- a number and the whole one next to it. -/
theorem near_half {b : Nat} (h : FinB b) : ∃ d, double.sub (wholeB .even b) b = some d ∧ (double.order d 4602678819172646912 == some .gt) = false ∧ (double.order d 13826050856027422720 == some .lt) = false := by
  obtain ⟨hf, h2, h3⟩ := whole_fin .even h
  obtain ⟨g, hg, _⟩ := sub_rv hf h
  have hn : 2 * (wholeN .even b * T1) ≤ 2 * valR (magB b) + T1 ∧ 2 * valR (magB b) ≤ 2 * (wholeN .even b * T1) + T1 := even_near (negB b) (valR (magB b))
  have hd : (rv (wholeB .even b) - rv b).natAbs ≤ pw 1073 := by
    unfold rv; rw [h2, h3]
    have ht := T1_half'
    generalize wholeN .even b * T1 = A at *
    generalize valR (magB b) = N at *
    generalize negB b = s at *
    unfold sgnI
    cases s <;> simp <;> omega
  have hr := rung_le' _ 1073 (by decide) hd
  generalize (rv (wholeB .even b) - rv b).natAbs = D at *
  have hv := valR_mono hr
  rw [show (1073 - 51) * 4503599627370496 = (1021 + 1) * 4503599627370496 from rfl, valR_pow 1021] at hv
  have hl : rungOf D < 9218868437227405312 := by omega
  refine ⟨_, hg, ?_, ?_⟩
  · rw [order_fin (word_fin hl) half_rv.1, half_rv.2.1, word_rv hl, beq_eq_false_iff_ne]
    intro e
    have e1 := Int.compare_eq_gt.1 (Option.some.inj e)
    unfold sgnI at e1
    generalize pw 1073 = P at *
    cases g <;> simp at e1 <;> omega
  · rw [order_fin (word_fin hl) half_rv.2.2.1, half_rv.2.2.2, word_rv hl, beq_eq_false_iff_ne]
    intro e
    have e1 := Int.compare_eq_lt.1 (Option.some.inj e)
    unfold sgnI at e1
    generalize pw 1073 = P at *
    cases g <;> simp at e1 <;> omega
theorem zero_fin : FinB 0 ∧ rv 0 = 0 := ⟨by unfold FinB; decide, by decide⟩
/-- a number less itself is no other than 0. -/
theorem self_sub {b : Nat} (h : FinB b) : ∃ z, double.sub b b = some z ∧ double.order z 0 = some .eq := by
  obtain ⟨g, hg, _⟩ := sub_rv h h
  rw [Int.sub_self] at hg
  refine ⟨_, hg, ?_⟩
  have hl : rungOf (0 : Int).natAbs < 9218868437227405312 := by decide
  rw [order_fin (word_fin hl) zero_fin.1, zero_fin.2, word_rv hl]
  cases g <;> rfl

/-! ints -/
def intB (n : Int) : Nat := double.write (.number (decide (n < 0)) n.natAbs 0)
theorem int_rep {n : Nat} (h : n ≤ 9007199254740992) : rungOf (n * T1) < 9218868437227405312 ∧ valR (rungOf (n * T1)) = n * T1 := by
  by_cases h0 : n = 0
  · subst h0; rw [Nat.zero_mul]; exact ⟨by decide, by decide⟩
  · by_cases h1 : n = 9007199254740992
    · subst h1
      rw [← top_pow, ← valR_pow 1075, rungOf_valR _ (by decide)]
      exact ⟨by decide, rfl⟩
    · have h2 : n < 9007199254740992 := by omega
      have hl : n.log2 < 53 := (Nat.log2_lt h0).2 (by simpa using h2)
      have hr := rung_rep n 1074 h2 h0 (by omega)
      rw [← T1_pow] at hr
      exact hr
theorem int_rv {n : Int} (h : n.natAbs ≤ 9007199254740992) : FinB (intB n) ∧ rv (intB n) = n * (T1 : Int) ∧ negB (intB n) = decide (n < 0) ∧ valR (magB (intB n)) = n.natAbs * T1 := by
  have hr := int_rep h
  unfold intB
  rw [write_num _ _ _ (by omega), units_zero]
  refine ⟨word_fin hr.1, ?_, neg_word (by omega), by rw [mag_word (by omega)]; exact hr.2⟩
  rw [word_rv hr.1, hr.2, ← sgn_mul]
  congr 1
  unfold sgnI
  by_cases g : n < 0
  · rw [decide_eq_true g, if_pos rfl]; omega
  · rw [decide_eq_false g, if_neg (by decide)]; omega
/-- a number as an int. -/
def toI (b : Nat) : Int := sgnI (negB b) (wholeN .zero b)
theorem toInt_fin {b : Nat} (h : FinB b) : (double.read b).toInt .zero = some (toI b) := by
  obtain ⟨m, i, e1, h1, h2, _⟩ := read_fin h
  unfold Datum.toInt
  rw [e1, integral_units .zero _ _ _ h1, h2]
  simp only
  rw [signed_eq, Nat.pow_zero, Nat.mul_one]
  rfl
theorem toI_whole {b : Nat} (h : IsWhole b) : toI b * (T1 : Int) = rv b := by
  unfold toI rv
  rw [sgn_mul, whole_of .zero h]
theorem int_whole {n : Int} (h : n.natAbs ≤ 9007199254740992) : IsWhole (intB n) := by
  unfold IsWhole; rw [(int_rv h).2.2.2]; exact Nat.mul_mod_left _ _
theorem T1_posI : (0 : Int) < (T1 : Int) := by have := T1_pos; omega
theorem int_back {n : Int} (h : n.natAbs ≤ 9007199254740992) : toI (intB n) = n := by
  have h1 := toI_whole (int_whole h)
  rw [(int_rv h).2.1] at h1
  exact Int.eq_of_mul_eq_mul_right (by have := T1_posI; omega) h1
/-- the edges. -/
theorem le_top {b : Nat} (h : FinB b) : (double.order b 4845873199050653696 == some .gt) = decide ((9007199254740992 * T1 : Nat) < rv b) := by
  rw [order_fin h top_rv.1, top_rv.2.1, Bool.eq_iff_iff, beq_iff_eq, decide_eq_true_iff, Option.some.injEq, Int.compare_eq_gt]
theorem ge_low {b : Nat} (h : FinB b) : (double.order b 14069245235905429504 == some .lt) = decide (rv b < -((9007199254740992 * T1 : Nat) : Int)) := by
  rw [order_fin h top_rv.2.2.1, top_rv.2.2.2, Bool.eq_iff_iff, beq_iff_eq, decide_eq_true_iff, Option.some.injEq, Int.compare_eq_lt]
theorem toI_small {b : Nat} (hw : IsWhole b) (h1 : ¬ ((9007199254740992 * T1 : Nat) : Int) < rv b) (h2 : ¬ rv b < -((9007199254740992 * T1 : Nat) : Int)) : (toI b).natAbs ≤ 9007199254740992 := by
  rw [← toI_whole hw, Int.natCast_mul] at h1 h2
  have ht := T1_posI
  have h3 : toI b ≤ 9007199254740992 := Int.le_of_mul_le_mul_right (a := (T1 : Int)) (by simpa using h1) ht
  have h4 : -9007199254740992 ≤ toI b := Int.le_of_mul_le_mul_right (a := (T1 : Int)) (by rw [Int.neg_mul]; simpa using h2) ht
  omega
theorem int_eq {b : Nat} (h : FinB b) (hw : IsWhole b) (hs : (toI b).natAbs ≤ 9007199254740992) : double.order (intB (toI b)) b = some .eq := by
  rw [order_fin (int_rv hs).1 h, (int_rv hs).2.1, toI_whole hw, Int.compare_eq_eq.2 rfl]

/-! one divided by a number -/
theorem order_zero {s : Bool} {r : Nat} (h0 : r ≠ 0) (h : r ≤ 9218868437227405312) : (double.order (double.word s r) 0 == some .lt) = s := by
  by_cases h1 : r < 9218868437227405312
  · rw [order_fin (word_fin h1) zero_fin.1, zero_fin.2, word_rv h1]
    have hv : 0 < valR r := by
      have : valR r ≠ 0 := fun e => h0 (valR_zero e)
      omega
    rw [Bool.eq_iff_iff, beq_iff_eq, Option.some.injEq, Int.compare_eq_lt]
    unfold sgnI; cases s <;> simp <;> omega
  · obtain rfl : r = 9218868437227405312 := by omega
    cases s <;> decide +kernel
theorem rung_pos {N : Nat} (h : N ≠ 0) : rungOf N ≠ 0 ∧ rungOf N ≤ 9218868437227405312 := by
  refine ⟨?_, by unfold rungOf; split <;> omega⟩
  unfold rungOf
  rw [if_neg h]
  by_cases hc : N.log2 ≤ 52
  · rw [show N.log2 - 52 = 0 by omega, cutW_zero]; omega
  · have : 1 * 4503599627370496 ≤ (N.log2 - 52) * 4503599627370496 := Nat.mul_le_mul_right _ (by omega)
    omega
theorem read_one : double.read 4607182418800017408 = .number false 4503599627370496 (-52) := by decide +kernel
theorem inv_sign {b : Nat} (h : FinB b) (hs : 2 * valR (magB b) ≤ T1) : ∃ y, double.div 4607182418800017408 b = some y ∧ (double.order y 0 == some .lt) = negB b := by
  obtain ⟨n, j, e2, h3, h4, h5, h6⟩ := read_fin h
  unfold Format.div
  rw [e2, read_one]
  unfold Datum.quotient
  simp only [Bool.false_xor]
  by_cases h0 : n = 0
  · subst h0
    rw [if_pos rfl, if_neg (by decide)]
    refine ⟨_, rfl, ?_⟩
    exact order_zero (r := 9218868437227405312) (by decide) (Nat.le_refl _)
  · rw [if_neg h0]
    have hl : n.log2 < 53 := (Nat.log2_lt h0).2 (by simpa using h6)
    have hm : (4503599627370496 : Nat).log2 = 52 := by decide +kernel
    have hfb : double.fractionBits = 52 := rfl
    have hj : j ≤ -53 := by
      by_cases hc : n < 4503599627370496
      · have := h5 hc; omega
      · have h7 : 2 ^ 52 * pw (j + 1074).toNat ≤ n * pw (j + 1074).toNat := Nat.mul_le_mul_right _ (by rw [show (2 : Nat) ^ 52 = 4503599627370496 by decide]; omega)
        rw [pw_add, ← pw_eq, ← units_pw, h4] at h7
        have ht := T1_half'
        have h8 : pw (52 + (j + 1074).toNat) ≤ pw 1073 := by omega
        have h9 : 52 + (j + 1074).toNat ≤ 1073 := by
          apply Nat.le_of_not_lt
          intro hh
          have h10 := pw_le (show 1073 + 1 ≤ 52 + (j + 1074).toNat from hh)
          rw [pw_succ] at h10
          have := pw_pos 1073
          omega
        omega
    simp only [hm, hfb]
    refine ⟨_, rfl, ?_⟩
    rw [write_num _ _ _ (by omega)]
    have hq : 1 ≤ 4503599627370496 <<< (52 + 2 + n.log2 - 52) / n := by
      rw [Nat.shiftLeft_eq]
      apply (Nat.le_div_iff_mul_le (by omega)).2
      rw [Nat.one_mul]
      have h11 : n < 2 ^ (n.log2 + 1) := Nat.lt_log2_self
      have h12 : (2 : Nat) ^ (n.log2 + 1) ≤ 2 ^ (52 + 2 + n.log2 - 52) := Nat.pow_le_pow_right (by decide) (by omega)
      omega
    have hu : ∀ m i, 1 ≤ m → units m i ≠ 0 := by
      intro m i hm e
      unfold units at e
      have hp : 0 < 2 ^ (i + 1074).toNat := Nat.pow_pos (by decide)
      rcases Nat.mul_eq_zero.1 e with e | e <;> omega
    have hr := rung_pos (hu (2 * (4503599627370496 <<< (52 + 2 + n.log2 - 52) / n) + (4503599627370496 <<< (52 + 2 + n.log2 - 52) % n != 0).toNat) (-52 - j - ((52 + 2 + n.log2 - 52 : Nat) : Int) - 1) (by omega))
    exact order_zero hr.1 hr.2
/-- what is made 0. -/
theorem even_zero {b : Nat} (h : FinB b) (h0 : double.order (wholeB .even b) 0 = some .eq) : 2 * valR (magB b) ≤ T1 ∧ 2 * valR (magB (wholeB .even b)) ≤ T1 := by
  rw [order_fin (whole_fin .even h).1 zero_fin.1, zero_fin.2, whole_rv .even h] at h0
  have e := Int.compare_eq_eq.1 (Option.some.inj h0)
  have e2 : wholeN .even b * T1 = 0 := by unfold sgnI at e; cases negB b <;> simp at e ⊢ <;> omega
  have hn := even_near (negB b) (valR (magB b))
  refine ⟨?_, by rw [(whole_fin .even h).2.2, e2]; omega⟩
  unfold wholeN at e2
  omega
end Go.Proofs.YtfodeeejolkkfaaGreat
namespace Go.Proofs.YtfodeeejolkkfaaGreat
open Ieee

/-- a number that is an int within the edges. -/
def OkI (b : Nat) : Prop := FinB b ∧ IsWhole b ∧ ¬ rv b < -((9007199254740992 * T1 : Nat) : Int) ∧ ¬ ((9007199254740992 * T1 : Nat) : Int) < rv b
theorem okI_small {b : Nat} (h : OkI b) : (toI b).natAbs ≤ 9007199254740992 := toI_small h.2.1 h.2.2.2 h.2.2.1
theorem read_inf {b : Nat} (h : b < 18446744073709551616) (hm : magB b = 9218868437227405312) : double.read b = .infinity (negB b) := by
  have hw := word_self h
  rw [hm] at hw
  rw [← hw]
  cases negB b <;> decide +kernel
theorem nan_order {b : Nat} (h : isNaNB b = true) (c : Nat) : double.order b c = none := by
  have hn := read_nan (b := b)
  rw [h] at hn
  unfold Format.order
  generalize double.read b = d at *
  cases d with
  | nan s t => cases double.read c <;> rfl
  | number s m e => cases hn
  | infinity s => cases hn
theorem kinds {b : Nat} (h : b < 18446744073709551616) : isNaNB b = true ∨ (isNaNB b = false ∧ magB b = 9218868437227405312) ∨ (isNaNB b = false ∧ FinB b) := by
  unfold isNaNB FinB
  rcases Nat.lt_trichotomy (magB b) 9218868437227405312 with h1 | h1 | h1
  · exact Or.inr (Or.inr ⟨decide_eq_false (by omega), h, h1⟩)
  · exact Or.inr (Or.inl ⟨decide_eq_false (by omega), h1⟩)
  · exact Or.inl (decide_eq_true h1)
theorem fin_not_nan {b : Nat} (h : FinB b) : isNaNB b = false := decide_eq_false (by have := h.2; omega)
theorem inf_not_ok {b : Nat} (h : magB b = 9218868437227405312) : ¬ OkI b := fun g => by have := g.1.2; omega
theorem nan_not_ok {b : Nat} (h : isNaNB b = true) : ¬ OkI b := fun g => by rw [fin_not_nan g.1] at h; cases h
theorem int_split {b : Nat} (h : b < 18446744073709551616) :
    (isNaNB b = true ∧ ¬ OkI b ∧ double.order b 14069245235905429504 = none ∧ double.order b 4845873199050653696 = none) ∨
    (isNaNB b = false ∧ ¬ OkI b ∧ double.order b 14069245235905429504 = some .lt ∧ double.order b 4845873199050653696 = some .lt) ∨
    (isNaNB b = false ∧ ¬ OkI b ∧ double.order b 14069245235905429504 = some .gt ∧ double.order b 4845873199050653696 = some .gt) ∨
    (isNaNB b = false ∧ FinB b ∧ (OkI b ↔ IsWhole b) ∧ (double.order b 14069245235905429504 = some .gt ∨ double.order b 14069245235905429504 = some .eq) ∧ (double.order b 4845873199050653696 = some .lt ∨ double.order b 4845873199050653696 = some .eq)) := by
  rcases kinds h with hn | ⟨hn, hi⟩ | ⟨hn, hf⟩
  · exact Or.inl ⟨hn, nan_not_ok hn, nan_order hn _, nan_order hn _⟩
  · have hr := read_inf h hi
    have hk := inf_not_ok hi
    have o1 : double.order b 14069245235905429504 = (Datum.infinity (negB b)).order (double.read 14069245235905429504) := by unfold Format.order; rw [hr]
    have o2 : double.order b 4845873199050653696 = (Datum.infinity (negB b)).order (double.read 4845873199050653696) := by unfold Format.order; rw [hr]
    rw [o1, o2]
    cases negB b
    · exact Or.inr (Or.inr (Or.inl ⟨hn, hk, by decide +kernel, by decide +kernel⟩))
    · exact Or.inr (Or.inl ⟨hn, hk, by decide +kernel, by decide +kernel⟩)
  · have o1 := order_fin hf top_rv.2.2.1
    have o2 := order_fin hf top_rv.1
    rw [top_rv.2.2.2] at o1
    rw [top_rv.2.1] at o2
    have hT : (0 : Int) < ((9007199254740992 * T1 : Nat) : Int) := by have := T1_pos; omega
    have hok : OkI b ↔ (IsWhole b ∧ ¬ rv b < -((9007199254740992 * T1 : Nat) : Int) ∧ ¬ ((9007199254740992 * T1 : Nat) : Int) < rv b) := ⟨fun h => h.2, fun h => ⟨hf, h⟩⟩
    generalize ((9007199254740992 * T1 : Nat) : Int) = E at *
    rcases Int.lt_trichotomy (rv b) (-E) with h1 | h1 | h1
    · refine Or.inr (Or.inl ⟨hn, fun g => (hok.1 g).2.1 h1, ?_, ?_⟩)
      · rw [o1, Int.compare_eq_lt.2 h1]
      · rw [o2, Int.compare_eq_lt.2 (by omega)]
    · refine Or.inr (Or.inr (Or.inr ⟨hn, hf, ?_, Or.inr ?_, Or.inl ?_⟩))
      · rw [hok]; exact ⟨fun h => h.1, fun h => ⟨h, by omega, by omega⟩⟩
      · rw [o1, Int.compare_eq_eq.2 h1]
      · rw [o2, Int.compare_eq_lt.2 (by omega)]
    · rcases Int.lt_trichotomy (rv b) E with h2 | h2 | h2
      · refine Or.inr (Or.inr (Or.inr ⟨hn, hf, ?_, Or.inl ?_, Or.inl ?_⟩))
        · rw [hok]; exact ⟨fun h => h.1, fun h => ⟨h, by omega, by omega⟩⟩
        · rw [o1, Int.compare_eq_gt.2 h1]
        · rw [o2, Int.compare_eq_lt.2 h2]
      · refine Or.inr (Or.inr (Or.inr ⟨hn, hf, ?_, Or.inl ?_, Or.inr ?_⟩))
        · rw [hok]; exact ⟨fun h => h.1, fun h => ⟨h, by omega, by omega⟩⟩
        · rw [o1, Int.compare_eq_gt.2 h1]
        · rw [o2, Int.compare_eq_eq.2 h2]
      · refine Or.inr (Or.inr (Or.inl ⟨hn, fun g => (hok.1 g).2.2 h2, ?_, ?_⟩))
        · rw [o1, Int.compare_eq_gt.2 h1]
        · rw [o2, Int.compare_eq_gt.2 h2]
/-- the whole number next to a number; any NaN is the one. -/
def rndF (b : Nat) : Nat := if isNaNB b then nanB else wholeB .even b
theorem inf_whole (way : Toward) {b : Nat} (h : b < 18446744073709551616) (hm : magB b = 9218868437227405312) : wholeB way b = b := by
  have hw := word_self h
  unfold wholeB
  rw [read_inf h hm]
  rw [hm] at hw
  exact hw
theorem rndF_fin {b : Nat} (h : FinB b) : rndF b = wholeB .even b := if_neg (by rw [fin_not_nan h]; decide)
theorem rndF_can {b : Nat} (h : b < 18446744073709551616) : CanB (rndF b) := by
  unfold rndF
  rcases kinds h with hn | ⟨hn, hi⟩ | ⟨hn, hf⟩
  · rw [if_pos hn]; exact ⟨by decide, fun _ => rfl⟩
  · rw [hn, if_neg (by decide), inf_whole .even h hi]; exact ⟨h, fun g => by rw [hn] at g; cases g⟩
  · rw [hn, if_neg (by decide)]
    have hw := (whole_fin .even hf).1
    exact ⟨hw.1, fun g => by rw [fin_not_nan hw] at g; cases g⟩
theorem rndF_again {b : Nat} (h : b < 18446744073709551616) : rndF (rndF b) = rndF b := by
  rcases kinds h with hn | ⟨hn, hi⟩ | ⟨hn, hf⟩
  · have : rndF b = nanB := if_pos hn
    rw [this]; exact if_pos (by decide +kernel)
  · have : rndF b = b := by unfold rndF; rw [hn, if_neg (by decide), inf_whole .even h hi]
    rw [this, this]
  · rw [rndF_fin hf, rndF_fin (whole_fin .even hf).1, whole_self .even (whole_fin .even hf).1 (whole_is .even hf)]
theorem inf_self {b : Nat} (h : b < 18446744073709551616) (hm : magB b = 9218868437227405312) : double.sub b b = none := by
  unfold Format.sub
  rw [read_inf h hm]
  cases negB b <;> rfl
end Go.Proofs.YtfodeeejolkkfaaGreat
namespace Go.Proofs.YtfodeeejolkkfaaGreat
open Go.RowKit Go.Lib Ieee

theorem cls_nan {v : Nat} (h : isNaNB v = true) : clsV v = 1 := by
  unfold clsV
  rw [if_pos (of_decide_eq_true h)]
theorem neg_ge {v : Nat} (h : negB v = true) : 9223372036854775808 ≤ v := of_decide_eq_true h
theorem neg_lt {v : Nat} (h : negB v = false) : ¬ 9223372036854775808 ≤ v := of_decide_eq_false h
theorem clsM_inf {m : Nat} (h : m = 9218868437227405312) : clsM m = 9 := by unfold clsM; rw [if_neg (by omega), if_pos h]
theorem cls_inf {v : Nat} (h : magB v = 9218868437227405312) : clsV v = if negB v then 2 else 9 := by
  unfold clsV
  rw [if_neg (by omega), clsM_inf h]
  cases hn : negB v with
  | true => rw [if_pos (neg_ge hn)]; rfl
  | false => rw [if_neg (neg_lt hn)]; rfl
theorem clsM_fin {m : Nat} (h : m < 9218868437227405312) : 6 ≤ clsM m ∧ clsM m ≤ 8 ∧ (clsM m = 6 ↔ m = 0) := by
  unfold clsM
  rw [if_neg (by omega), if_neg (by omega)]
  by_cases h0 : m = 0
  · rw [if_pos h0]; exact ⟨by omega, by omega, by simp [h0]⟩
  · rw [if_neg h0]
    by_cases h1 : m < 4503599627370496
    · rw [if_pos h1]; exact ⟨by omega, by omega, by constructor <;> intro h <;> omega⟩
    · rw [if_neg h1]; exact ⟨by omega, by omega, by constructor <;> intro h <;> omega⟩
theorem cls_fin {v : Nat} (h : FinB v) : 3 ≤ clsV v ∧ clsV v ≤ 8 ∧ (clsV v = 5 → v = 9223372036854775808) := by
  have hm := h.2
  obtain ⟨h1, h2, h3⟩ := clsM_fin hm
  unfold clsV
  rw [if_neg (by omega)]
  by_cases hs : 9223372036854775808 ≤ v
  · rw [if_pos hs]
    refine ⟨by omega, by omega, fun h5 => ?_⟩
    have h0 := h3.1 (by omega)
    unfold magB at h0
    have := h.1
    omega
  · rw [if_neg hs]
    exact ⟨by omega, by omega, fun h5 => by omega⟩
theorem read_isnan {b : Nat} (h : isNaNB b = true) : ∃ s t, double.read b = .nan s t := by
  have := @read_nan b
  rw [h] at this
  cases hr : double.read b with
  | nan s t => exact ⟨s, t, rfl⟩
  | number s m i => rw [hr] at this; cases this
  | infinity s => rw [hr] at this; cases this
theorem add_nan_l {a b : Nat} (h : isNaNB a = true) : addC a b = nanB := by
  obtain ⟨s, t, hr⟩ := read_isnan h
  have : double.add a b = none := by unfold Format.add; rw [hr]; rfl
  unfold addC; rw [this]
theorem add_nan_r {a b : Nat} (h : isNaNB b = true) : addC a b = nanB := by
  obtain ⟨s, t, hr⟩ := read_isnan h
  have : double.add a b = none := by unfold Format.add; rw [hr]; cases double.read a <;> rfl
  unfold addC; rw [this]
/-- an infinity. -/
def infS (s : Bool) : Nat := if s then 18442240474082181120 else 9218868437227405312
theorem write_inf (s : Bool) : double.write (.infinity s) = infS s := by cases s <;> decide +kernel
theorem canB_inf (s : Bool) : canB (infS s) = infS s := by cases s <;> decide +kernel
theorem mag_inf (s : Bool) : magB (infS s) = 9218868437227405312 := by cases s <;> decide +kernel
theorem cls_infS (s : Bool) : clsV (infS s) = if s then 2 else 9 := by cases s <;> decide +kernel
theorem infS_lt (s : Bool) : infS s < 18446744073709551616 := by cases s <;> decide
theorem add_inf_apart {a b : Nat} (ha : a < 18446744073709551616) (hb : b < 18446744073709551616) (h1 : magB a = 9218868437227405312) (h2 : magB b = 9218868437227405312) (hn : negB a ≠ negB b) : addC a b = nanB := by
  have : double.add a b = none := by unfold Format.add; rw [read_inf ha h1, read_inf hb h2]; simp [Datum.sum, hn]
  unfold addC; rw [this]
theorem add_inf_same {a b : Nat} (ha : a < 18446744073709551616) (hb : b < 18446744073709551616) (h1 : magB a = 9218868437227405312) (h2 : magB b = 9218868437227405312) (hn : negB a = negB b) : addC a b = infS (negB a) := by
  have : double.add a b = some (infS (negB a)) := by unfold Format.add; rw [read_inf ha h1, read_inf hb h2, hn]; simp [Datum.sum, write_inf]
  unfold addC; rw [this]; exact canB_inf _
theorem add_inf_l {a b : Nat} (ha : a < 18446744073709551616) (h1 : magB a = 9218868437227405312) (h2 : FinB b) : addC a b = infS (negB a) := by
  obtain ⟨m, i, hr, -⟩ := read_fin h2
  have : double.add a b = some (infS (negB a)) := by unfold Format.add; rw [read_inf ha h1, hr]; simp [Datum.sum, write_inf]
  unfold addC; rw [this]; exact canB_inf _
theorem add_inf_r {a b : Nat} (hb : b < 18446744073709551616) (h2 : magB b = 9218868437227405312) (h1 : FinB a) : addC a b = infS (negB b) := by
  obtain ⟨m, i, hr, -⟩ := read_fin h1
  have : double.add a b = some (infS (negB b)) := by unfold Format.add; rw [read_inf hb h2, hr]; simp [Datum.sum, write_inf]
  unfold addC; rw [this]; exact canB_inf _
theorem add_zeros : addC 9223372036854775808 9223372036854775808 = 9223372036854775808 := by decide +kernel
theorem run_sub_inf {b : Nat} (h : Ieee.double.sub b b = none) (w : World) : ∃ c, isNaNB c = true ∧ (binOp .sub 42 (.float .f64 b) (.float .f64 b)).run Tryz.prog w = .ok (.float .f64 c) w.drew := by
  refine ⟨(Question.nanBits .f64 b b).cut (w.tape w.drawn (.nanBits .f64 b b)), ?_, ?_⟩
  · show isNaNB ((w.tape w.drawn (.nanBits .f64 b b) % 2) * 9223372036854775808 + 9218868437227405312 + 1 + (w.tape w.drawn (.nanBits .f64 b b) / 2) % 4503599627370495) = true
    have h1 : w.tape w.drawn (.nanBits .f64 b b) % 2 < 2 := Nat.mod_lt _ (by decide)
    have h2 : (w.tape w.drawn (.nanBits .f64 b b) / 2) % 4503599627370495 < 4503599627370495 := Nat.mod_lt _ (by decide)
    generalize w.tape w.drawn (.nanBits .f64 b b) % 2 = u at *
    generalize (w.tape w.drawn (.nanBits .f64 b b) / 2) % 4503599627370495 = q at *
    unfold isNaNB magB
    refine decide_eq_true ?_
    rcases (by omega : u = 0 ∨ u = 1) with rfl | rfl <;> omega
  · have h' : FloatKind.f64.format.sub b b = none := h
    simp [binOp, Op.floatArith, h', Question.forced]
theorem nan_ne_zero {c : Nat} (h : isNaNB c = true) : (FloatKind.f64.format.order c 0 != some .eq) = true := by
  have : FloatKind.f64.format.order c 0 = none := nan_order h 0
  rw [this]; rfl
end Go.Proofs.YtfodeeejolkkfaaGreat
namespace Go.Proofs.YtfodeeejolkkfaaGreat
open Go.RowKit Go.Lib Ieee

/-- a number turned in its sign. -/
def negF (b : Nat) : Nat := b ^^^ 2 ^ 63
theorem negF_pos {b : Nat} (h : b < 9223372036854775808) : negF b = 9223372036854775808 + b := by
  unfold negF
  apply Nat.eq_of_testBit_eq
  intro i
  rw [Nat.testBit_xor, Nat.testBit_two_pow, show 9223372036854775808 + b = 2 ^ 63 + b from rfl]
  rcases Nat.lt_trichotomy i 63 with h1 | h1 | h1
  · rw [Nat.testBit_two_pow_add_gt h1]
    have : ¬ 63 = i := by omega
    simp [this]
  · subst h1
    rw [Nat.testBit_two_pow_add_eq]
    simp
  · have e : 2 ^ 64 ≤ 2 ^ i := Nat.pow_le_pow_right (by decide) h1
    have e64 : (2 : Nat) ^ 64 = 18446744073709551616 := by decide
    have e63 : (2 : Nat) ^ 63 = 9223372036854775808 := by decide
    rw [Nat.testBit_lt_two_pow (x := b) (by omega), Nat.testBit_lt_two_pow (x := 2 ^ 63 + b) (by omega)]
    have : ¬ 63 = i := by omega
    simp [this]
theorem negF_neg {b : Nat} (h0 : 9223372036854775808 ≤ b) (h : b < 18446744073709551616) : negF b = b - 9223372036854775808 := by
  obtain ⟨c, rfl⟩ : ∃ c, b = 9223372036854775808 + c := ⟨b - 9223372036854775808, by omega⟩
  have hc : c < 9223372036854775808 := by omega
  rw [← negF_pos hc]
  unfold negF
  rw [Nat.xor_assoc, Nat.xor_self, Nat.xor_zero]
  have := negF_pos hc
  unfold negF at this
  rw [this]; omega
theorem negF_lt {b : Nat} (h : b < 18446744073709551616) : negF b < 18446744073709551616 := by
  by_cases h0 : 9223372036854775808 ≤ b
  · rw [negF_neg h0 h]; omega
  · rw [negF_pos (by omega)]; omega
theorem signW : double.signWeight = 9223372036854775808 := by decide
theorem read_negF {b : Nat} (h : b < 18446744073709551616) : double.read (negF b) = (double.read b).opposite := by
  have e1 : negF b % 9223372036854775808 = b % 9223372036854775808 := by
    by_cases h0 : 9223372036854775808 ≤ b
    · rw [negF_neg h0 h]; omega
    · rw [negF_pos (by omega)]; omega
  have e2 : (negF b / 9223372036854775808 % 2 == 1) = !(b / 9223372036854775808 % 2 == 1) := by
    by_cases h0 : 9223372036854775808 ≤ b
    · rw [negF_neg h0 h, show (b - 9223372036854775808) / 9223372036854775808 % 2 = 0 by omega, show b / 9223372036854775808 % 2 = 1 by omega]; rfl
    · rw [negF_pos (by omega), show (9223372036854775808 + b) / 9223372036854775808 % 2 = 1 by omega, show b / 9223372036854775808 % 2 = 0 by omega]; rfl
  unfold Format.read
  rw [signW, e1, e2]
  simp only []
  split
  · rfl
  · split
    · rfl
    · split <;> rfl
theorem add_neg (b : Nat) {x : Nat} (h : x < 18446744073709551616) : double.add b (negF x) = double.sub b x := by
  unfold Format.add Format.sub
  rw [read_negF h]
/-- five. -/
def fiveB : Nat := 4617315517961601024
theorem five_fin : FinB fiveB := by unfold FinB; decide
theorem order_some {d : Nat} (h : d < 18446744073709551616) (hn : isNaNB d = false) : ∃ o, double.order d 0 = some o := by
  rcases kinds h with hN | ⟨-, hI⟩ | ⟨-, hF⟩
  · rw [hN] at hn; cases hn
  · obtain ⟨m, i, hr, -⟩ := read_fin zero_fin.1
    refine ⟨if negB d then .lt else .gt, ?_⟩
    unfold Format.order
    rw [read_inf h hI, hr]
    rfl
  · exact ⟨_, order_fin hF zero_fin.1⟩
/-- what five less a number is. -/
theorem five_sub {x : Nat} (hx : FinB x) : ∃ d, double.sub fiveB x = some d ∧ addC fiveB (negF x) = d ∧ isNaNB d = false ∧ (rv x ≤ rv fiveB → (double.order d 0 == some .gt || double.order d 0 == some .eq) = true) ∧ (rv fiveB < rv x → (double.order d 0 == some .gt || double.order d 0 == some .eq) = false) := by
  obtain ⟨g, hs, hp, hn⟩ := sub_rv five_fin hx
  have hle : rungOf (rv fiveB - rv x).natAbs ≤ 9218868437227405312 := by
    by_cases h0 : (rv fiveB - rv x).natAbs = 0
    · rw [h0]; decide
    · exact (rung_pos h0).2
  have hmag : magB (double.word g (rungOf (rv fiveB - rv x).natAbs)) = rungOf (rv fiveB - rv x).natAbs := mag_word (by omega)
  have hnan : isNaNB (double.word g (rungOf (rv fiveB - rv x).natAbs)) = false := by
    unfold isNaNB
    rw [hmag]
    exact decide_eq_false (by omega)
  have hz0 : rv fiveB - rv x = 0 → double.order (double.word g (rungOf (rv fiveB - rv x).natAbs)) 0 = some .eq := by
    intro h0
    rw [h0]
    cases g <;> decide +kernel
  have hlt : (rv fiveB - rv x).natAbs ≠ 0 → (double.order (double.word g (rungOf (rv fiveB - rv x).natAbs)) 0 == some .lt) = g := fun h0 => order_zero (rung_pos h0).1 (rung_pos h0).2
  have hsome := order_some (word_lt (s := g) (by omega : rungOf (rv fiveB - rv x).natAbs < 9223372036854775808)) hnan
  refine ⟨_, hs, ?_, hnan, ?_, ?_⟩
  · unfold addC
    rw [add_neg _ hx.1, hs]
    show canB _ = _
    unfold canB
    rw [if_neg (by rw [hnan]; decide)]
  · intro hl
    by_cases h0 : rv fiveB - rv x = 0
    · rw [hz0 h0]; rfl
    · have hg := hp (by omega)
      have := hlt (by omega)
      rw [hg] at this hsome ⊢
      obtain ⟨o, ho⟩ := hsome
      rw [ho] at this ⊢
      cases o
      · cases this
      · rfl
      · rfl
  · intro hl
    have hg := hn (by omega)
    have := hlt (by omega)
    rw [hg] at this ⊢
    rw [beq_iff_eq] at this
    rw [this]
    rfl
set_option maxRecDepth 100000 in
theorem abs_any (b : Nat) (w : World) (h : b < 18446744073709551616) : Calls Tryz.prog 93 #[.float .f64 b] w fun e w' => e = .returned (.float .f64 (magB b)) ∧ w = w' := by
  have hb := run_bits b
  have hf := fun n : Int => run_from n
  have hA := andNot_sign h
  clear h
  go_enter Tryz.func93, Tryz.ntmps93
  go_wp2_with fail
  go_ret
  exact ⟨rfl, rfl⟩
set_option maxRecDepth 100000 in
theorem isinf_any (b : Nat) (w : World) (h : b < 18446744073709551616) (t : Bool) (ht : (FloatKind.f64.format.order (magB b) 9218868437227405311 == some .gt) = t) : Calls Tryz.prog 52 #[.float .f64 b, .int .i64 0] w fun e w' => e = .returned (.bool t) ∧ w = w' := by
  have HA := Lib.hid (abs_any b w h)
  clear h
  generalize magB b = m at *
  go_enter Tryz.func52, Tryz.ntmps52
  go_wp2_with fail
  refine HA.out.mono ?_
  rintro e w1 ⟨rfl, rfl⟩
  go_wp2_with fail
  go_ret
  exact ⟨by first | rfl | rw [← ht], rfl⟩
end Go.Proofs.YtfodeeejolkkfaaGreat
namespace Go.Proofs.YtfodeeejolkkfaaGreat
open Go.RowKit Go.Lib

set_option maxRecDepth 100000 in
theorem class_zero (w : World) : Calls Tryz.prog 137 #[.float .f64 0] w fun e w' => e = .returned (.int .i64 6) ∧ w = w' := by
  have hr := fun w => run_bits 0 w
  go_enter Tryz.func137, Tryz.ntmps137
  go_wp2_with fail
  go_ret
  exact ⟨rfl, rfl⟩
set_option maxRecDepth 100000 in
theorem negative_zero (w : World) {g o k c : Nat} (h : Fl w (some ⟨g, o, none⟩) (zeroF k)) (hk : 0 < k) : Calls Tryz.prog 132 #[.slice (some ⟨g, o, none⟩) k c] w fun e w' => e = .returned (.bool false) ∧ w = w' := by
  have c0 : w.cell? ⟨g, o, none⟩ = some (.float .f64 0) := by
    rcases h with h | ⟨b, o', e, h⟩
    · have := congrArg List.length h
      simp [zeroF] at this
      omega
    · cases e
      have := h 0 (by simp [zeroF]; omega)
      simpa [zeroF] using this
  have hp : (0 : Int) < k := by omega
  go_enter Tryz.func132, Tryz.ntmps132
  go_wp2_with fail
  go_loopw [7] (fun i wr => i = .int .i64 0 ∧ w = wr) (fun _ _ => 0)
  case atStart => exact ⟨rfl, rfl⟩
  case round =>
    obtain ⟨rfl, rfl⟩ := hrel
    go_wp2_with fail
    refine (class_zero _).mono ?_
    rintro e w2 ⟨rfl, rfl⟩
    go_wp2_with fail
    go_ret
    exact ⟨rfl, rfl⟩
set_option maxRecDepth 100000 in
theorem plain_zero (w : World) : Calls Tryz.prog 134 #[.float .f64 0] w fun e w' => e = .returned (.float .f64 0) ∧ w = w' := by
  have hc : canB 0 = 0 := by decide
  go_enter Tryz.func134, Tryz.ntmps134
  go_wp2_with (first
    | (go_at_call 50; refine (fbits_any 0 _).mono ?_; rintro e w1 ⟨rfl, rfl⟩; rw [hc])
    | (go_at_call 49; refine (fromBits_any 0 _).mono ?_; rintro e w1 ⟨rfl, rfl⟩; rw [hc]))
  go_ret
  exact ⟨rfl, rfl⟩
theorem abs_zero (w : World) : Calls Tryz.prog 93 #[.float .f64 0] w fun e w' => e = .returned (.float .f64 0) ∧ w = w' :=
  (abs_any 0 w (by decide)).mono fun _ _ h => by rw [show magB 0 = 0 by decide] at h; exact h
set_option maxRecDepth 100000 in
set_option maxHeartbeats 2000000 in
theorem fsum_zero (w : World) {g o k c : Nat} (h : Fl w (some ⟨g, o, none⟩) (zeroF k)) (hk : 0 < k) (hk2 : k ≤ 1000000) : Calls Tryz.prog 72 #[.slice (some ⟨g, o, none⟩) k c] w fun e w' => e = .returned (.float .f64 0) ∧ w = w' := by
  have hN := Lib.hid (negative_zero w (c := c) h hk)
  have hcell : ∀ j, j < k → w.cell? ⟨g, o + j, none⟩ = some (.float .f64 0) := by
    intro j hj
    rcases h with h | ⟨b, o', e, h⟩
    · have := congrArg List.length h
      simp [zeroF] at this
      omega
    · cases e
      have := h j (by simp [zeroF]; omega)
      simpa [zeroF] using this
  have ha : ∀ w, (binOp .add 42 (.float .f64 0) (.float .f64 0)).run Tryz.prog w = .ok (.float .f64 0) w := fun w => by kernel_rfl
  have hs : ∀ w, (binOp .sub 42 (.float .f64 0) (.float .f64 0)).run Tryz.prog w = .ok (.float .f64 0) w := fun w => by kernel_rfl
  have hg : ∀ w, (binOp .geq 42 (.float .f64 0) (.float .f64 0)).run Tryz.prog w = .ok (.bool true) w := fun w => by kernel_rfl
  have hq : ∀ w, (binOp .neq 42 (.float .f64 0) (.float .f64 0)).run Tryz.prog w = .ok (.bool false) w := fun w => by kernel_rfl
  clear h
  go_enter Tryz.func72, Tryz.ntmps72
  go_wp2_with fail
  refine hN.out.mono ?_
  rintro e w1 ⟨rfl, rfl⟩
  go_wp2_with fail
  go_loopw [3, 4, 13] (fun s t i wr => s = .float .f64 0 ∧ t = .float .f64 0 ∧ w = wr ∧ ∃ j : Nat, j ≤ k ∧ i = .int .i64 j) (fun _ _ i _ => k - (intOf i).toNat)
  case atStart => exact ⟨rfl, rfl, rfl, 0, Nat.zero_le _, rfl⟩
  case round =>
    obtain ⟨rfl, rfl, rfl, j, hj, rfl⟩ := hrel
    rcases Nat.lt_or_ge j k with hl | hl
    · have hl' : (j : Int) < k := by omega
      have hcj := hcell j hl
      go_wp2_with (first | (go_at_call 93; refine (abs_zero _).mono ?_; rintro e w2 ⟨rfl, rfl⟩))
      go_roundw
      case rel => exact ⟨rfl, rfl, trivial, j + 1, hl, by go_num⟩
      case measure => simp [intOf]; omega
    · obtain rfl : j = k := by omega
      have hnl : ¬ ((j : Int) < j) := by omega
      go_wp2_with (first | (go_at_call 134; refine (plain_zero _).mono ?_; rintro e w2 ⟨rfl, rfl⟩))
      go_ret
      exact ⟨rfl, rfl⟩
end Go.Proofs.YtfodeeejolkkfaaGreat
namespace Go.Proofs.YtfodeeejolkkfaaGreat
open Go.RowKit Go.Lib

set_option maxRecDepth 100000 in
theorem negative_nil (w : World) : Calls Tryz.prog 132 #[.slice none 0 0] w fun e w' => e = .returned (.bool false) ∧ w = w' := by
  go_enter Tryz.func132, Tryz.ntmps132
  go_wp2_with fail
  go_loopw [7] (fun i wr => i = .int .i64 0 ∧ w = wr) (fun _ _ => 0)
  case atStart => exact ⟨rfl, rfl⟩
  case round =>
    obtain ⟨rfl, rfl⟩ := hrel
    go_wp2_with fail
    go_ret
    exact ⟨rfl, rfl⟩
set_option maxRecDepth 100000 in
set_option maxHeartbeats 2000000 in
theorem fsum_nil (w : World) : Calls Tryz.prog 72 #[.slice none 0 0] w fun e w' => e = .returned (.float .f64 0) ∧ w = w' := by
  have ha : ∀ w, (binOp .add 42 (.float .f64 0) (.float .f64 0)).run Tryz.prog w = .ok (.float .f64 0) w := fun w => by kernel_rfl
  have hq : ∀ w, (binOp .neq 42 (.float .f64 0) (.float .f64 0)).run Tryz.prog w = .ok (.bool false) w := fun w => by kernel_rfl
  go_enter Tryz.func72, Tryz.ntmps72
  go_wp2_with fail
  refine (negative_nil _).mono ?_
  rintro e w1 ⟨rfl, rfl⟩
  go_wp2_with fail
  go_loopw [3, 4, 13] (fun s t i wr => s = .float .f64 0 ∧ t = .float .f64 0 ∧ w = wr ∧ i = .int .i64 0) (fun _ _ _ _ => 0)
  case atStart => exact ⟨rfl, rfl, rfl, rfl⟩
  case round =>
    obtain ⟨rfl, rfl, rfl, rfl⟩ := hrel
    go_wp2_with (first | (go_at_call 134; refine (plain_zero _).mono ?_; rintro e w2 ⟨rfl, rfl⟩))
    go_ret
    exact ⟨rfl, rfl⟩
set_option maxRecDepth 100000 in
theorem sum71 (w : World) {v : Value} (h : Calls Tryz.prog 72 #[v] w fun e w' => e = .returned (.float .f64 0) ∧ w = w') : Calls Tryz.prog 71 #[v] w fun e w' => e = .returned (.tuple #[.float .f64 0, .int .i64 0]) ∧ w = w' := by
  go_enter Tryz.func71, Tryz.ntmps71
  go_wp2_with (first | (go_at_call 72; refine h.mono ?_; rintro e w2 ⟨rfl, rfl⟩))
  go_ret2
  exact ⟨rfl, rfl⟩
set_option maxRecDepth 100000 in
set_option maxHeartbeats 2000000 in
theorem qof_err (w : World) {base : Nat} {d : Ids} {m : Nat} {l : List (Int × Int)} {f n hd : Int} (h : Sz w base d m l) (hE : qErr f n ≠ 0 ∨ n = 0) :
    Calls Tryz.prog 70 #[.pointer (some ⟨d.P, 0, none⟩), .int .i64 hd, .int .i64 f, .int .i64 n, .func (.func 71) #[] #[]] w fun e w' => e = .returned (.tuple #[.float .f64 0, .int .i64 (qErr f n)]) ∧ Chg [] w w' := by
  have HQ := Lib.hid (qcells_err w (hd := hd) h hE)
  generalize qErr f n = q at *
  clear h
  go_enter Tryz.func70, Tryz.ntmps70
  go_wp2_with fail
  refine HQ.out.mono ?_
  rintro e w1 ⟨rfl, k1⟩
  clear HQ
  by_cases hq : q = 0
  · subst hq
    go_wp2_with (first | (go_at_call 71; refine (sum71 _ (fsum_nil _)).mono ?_; rintro e w2 ⟨rfl, rfl⟩))
    go_ret2
    exact ⟨rfl, k1⟩
  · go_wp2_with fail
    go_ret2
    exact ⟨rfl, k1⟩
set_option maxRecDepth 100000 in
theorem qsum_err (w : World) {base : Nat} {d : Ids} {m : Nat} {l : List (Int × Int)} {f n hd : Int} (h : Sz w base d m l) (hE : qErr f n ≠ 0 ∨ n = 0) :
    Calls Tryz.prog 33 #[.pointer (some ⟨d.P, 0, none⟩), .int .i64 hd, .int .i64 f, .int .i64 n] w fun e w' => e = .returned (.tuple #[.float .f64 0, .int .i64 (qErr f n)]) ∧ Chg [] w w' := by
  have HQ := Lib.hid (qof_err w (hd := hd) h hE)
  generalize qErr f n = q at *
  clear h
  go_enter Tryz.func33, Tryz.ntmps33
  go_wp2_with fail
  refine HQ.out.mono ?_
  rintro e w1 ⟨rfl, k1⟩
  go_wp2_with fail
  go_ret2
  exact ⟨rfl, k1⟩
set_option maxRecDepth 100000 in
set_option maxHeartbeats 2000000 in
theorem qof_ok (w : World) {base : Nat} {d : Ids} {m f n : Nat} {l : List (Int × Int)} (h : Sz w base d m l) (hx : Ext l (f / 5 : Nat) 0) (hm : m ≤ 90000) (hn : 0 < n) (hf : f + n ≤ 1290) :
    Calls Tryz.prog 70 #[.pointer (some ⟨d.P, 0, none⟩), .int .i64 1, .int .i64 f, .int .i64 n, .func (.func 71) #[] #[]] w fun e w' =>
    ∃ m' l', e = .returned (.tuple #[.float .f64 0, .int .i64 0]) ∧ Ow base w w' ∧ Sz w' base d m' l' ∧ Ext l' (f / 5 : Nat) 0 ∧ m' ≤ m + 258 := by
  have HQ := Lib.hid (qcells_ok w h hx hm hn hf)
  clear h hx
  go_enter Tryz.func70, Tryz.ntmps70
  go_wp2_with fail
  refine HQ.out.mono ?_
  rintro e w1 ⟨g, o, c, m', l', rfl, hc, k1, hF, hz, hx', hm'⟩
  have HS := Lib.hid (sum71 w1 (fsum_zero w1 (c := c) hF hn (by omega)))
  clear HQ hF
  go_wp2_with (first | (go_at_call 71; refine HS.out.mono ?_; rintro e w2 ⟨rfl, rfl⟩))
  go_ret2
  exact ⟨m', l', rfl, k1, hz, hx', hm'⟩
set_option maxRecDepth 100000 in
theorem qsum_ok (w : World) {base : Nat} {d : Ids} {m f n : Nat} {l : List (Int × Int)} (h : Sz w base d m l) (hx : Ext l (f / 5 : Nat) 0) (hm : m ≤ 90000) (hn : 0 < n) (hf : f + n ≤ 1290) :
    Calls Tryz.prog 33 #[.pointer (some ⟨d.P, 0, none⟩), .int .i64 1, .int .i64 f, .int .i64 n] w fun e w' =>
    ∃ m' l', e = .returned (.tuple #[.float .f64 0, .int .i64 0]) ∧ Ow base w w' ∧ Sz w' base d m' l' ∧ Ext l' (f / 5 : Nat) 0 ∧ m' ≤ m + 258 := by
  have HQ := Lib.hid (qof_ok w h hx hm hn hf)
  clear h hx
  go_enter Tryz.func33, Tryz.ntmps33
  go_wp2_with fail
  refine HQ.out.mono ?_
  rintro e w1 ⟨m', l', rfl, hr⟩
  go_wp2_with fail
  go_ret2
  exact ⟨m', l', rfl, hr⟩
end Go.Proofs.YtfodeeejolkkfaaGreat
namespace Go.Proofs.YtfodeeejolkkfaaGreat
open Go.RowKit Go.Lib

set_option maxRecDepth 100000 in
set_option maxHeartbeats 2000000 in
theorem qcount_ok (w : World) {base : Nat} {d : Ids} {m f n : Nat} {l : List (Int × Int)} (h : Sz w base d m l) (hx : Ext l (f / 5 : Nat) 0) (hm : m ≤ 90000) (hn : 0 < n) (hf : f + n ≤ 1290) :
    Calls Tryz.prog 75 #[.pointer (some ⟨d.P, 0, none⟩), .int .i64 1, .int .i64 f, .int .i64 n, .int .i64 6] w fun e w' => e = .returned (.tuple #[.int .i64 n, .int .i64 0]) ∧ Ow base w w' := by
  have HQ := Lib.hid (qcells_ok w h hx hm hn hf)
  clear h hx
  go_enter Tryz.func75, Tryz.ntmps75
  go_wp2_with fail
  refine HQ.out.mono ?_
  rintro e w1 ⟨g, o, c, m', l', rfl, hc, k1, hF, hz, hx', hm'⟩
  have hcell : ∀ j, j < n → w1.cell? ⟨g, o + j, none⟩ = some (.float .f64 0) := by
    intro j hj
    rcases hF with h | ⟨b, o', e, h⟩
    · have := congrArg List.length h
      simp [zeroF] at this
      omega
    · cases e
      have := h j (by simp [zeroF]; omega)
      simpa [zeroF] using this
  clear HQ hF hz hx'
  go_wp2_with fail
  go_loopw [14, 30] (fun k i wr => w1 = wr ∧ ∃ j : Nat, j ≤ n ∧ i = .int .i64 j ∧ k = .int .i64 j) (fun _ i _ => n - (intOf i).toNat)
  case atStart => exact ⟨rfl, 0, Nat.zero_le _, rfl, rfl⟩
  case round =>
    obtain ⟨rfl, j, hj, rfl, rfl⟩ := hrel
    rcases Nat.lt_or_ge j n with hl | hl
    · have hl' : (j : Int) < n := by omega
      have hcj := hcell j hl
      go_wp2_with (first | (go_at_call 137; refine (class_zero _).mono ?_; rintro e w2 ⟨rfl, rfl⟩))
      go_roundw
      case rel => exact ⟨trivial, j + 1, hl, by go_num, by go_num⟩
      case measure => simp [intOf]; omega
    · obtain rfl : j = n := by omega
      have hnl : ¬ ((j : Int) < j) := by omega
      go_wp2_with fail
      go_ret2
      exact ⟨rfl, k1⟩
end Go.Proofs.YtfodeeejolkkfaaGreat
namespace Go.Proofs.YtfodeeejolkkfaaGreat
open Go.RowKit Go.Lib

theorem res4 {P : Program} {fn : Func} {t u v x : Tmp} (h : fn.results = #[.tmp t, .tmp u, .tmp v, .tmp x]) (tmps : Array Value) (w : World) :
    (results fn tmps).run P w = .ok (.tuple #[tmps.getD t undef, tmps.getD u undef, tmps.getD v undef, tmps.getD x undef]) w := by
  simp [results, h]
/-- what fresh of no cells leaves. -/
def FqR (w : World) (e : Ending) (w' : World) : Prop :=
  ∃ base d G, e = .returned (.tuple #[.pointer (some ⟨d.P, 0, none⟩), .pointer (some ⟨G, 0, none⟩), .int .i64 1, .bool true]) ∧ Chg [] w w' ∧ Sz w' base d 0 [] ∧ w.heap.size ≤ base
set_option maxRecDepth 100000 in
set_option maxHeartbeats 4000000 in
theorem fresh27_nil (w : World) : Calls Tryz.prog 31 #[.slice none 0 0] w (FqR w) := by
  have kg : Chg [] w (w.alloc (.cells #[.int .i64 8, .int .i64 96] 80)) := Chg.alloc w _
  have g0 := heap_new w (.cells #[.int .i64 8, .int .i64 96] 80)
  have a0 : (w.alloc (.cells #[.int .i64 8, .int .i64 96] 80)).cell? ⟨w.heap.size, 0, none⟩ = some (.int .i64 8) := cell_is g0 0 rfl
  have a1 : (w.alloc (.cells #[.int .i64 8, .int .i64 96] 80)).cell? ⟨w.heap.size, 1, none⟩ = some (.int .i64 96) := cell_is g0 1 rfl
  go_enter Tryz.func31, Tryz.ntmps31
  go_wp2_with fail
  generalize w.alloc (.cells #[.int .i64 8, .int .i64 96] 80) = w0 at *
  have hw0 := kg.size
  generalize hz0 : w.heap.size = z0 at *
  refine (new_any w0).mono ?_
  rintro e w1 ⟨N, A, c, Z, rfl, k1, hD, hO, lN, lA, lZ⟩
  have g1 := k1.heap g0 (by simp)
  have hs1 := k1.size
  have hAl := hD.A_lt
  have hNl := heap_lt hD.1
  have hZl : ∀ z ∈ Z, z < w1.heap.size := fun z hz => by
    obtain ⟨j, hj, e⟩ := List.getElem_of_mem hz
    rw [← e]
    exact heap_lt (hD.2.2.2.2 j hj)
  clear a0 a1
  go_wp2_with fail
  refine (mount_any w1 hD hO hZl (by omega) (by omega)).mono ?_
  rintro e w2 ⟨P, S, M, X, rx, B, rb, r, rfl, hM, lP, lS, lM, lX, lrx, lB, lrb, lr, n1, n2, n3⟩
  obtain ⟨k2, hD2, hP2, hS2, hm2, hx2, hb2, hr2⟩ := hM
  have h0l := heap_lt g0
  have g2 := k2.heap g1 (by
    intro hm
    rcases List.mem_cons.1 hm with e | hm
    · omega
    · have := lZ _ hm; omega)
  have hs2 := k2.size
  have b0 : w2.cell? ⟨z0, 0, none⟩ = some (.int .i64 8) := cell_is g2 0 rfl
  have b1 : w2.cell? ⟨z0, 1, none⟩ = some (.int .i64 96) := cell_is g2 1 rfl
  have hSm : Sm w2 w2.heap.size N A c Z P S M X rx B rb r := by
    refine ⟨hP2, ⟨_, hD2⟩, ⟨hm2, hx2, hb2, hr2, n1, n2, n3⟩, ?_, fun z hz => Nat.lt_of_lt_of_le (hZl z hz) hs2, ?_⟩
    · have := heap_lt hP2; have := heap_lt hm2; have := heap_lt hx2.1; have := hx2.2.lt; have := heap_lt hb2.1; have := hb2.2.lt; have := hr2.lt; omega
    · rintro x (rfl | rfl | hx)
      · omega
      · omega
      · have := hZl x hx; omega
  have kk2 : Chg [] w w2 := (kg.then k1).trans k2 (fun x hx hlt => by
    rcases List.mem_cons.1 hx with e | hx
    · have := kg.size; omega
    · have := lZ x hx; have := kg.size; omega)
  clear hD hO hP2 hD2 hS2 hm2 hx2 hb2 hr2 k2 g1 g0 k1 kg
  go_wp2_with fail
  refine (rcap_min w2).mono ?_
  rintro e w3 ⟨rfl, k3⟩
  have h3 := hSm.keep k3 (fun x hx => by cases hx)
  have kk3 := kk2.then k3
  have hs3 := k3.size
  clear hSm b0 b1 g2
  go_wp2_with fail
  refine (rm_new w3).mono ?_
  rintro e w4 ⟨G, Y, rfl, k4, hG, lG⟩
  have h4 := h3.keep k4 (fun x hx => by cases hx)
  have kk4 := kk3.then k4
  have hs4 := k4.size
  clear h3
  have HG := Lib.hid hG
  clear hG
  go_wp2_with fail
  go_loopw [13] (fun i wr => i = .int .i64 0 ∧ w4 = wr) (fun _ _ => 0)
  case atStart => exact ⟨rfl, rfl⟩
  case round =>
    obtain ⟨rfl, rfl⟩ := hrel
    go_wp2_with fail
    obtain ⟨l1, l2, l3, l4, l5, l6, l7, l8, l9⟩ := h4.low
    refine (sbegin_any w4 h4.store h4.mg).mono ?_
    rintro e w5 ⟨T, W, rw, Q, V, rfl, k5, hP1, hM1, hT1, n1', n2', n3', b1, b2, b3⟩
    have nG : G ∉ [B, rb, r] := by simp; omega
    have hG1 : RmAt w5 G Y (.slice none 0 0) (.slice none 0 0) (.slice none 0 0) 0 := k5.heap HG.out nG
    obtain ⟨ops, hd⟩ := h4.dev
    have hne : ∀ x, x = N ∨ x = A ∨ x ∈ Z → x ∉ [B, rb, r] := fun x hx => by have := h4.ap x hx; simp; omega
    have hd1 := hd.keep k5 (hne _ (Or.inl rfl)) (hne _ (Or.inr (Or.inl rfl))) (fun z hz => hne _ (Or.inr (Or.inr hz)))
    go_wp2_with fail
    refine (rbegin_one w5 hG1).mono ?_
    rintro e w6 ⟨rfl, k6⟩
    have hGl := heap_lt HG.out
    have hGb : w2.heap.size ≤ G := by omega
    have hhi : ∀ x ∈ [G], w2.heap.size ≤ x := fun x hx => by simp at hx; omega
    have ha : Sta w5 w2.heap.size ⟨P, N, S, M, X, rx, B, rb, r, A, c, Z, T, W, rw, Q, V⟩ := ⟨hP1, ⟨ops, hd1⟩, hM1, h4.low, h4.lowZ⟩
    have ha2 := ha.keep k6 hhi
    have hav : ∀ ts, 163 ∉ ts → Av w5 [G] ts := fun ts h1 x hx cs t fr hh => by
      simp at hx
      subst hx
      rw [show w5.heap[x]? = _ from hG1] at hh; cases hh; exact h1
    have nmap : ∀ {x L}, MapAt w5 x L → x ∉ [G] := fun hm hx => by
      simp at hx
      subst hx
      exact map_cells hm (show w5.heap[_]? = _ from hG1) rfl
    have hv1 : Vw w5 w4.heap.size Q X W V 0 := ⟨_, 0, [], hT1.view, Nat.le_refl _, World.ownsRow_nil _ _ _ _⟩
    have hs1 : SpX w5 w4.heap.size V [] := ⟨_, hT1.spans, World.ownsRow_nil _ _ _ _⟩
    have hfin : Sz w6 w4.heap.size ⟨P, N, S, M, X, rx, B, rb, r, A, c, Z, T, W, rw, Q, V⟩ 0 [] := by
      refine ⟨⟨ha2.store, ha2.dev, ha2.mg, ⟨by show P < _; omega, by show N < _; omega, by show A < _; omega, by show M < _; omega, by show X < _; omega, by show rx < _; omega, by show B < _; omega, by show rb < _; omega, by show r < _; omega⟩, fun z hz => by have := h4.lowZ z hz; omega⟩, k6.heap hT1.tx ((hav [173] (by simp)).ne hT1.tx (by simp)),
        ⟨ha2.mg.ver, hT1.buf.keep k6 ((hav [272] (by simp)).ne hT1.buf.1 (by simp)) (nmap hT1.buf.2), hv1.keep k6 (hav _ (by simp)), hs1.keep k6 (hav _ (by simp))⟩, b2, b3, b1⟩
    have hch : Chg [] w w6 := (kk4.trans k5 (fun x hx hlt => by simp at hx; have := kk2.size; have := h4.ap; simp; omega)).trans k6 (fun x hx hlt => by simp at hx; have := kk2.size; omega)
    have HF := Lib.hid hfin
    have HC := Lib.hid hch
    have HB := Lib.hid (show z0 ≤ w4.heap.size by have := kk4.size; omega)
    clear h4 ha ha2 hd hd1 hG1 k5 k6 hM1 hT1 hP1 hav nmap hfin hch hv1 hs1 kk4 kk3 kk2
    go_wp2_with fail
    try simp only [Exit.inBlock, Exit.then]
    refine bodyPost_ret (res4 rfl _ _) rfl ?_
    exact ⟨_, _, G, rfl, HC.out, HF.out, by rw [hz0]; exact HB.out⟩
end Go.Proofs.YtfodeeejolkkfaaGreat
namespace Go.Proofs.YtfodeeejolkkfaaGreat
open Go.RowKit Go.Lib

set_option maxRecDepth 100000 in
set_option maxHeartbeats 2000000 in
theorem awake27 (w : World) : Calls Tryz.prog 35 #[] w fun e w' => e = .returned (.bool true) ∧ Chg [] w w' := by
  have hq : ∀ w, (binOp .eql 42 (.float .f64 0) (.float .f64 0)).run Tryz.prog w = .ok (.bool true) w := fun w => by kernel_rfl
  go_enter Tryz.func35, Tryz.ntmps35
  go_wp2_with fail
  refine (fresh27_nil w).mono ?_
  rintro e w1 ⟨base, d, G, rfl, k1, h1, hb⟩
  have HQ := Lib.hid (show Calls Tryz.prog 33 #[.pointer (some ⟨d.P, 0, none⟩), .int .i64 1, .int .i64 0, .int .i64 20] w1 (fun e w' => ∃ m' l', e = .returned (.tuple #[.float .f64 0, .int .i64 0]) ∧ Ow base w1 w' ∧ Sz w' base d m' l' ∧ Ext l' (0 : Nat) 0 ∧ m' ≤ 0 + 258) from qsum_ok w1 (f := 0) (n := 20) h1 (Or.inl rfl) (by omega) (by omega) (by omega))
  clear h1
  go_wp2_with fail
  refine HQ.out.mono ?_
  rintro e w2 ⟨m', l', rfl, k2, h2, hx, hm⟩
  have HN := Lib.hid (show Calls Tryz.prog 75 #[.pointer (some ⟨d.P, 0, none⟩), .int .i64 1, .int .i64 3, .int .i64 20, .int .i64 6] w2 (fun e w' => e = .returned (.tuple #[.int .i64 20, .int .i64 0]) ∧ Ow base w2 w') from qcount_ok w2 (f := 3) (n := 20) h2 hx (by omega) (by omega) (by omega))
  clear HQ h2 hx
  go_wp2_with fail
  refine HN.out.mono ?_
  rintro e w3 ⟨rfl, k3⟩
  have HC := Lib.hid (Ow.chg0 k1 (k2.trans k3) hb)
  clear HN k1 k2 k3
  go_wp2_with fail
  go_ret
  exact ⟨rfl, HC.out⟩
end Go.Proofs.YtfodeeejolkkfaaGreat
namespace Go.Proofs.YtfodeeejolkkfaaGreat
open Go.RowKit Go.Lib

set_option maxRecDepth 100000 in
theorem topen_two (w : World) {M X rx B rb r T : Nat} {last : Int} {Lb : List (Int × Value)} (h : Mg w M X rx B rb r last Lb [(1, .pointer (some ⟨T, 0, none⟩))]) : Calls Tryz.prog 94 #[.pointer (some ⟨M, 0, none⟩), .int .i64 2] w fun e w' =>
    e = .returned (.pointer none) ∧ w = w' := by
  have HG := Lib.hid (tgone_any w h.mgr)
  have c2 := h.cells.2.2.1
  have hl : (Instr.lookup 178 (.map (some r)) (.int .i64 2) true).run Tryz.prog w = .ok (.tuple #[.pointer none, .bool false]) w := lookup178 h.map 2 true
  clear h
  go_enter Tryz.func94, Tryz.ntmps94
  go_wp2_with fail
  refine HG.out.mono ?_
  rintro e w1 ⟨rfl, rfl⟩
  go_wp2_with fail
  go_ret
  exact ⟨rfl, rfl⟩
set_option maxRecDepth 100000 in
set_option maxHeartbeats 2000000 in
theorem tread_two (w : World) {base : Nat} {d : Ids} {m : Nat} {l : List (Int × Int)} {b n : Int} (h : Sz w base d m l) :
    Calls Tryz.prog 125 #[.pointer (some ⟨d.M, 0, none⟩), .int .i64 2, .agg #[.int .i64 b, .int .i64 n]] w fun e w' => e = .returned (.tuple #[.slice none 0 0, .int .i64 5]) ∧ Chg [] w w' := by
  have k0 : Chg [] w (w.alloc (.cells #[.int .i64 b, .int .i64 n] 117)) := Chg.alloc w _
  have h2 := h.keep k0
  have HO := Lib.hid (topen_two _ h2.sta.mg)
  clear h h2
  go_enter Tryz.func125, Tryz.ntmps125
  go_wp2_with fail
  generalize w.alloc (.cells #[.int .i64 b, .int .i64 n] 117) = w1 at *
  refine HO.out.mono ?_
  rintro e w2 ⟨rfl, rfl⟩
  go_wp2_with fail
  go_ret2
  exact ⟨rfl, k0⟩
set_option maxRecDepth 100000 in
set_option maxHeartbeats 2000000 in
theorem sread_two (w : World) {base : Nat} {d : Ids} {m : Nat} {l : List (Int × Int)} {b n : Int} (h : Sz w base d m l) :
    Calls Tryz.prog 66 #[.pointer (some ⟨d.P, 0, none⟩), .int .i64 2, .agg #[.int .i64 b, .int .i64 n]] w fun e w' => e = .returned (.tuple #[.slice none 0 0, .int .i64 5]) ∧ Chg [] w w' := by
  have k0 : Chg [] w (w.alloc (.cells #[.int .i64 b, .int .i64 n] 117)) := Chg.alloc w _
  have K0 := heap_new w (.cells #[.int .i64 b, .int .i64 n] 117)
  have h2 := h.keep k0
  have HO := Lib.hid (dead_any _ h2.sta.store)
  clear h
  go_enter Tryz.func66, Tryz.ntmps66
  go_wp2_with fail
  generalize w.alloc (.cells #[.int .i64 b, .int .i64 n] 117) = w1 at *
  generalize hK : w.heap.size = K at *
  refine HO.out.mono ?_
  rintro e w2 ⟨rfl, rfl⟩
  have t5 : w1.cell? ⟨d.P, 5, none⟩ = some (.pointer (some ⟨d.M, 0, none⟩)) := cell_is h2.sta.store 5 rfl
  have a0 : w1.cell? ⟨K, 0, none⟩ = some (.int .i64 b) := cell_is K0 0 rfl
  have a1 : w1.cell? ⟨K, 1, none⟩ = some (.int .i64 n) := cell_is K0 1 rfl
  go_wp2_with fail
  have h3 := h2.keep (Chg.refl [] w1).drew
  go_region_held3 (fun wx => wx.cell? ⟨d.P, 5, none⟩ = some (.pointer (some ⟨d.M, 0, none⟩)) ∧ wx.cell? ⟨K, 0, none⟩ = some (.int .i64 b) ∧ wx.cell? ⟨K, 1, none⟩ = some (.int .i64 n))
    (first | (exact ⟨t5, a0, a1⟩) | (exact ⟨k6.cell t5 (by simp), k6.cell a0 (by simp), k6.cell a1 (by simp)⟩))
    (first | (go_at_call 125; refine (tread_two w1.drew h3).mono ?_; rintro e w6 ⟨rfl, k6⟩))
  have how := k0.drew.trans k6 (fun x hx => by cases hx)
  clear h2 h3 k6
  go_wp2_with fail
  go_ret2
  exact ⟨rfl, how⟩
end Go.Proofs.YtfodeeejolkkfaaGreat
