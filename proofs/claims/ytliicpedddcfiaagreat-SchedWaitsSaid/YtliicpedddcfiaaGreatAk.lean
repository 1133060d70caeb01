/- Lemmas and walks: Walks: a set of one block: what it has (ival.Add, Has); a transaction's puts against a set (valid.Against). Printed by mkUc.py in its first part. Walks: a transaction's puts against a set (valid.Against); a transaction that writes one block is checked against those that wait (valid.Check). Walks: a transaction that writes one block is committed beside others that wait. Printed by mkUe.py. Walks: how many of a queue make the next batch (batch.Form); the next batch (txn.Batch): of any queue. Walks: the next batch (txn.Batch), of any queue. Printed by mkMb.py. Walks: whether a batch of any transactions may be: their order (valid.Order), how many blocks it has (batch.Blocks). Walks: whether a batch may be (batch.Check), of any transactions. Walks: a batch of any transactions as blocks (batch.Encode). Walks: a batch of any transactions is written (store.write). Printed by mkMf.py. -/
import Derived.Test.YtliicpedddcfiaaGreatAg
import Derived.Test.YtliicpedddcfiaaGreatAh
import Derived.Test.YtliicpedddcfiaaGreatAj
namespace Go.Proofs.YtliicpedddcfiaaGreat
open Go.RowKit Go.Lib

theorem putsL_one (k : Int) (v : Value) (D : Int → List UInt8) : putsL [(k, v)] D = [(k, D k)] := by simp [putsL, sortI]

/-- a set of these spans, exactly. -/
def SpM (w : World) (base V most : Nat) (l : List (Int × Int)) : Prop := ∃ v, w.heap[V]? = some (.cells #[.int .i64 most, v] 313 (0, 0)) ∧ w.ownsRow base 197 2 v l.length (spCells l)
theorem SpM.keep0 {w w' : World} {base V most : Nat} {l : List (Int × Int)} (h : SpM w base V most l) (hc : Chg [] w w') : SpM w' base V most l := by
  obtain ⟨v, h1, h2⟩ := h
  exact ⟨v, hc.heap h1 (by simp), own_keep h2 hc.below0⟩
theorem SpM.weak {w : World} {base V most n : Nat} {l : List (Int × Int)} (h : SpM w base V most l) (hn : l.length ≤ n) : SpW w base V most n := by
  obtain ⟨v, h1, h2⟩ := h
  exact ⟨v, l, h1, hn, h2⟩
theorem SpW.zero {w : World} {base V most : Nat} (h : SpW w base V most 0) : SpM w base V most [] := by
  obtain ⟨v, l, h1, h2, h3⟩ := h
  have : l = [] := List.eq_nil_of_length_eq_zero (by omega)
  subst this
  exact ⟨v, h1, h3⟩
/-- no span, or one that a new one meets from within or at its end. -/
def Ext (l : List (Int × Int)) (b _n : Int) : Prop := l = [] ∨ ∃ a k, l = [(a, k)] ∧ 0 ≤ a ∧ a ≤ b ∧ b ≤ a + k ∧ a + k ≤ 258
def addSp (l : List (Int × Int)) (b n : Int) : List (Int × Int) :=
  match l with
  | [] => [(b, n)]
  | (a, k) :: _ => [(a, max k (b + n - a))]
theorem addSp_len (l : List (Int × Int)) (b n : Int) : (addSp l b n).length = 1 := by
  unfold addSp
  split <;> rfl
theorem Ext.len {l : List (Int × Int)} {b n : Int} (h : Ext l b n) : l.length ≤ 1 := by
  rcases h with rfl | ⟨a, k, rfl, _⟩ <;> simp
theorem sorted_one (p : Int × Int) : sortedOf [p] = [p] := by
  unfold sortedOf Sort.insertionSort
  rw [Sort.insOuter, if_neg (by simp)]
theorem sorted_two {p q : Int × Int} (h : p.1 ≤ q.1) : sortedOf [p, q] = [p, q] := by
  have hc : ltOf (fun x y : Int × Int => Lib.compareInt x.1 y.1) q p = false := by
    unfold ltOf Lib.compareInt
    simp only [decide_eq_false_iff_not]
    split
    · omega
    · split <;> omega
  unfold sortedOf Sort.insertionSort
  rw [Sort.insOuter, if_pos (by simp), Sort.insOuter, if_neg (by simp)]
  simp [Sort.insInner, hc]
theorem join_ext {l : List (Int × Int)} {b n : Int} (hx : Ext l b n) (h0 : 0 ≤ b) (hn : 1 ≤ n) (h1 : b + n ≤ 258) : (sortedOf (l ++ [(b, n)])).foldl jstep [] = addSp l b n := by
  rcases hx with rfl | ⟨a, k, rfl, ha, hab, hbk, hk⟩
  · rw [List.nil_append, sorted_one]; rfl
  · rw [List.singleton_append, sorted_two (by exact hab)]
    show jstep [(a, k)] (b, n) = _
    rw [jstep_join (k := 0) (p := a) (q := k) rfl rfl rfl (by unfold wrap64; omega)]
    have e1 : wrap64 (b + n) = b + n := by unfold wrap64; omega
    have e2 : wrap64 (b + n - a) = b + n - a := by unfold wrap64; omega
    simp only [e1, e2, addSp, List.set_cons_zero]
set_option maxRecDepth 100000 in
theorem imay_x (w : World) {b n : Int} (h0 : 0 ≤ b) (hn : 1 ≤ n) (h1 : b + n ≤ 258) : Calls Tryz.prog 206 #[.agg #[.int .i64 b, .int .i64 n]] w fun e w' => e = .returned (.bool true) ∧ Chg [] w w' := by
  have kc : Chg [] w (w.alloc (.cells #[.int .i64 b, .int .i64 n] 197)) := Chg.alloc w _
  have n0 : decide (0 ≤ b) = true := decide_eq_true h0
  have n1 : decide (b ≤ 1048576) = true := decide_eq_true (by omega)
  have n2 : decide (1 ≤ n) = true := decide_eq_true hn
  have n3 : decide (n ≤ 1048576) = true := decide_eq_true (by omega)
  have hw : IntKind.i64.wrap (b + n) = b + n := by rw [IntKind.wrap_i64]; omega
  have n4 : decide (b + n ≤ 1048577) = true := decide_eq_true (by omega)
  go_enter Tryz.func206, Tryz.ntmps206
  go_wp2_with fail
  go_ret
  exact ⟨by first | rfl | (simp; omega), kc⟩
set_option maxRecDepth 100000 in
theorem inot_x (w : World) {b n : Int} (h0 : 0 ≤ b) (hn : 1 ≤ n) (h1 : b + n ≤ 258) : Calls Tryz.prog 205 #[.agg #[.int .i64 b, .int .i64 n]] w fun e w' => e = .returned (.bool false) ∧ Chg [] w w' := by
  have kc : Chg [] w (w.alloc (.cells #[.int .i64 b, .int .i64 n] 197)) := Chg.alloc w _
  go_enter Tryz.func205, Tryz.ntmps205
  go_wp2_with fail
  refine (imay_x _ h0 hn h1).mono ?_
  rintro e w2 ⟨rfl, k2⟩
  go_wp2_with fail
  go_ret
  exact ⟨rfl, kc.then k2⟩
set_option maxRecDepth 100000 in
theorem iall_x (w : World) {E eo cp : Nat} {b n : Int} (h0 : 0 ≤ b) (hn : 1 ≤ n) (h1 : b + n ≤ 258) (e0 : w.cell? ⟨E, eo, none⟩ = some (.int .i64 b)) (e1 : w.cell? ⟨E, eo + 1, none⟩ = some (.int .i64 n)) : Calls Tryz.prog 195 #[.slice (some ⟨E, eo, none⟩) 1 cp] w fun e w' => e = .returned (.bool true) ∧ Chg [] w w' := by
  go_enter Tryz.func195, Tryz.ntmps195
  go_wp2_with fail
  refine (contspan_one w e0 e1 (inot_x w h0 hn h1)).mono ?_
  rintro e w2 ⟨rfl, k2⟩
  go_wp2_with fail
  go_ret
  exact ⟨rfl, k2⟩
set_option maxRecDepth 100000 in
set_option maxHeartbeats 2000000 in
theorem iadd_extm (w : World) {base V E cp most : Nat} {b n : Int} {l : List (Int × Int)} (h : SpM w base V most l) (hmost : 1 ≤ most) (hx : Ext l b n) (hbase : base ≤ w.heap.size) (h0 : 0 ≤ b) (hn : 1 ≤ n) (h1 : b + n ≤ 258) (e0 : w.cell? ⟨E, 0, none⟩ = some (.int .i64 b)) (e1 : w.cell? ⟨E, 1, none⟩ = some (.int .i64 n)) :
    Calls Tryz.prog 178 #[.pointer (some ⟨V, 0, none⟩), .slice (some ⟨E, 0, none⟩) 1 cp] w fun e w' => e = .returned (.int .i64 0) ∧ Chg [V] w w' ∧ SpM w' base V most (addSp l b n) := by
  have hmi : (1 : Int) ≤ most := by omega
  have HJ := Lib.hid (join_ext hx h0 hn h1)
  have hl := hx.len
  obtain ⟨v, hV, ho⟩ := h
  obtain ⟨pa, c, rfl, hq⟩ := own_spq ho
  have hE : SpQ w (some ⟨E, 0, none⟩) [(b, n)] := Or.inr ⟨E, 0, rfl, fun j u hu => by
    rw [Nat.zero_add]
    match j with
    | 0 => cases hu; exact e0
    | 1 => cases hu; exact e1
    | j + 2 => simp [spCells] at hu⟩
  have v1 : w.cell? ⟨V, 1, none⟩ = some (.slice pa l.length c) := cell_is hV 1 rfl
  go_enter Tryz.func178, Tryz.ntmps178
  go_wp2_with fail
  refine (iall_x w (cp := cp) h0 hn h1 e0 e1).mono ?_
  rintro e w1 ⟨rfl, k1⟩
  have v2 := k1.cell v1 (by simp)
  have hq2 := hq.keep k1
  have hE2 := hE.keep k1
  have hV2 := k1.heap hV (by simp)
  have ho2 := ownsRow_chg ho k1
  clear e0 e1 v1 hV hq hE ho
  go_wp2_with fail
  have kx : Chg [] w1 (w1.alloc (.cells #[.slice pa l.length c, .slice (some ⟨E, 0, none⟩) 1 cp] 311)) := Chg.alloc _ _
  have x0 : (w1.alloc (.cells #[.slice pa l.length c, .slice (some ⟨E, 0, none⟩) 1 cp] 311)).cell? ⟨w1.heap.size, 0, none⟩ = some (.slice pa l.length c) := cell_is (heap_new w1 _) 0 rfl
  have x1 : (w1.alloc (.cells #[.slice pa l.length c, .slice (some ⟨E, 0, none⟩) 1 cp] 311)).cell? ⟨w1.heap.size, 1, none⟩ = some (.slice (some ⟨E, 0, none⟩) 1 cp) := cell_is (heap_new w1 _) 1 rfl
  refine (concat_two _ x0 x1 rfl rfl (by omega) (by omega) (by omega) (hq2.keep kx) (hE2.keep kx)).mono ?_
  rintro e w2 ⟨v', rfl, k2, o2⟩
  obtain ⟨g, cap, cur, rfl, hgb, hgc, hgs, _, hgl⟩ := own_sp o2 (by simp)
  have k3 := (k1.then kx).then k2
  go_wp2_with fail
  refine (joined_fold w2 hgl (by omega) (by omega) hgs).mono ?_
  rintro e w3 ⟨v3, l3, rfl, k4, hl3, o3⟩
  rw [HJ.out] at hl3
  rw [hl3, addSp_len] at o3
  clear hl3
  have k5 := k3.then k4
  have hV3 : w3.heap[V]? = some (.cells #[.int .i64 most, .slice pa l.length c] 313 (0, 0)) := ((kx.then k2).then k4).heap hV2 (by simp)
  have c0 : w3.cell? ⟨V, 0, none⟩ = some (.int .i64 most) := cell_is hV3 0 rfl
  have c1 : w3.cell? ⟨V, 1, none⟩ = some (.slice pa l.length c) := cell_is hV3 1 rfl
  have f1 := unfrozen hV3 1
  obtain ⟨pq, cq, hv3, hcq⟩ := own_form o3
  subst hv3
  have hsz := k3.size
  have HF := Lib.hid (show SpM (w3.setCell ⟨V, 1, none⟩ (.slice pq 1 cq)) base V most (addSp l b n) from by
    refine ⟨_, heap_set hV3 1 _ rfl, ?_⟩
    have kk := Chg.set w3 V 1 (.slice pq 1 cq)
    refine ownsRow_base (base := w2.heap.size) ?_ (by omega)
    rw [addSp_len]
    refine ownsRow_chg o3 kk ?_
    intro x hx
    have := heap_lt hV2
    have := (kx.then k2).size
    simp at hx
    omega)
  clear k3 k4 o3 hV3 hV2 x0 x1 hgs hgc o2 hq2 hE2
  go_wp2_with fail
  go_ret
  exact ⟨rfl, (k5.mono (T := [V]) (fun x hx _ => by cases hx)).then (Chg.set w3 V 1 _), HF.out⟩
set_option maxRecDepth 100000 in
set_option maxHeartbeats 2000000 in
theorem bset_one (w : World) {W rw : Nat} {b : Int} {v : Value} {D : Int → List UInt8} (h : BufAt w W rw [(b, v)]) (hD : BufD w [(b, v)] D) (hb0 : 0 ≤ b) (hb1 : b < 258) : Calls Tryz.prog 200 #[.pointer (some ⟨W, 0, none⟩)] w fun e w' =>
    ∃ U lo, e = .returned (.pointer (some ⟨U, 0, none⟩)) ∧ Chg [] w w' ∧ SpM w' lo U 1 [(b, 1)] ∧ w.heap.size ≤ U := by
  have HP := Lib.hid (bputs_any w h hD (fun x hx => by rw [List.mem_singleton] at hx; rw [hx]; exact ⟨hb0, hb1⟩) (by simp))
  rw [putsL_one] at HP
  clear h hD
  go_enter Tryz.func200, Tryz.ntmps200
  go_wp2_with fail
  refine HP.out.mono ?_
  rintro e w1 ⟨v', rfl, k1, hp⟩
  obtain ⟨pa, c, rfl, hcap⟩ := own_form hp.choose_spec.1
  have HPt := Lib.hid hp
  clear hp
  go_wp2_with fail
  refine (inewm_any w1 1).mono ?_
  rintro e w2 ⟨U, rfl, k2, hU, lU⟩
  have HPt2 := Lib.hid (HPt.out.keep0 k2)
  have hU0 := hU.zero
  have HU := Lib.hid hU0
  have HKs := Lib.hid (And.intro k1 k2)
  clear hU hU0 k1 k2
  go_wp2_with fail
  go_loopw [6, 14] (fun _ i wr => (i = .int .i64 0 ∧ wr = w2) ∨ (i = .int .i64 1 ∧ Chg [U] w2 wr ∧ SpM wr w1.heap.size U 1 [(b, 1)])) (fun _ i _ => 1 - (intOf i).toNat)
  case atStart => exact Or.inl ⟨rfl, rfl⟩
  case round =>
    rcases hrel with ⟨rfl, rfl⟩ | ⟨rfl, kr, hs⟩
    · obtain ⟨g, cap, gd, cd, hv, hcc, d0, d1, -, -, -⟩ := HPt2.out.get 0 (by simp)
      have hpa : pa = some ⟨g, 0, none⟩ := by injection hv
      subst hpa
      have e0 : wr.cell? ⟨g, 0, none⟩ = some (.int .i64 b) := d0
      have e1 : wr.cell? ⟨g, 1, none⟩ = some (.slice (some ⟨gd, 0, none⟩) 40 cd) := d1
      have hcc1 : (1 : Int) ≤ c := by have : 1 ≤ c := hcap; omega
      clear hv hcc d0 d1 hcap
      go_wp2_with fail
      have kA : Chg [] wr ((wr.alloc (.cells #[.int .i64 b, .slice (some ⟨gd, 0, none⟩) 40 cd] 37)).alloc (.cells #[.int .i64 b, .int .i64 1] 197)) := chg_two wr _ _
      have hE := (two_new wr (.cells #[.int .i64 b, .slice (some ⟨gd, 0, none⟩) 40 cd] 37) (.cells #[.int .i64 b, .int .i64 1] 197)).2
      refine (iadd_extm _ (HU.out.keep0 kA) (by decide) (Or.inl rfl) (by have := kA.size; have := HKs.out.2.size; omega) hb0 (by decide) (by omega) (cell_is hE 0 rfl) (cell_is hE 1 rfl)).mono ?_
      rintro e w3 ⟨rfl, k3, hs3⟩
      have hs4 : SpM w3 w1.heap.size U 1 [(b, 1)] := by simpa [addSp] using hs3
      have HF := Lib.hid (And.intro ((kA.mono (T := [U]) (fun x hx _ => by cases hx)).then k3) hs4)
      clear hE kA e0 e1 k3 hs3 hs4
      go_wp2_with fail
      go_roundw
      case rel => exact Or.inr ⟨rfl, HF.out⟩
      case measure => decide
    · have HS := Lib.hid (And.intro kr hs)
      clear kr hs
      go_wp2_with fail
      go_ret
      exact ⟨U, _, rfl, (HKs.out.1.then HKs.out.2).trans HS.out.1 (fun x hx hlt => by rw [List.mem_singleton] at hx; have := HKs.out.1.size; omega), HS.out.2, by have := HKs.out.1.size; omega⟩
/-- spans of one block each, none of them c. -/
def NotIn (l : List (Int × Int)) (c : Int) : Prop := ∀ p ∈ l, p.2 = 1 ∧ 0 ≤ p.1 ∧ p.1 < 258 ∧ p.1 ≠ c
set_option maxRecDepth 100000 in
theorem meet_ne (w : World) {a c : Int} (h0 : 0 ≤ a) (h1 : a < 258) (h2 : 0 ≤ c) (h3 : c < 258) (hn : a ≠ c) : Calls Tryz.prog 234 #[.agg #[.int .i64 a, .int .i64 1], .agg #[.int .i64 c, .int .i64 1]] w fun e w' => e = .returned (.bool false) ∧ Chg [] w w' := by
  have y := two_new w (.cells #[.int .i64 a, .int .i64 1] 197) (.cells #[.int .i64 c, .int .i64 1] 197)
  have hc := chg_two w (.cells #[.int .i64 a, .int .i64 1] 197) (.cells #[.int .i64 c, .int .i64 1] 197)
  have a0 := cell_is y.1 0 rfl
  have a1 := cell_is y.1 1 rfl
  have c0 := cell_is y.2 0 rfl
  have c1 := cell_is y.2 1 rfl
  clear y
  by_cases h4 : a < c + 1
  · have d1 : decide (a < c + 1) = true := decide_eq_true h4
    have d2 : decide (c < a + 1) = false := decide_eq_false (by omega)
    go_enter Tryz.func234, Tryz.ntmps234
    go_wp2_with fail
    go_ret
    exact ⟨by first | rfl | simp, hc⟩
  · have d1 : decide (a < c + 1) = false := decide_eq_false h4
    go_enter Tryz.func234, Tryz.ntmps234
    go_wp2_with fail
    go_ret
    exact ⟨by first | rfl | simp, hc⟩
set_option maxRecDepth 100000 in
theorem meets1_ne (w : World) {z : Nat} {a c : Int} (hz : w.heap[z]? = some (.cells #[.int .i64 c, .int .i64 1] 197 (0, 0))) (h0 : 0 ≤ a) (h1 : a < 258) (h2 : 0 ≤ c) (h3 : c < 258) (hn : a ≠ c) : Calls Tryz.prog 233 #[.agg #[.int .i64 a, .int .i64 1], .pointer (some ⟨z, 0, none⟩)] w fun e w' => e = .returned (.bool false) ∧ Chg [] w w' := by
  have kA : Chg [] w (w.alloc (.cells #[.int .i64 a, .int .i64 1] 197)) := Chg.alloc w _
  have y := heap_new w (.cells #[.int .i64 a, .int .i64 1] 197)
  have a0 := cell_is y 0 rfl
  have a1 := cell_is y 1 rfl
  have hz2 := kA.heap hz (by simp)
  have c0 := cell_is hz2 0 rfl
  have c1 := cell_is hz2 1 rfl
  have HM := Lib.hid (meet_ne (w.alloc (.cells #[.int .i64 a, .int .i64 1] 197)) h0 h1 h2 h3 hn)
  clear y hz hz2
  go_enter Tryz.func233, Tryz.ntmps233
  go_wp2_with fail
  refine HM.out.mono ?_
  rintro e w1 ⟨rfl, k1⟩
  have HK := Lib.hid (kA.then k1)
  clear k1 kA
  go_wp2_with fail
  go_ret
  exact ⟨rfl, HK.out⟩
set_option maxRecDepth 100000 in
set_option maxHeartbeats 2000000 in
theorem idx_spans (w : World) {z m cp : Nat} {pa : Option Addr} {c : Int} {l : List (Int × Int)} (hz : w.heap[z]? = some (.cells #[.int .i64 c, .int .i64 1] 197 (0, 0))) (hs : SpQ w pa l) (hl : l.length = m) (hm : m ≤ 1000) (hmc : m ≤ cp) (h2 : 0 ≤ c) (h3 : c < 258) (hn : NotIn l c) :
    Calls Tryz.prog 217 #[.slice pa m cp, .func (.func 233) #[] #[.pointer (some ⟨z, 0, none⟩)]] w fun e w' => e = .returned (.int .i64 (-1)) ∧ Chg [] w w' := by
  have HS := Lib.hid hs
  have HZ := Lib.hid hz
  have HN := Lib.hid hn
  clear hs hz hn
  go_enter Tryz.func217, Tryz.ntmps217
  go_wp2_with fail
  go_loopw [8] (fun i wr => ∃ j : Nat, j ≤ m ∧ i = .int .i64 j ∧ Chg [] w wr) (fun i _ => m - (intOf i).toNat)
  case atStart => exact ⟨0, by omega, rfl, Chg.refl _ _⟩
  case round =>
    obtain ⟨j, hj, rfl, kr⟩ := hrel
    by_cases hlt : j < m
    · have hjl : j < l.length := by omega
      obtain ⟨b, o, hpa, d0, d1⟩ := (HS.out.keep kr).get j hjl
      subst hpa
      obtain ⟨n1, n2, n3, n4⟩ := HN.out _ (List.getElem_mem hjl)
      rw [n1] at d1
      have HC := Lib.hid (meets1_ne wr (kr.heap HZ.out (by simp)) n2 n3 h2 h3 n4)
      have HK := Lib.hid kr
      have hji : (j : Int) < m := by omega
      have hmi : (m : Int) ≤ cp := by omega
      clear n1 n2 n3 n4 kr
      generalize (l[j]).1 = x at *
      go_wp2_with fail
      refine HC.out.mono ?_
      rintro e w2 ⟨rfl, k2⟩
      have HK2 := Lib.hid (HK.out.then k2)
      clear k2
      go_wp2_with fail
      go_roundw
      case rel => exact ⟨j + 1, by omega, by go_num, HK2.out⟩
      case measure => simp [intOf]; omega
    · obtain rfl : j = m := by omega
      go_wp2_with fail
      go_ret
      exact ⟨rfl, kr⟩
set_option maxRecDepth 100000 in
set_option maxHeartbeats 2000000 in
theorem has_not (w : World) {base U most : Nat} {c : Int} {l : List (Int × Int)} (h : SpM w base U most l) (hl : l.length ≤ 1000) (h2 : 0 ≤ c) (h3 : c < 258) (hn : NotIn l c) : Calls Tryz.prog 220 #[.pointer (some ⟨U, 0, none⟩), .int .i64 c] w fun e w' => e = .returned (.bool false) ∧ Chg [] w w' := by
  have HM : Hid (Calls Tryz.prog 229 #[.pointer (some ⟨U, 0, none⟩), .agg #[.int .i64 c, .int .i64 1]] w fun e w' => e = .returned (.bool false) ∧ Chg [] w w') := Lib.hid (by
    obtain ⟨v, hV, ho⟩ := h
    obtain ⟨pa, cp, rfl, hq⟩ := own_spq ho
    obtain ⟨_, _, e', hcp⟩ := own_form ho
    cases e'
    have kA : Chg [] w (w.alloc (.cells #[.int .i64 c, .int .i64 1] 197)) := Chg.alloc w _
    have y := heap_new w (.cells #[.int .i64 c, .int .i64 1] 197)
    have c0 := cell_is y 0 rfl
    have c1 := cell_is y 1 rfl
    have HMy := Lib.hid (imay_x (w.alloc (.cells #[.int .i64 c, .int .i64 1] 197)) h2 (show (1 : Int) ≤ 1 by decide) (show c + 1 ≤ 258 by omega))
    have u1 : (w.alloc (.cells #[.int .i64 c, .int .i64 1] 197)).cell? ⟨U, 1, none⟩ = some (.slice pa l.length cp) := kA.cell (cell_is hV 1 rfl) (by simp)
    have HQ := Lib.hid (hq.keep kA)
    have HY := Lib.hid y
    have HKA := Lib.hid kA
    clear hV ho hq kA y
    go_enter Tryz.func229, Tryz.ntmps229
    go_wp2_with fail
    generalize w.alloc (.cells #[.int .i64 c, .int .i64 1] 197) = w1 at *
    generalize w.heap.size = z at *
    refine HMy.out.mono ?_
    rintro e w2 ⟨rfl, k2⟩
    have u2 := k2.cell u1 (by simp)
    have HIx := Lib.hid (idx_spans w2 (k2.heap HY.out (by simp)) (HQ.out.keep k2) rfl hl hcp h2 h3 hn)
    have HK2 := Lib.hid (HKA.out.then k2)
    have HCt : Hid (Calls Tryz.prog 204 #[.slice pa l.length cp, .func (.func 233) #[] #[.pointer (some ⟨z, 0, none⟩)]] w2 fun e w' => e = .returned (.bool false) ∧ Chg [] w2 w') := Lib.hid (by
      clear k2 u2 u1 c0 c1 HY
      go_enter Tryz.func204, Tryz.ntmps204
      go_wp2_with fail
      refine HIx.out.mono ?_
      rintro e w3 ⟨rfl, k3⟩
      have HK3 := Lib.hid k3
      clear k3
      go_wp2_with fail
      go_ret
      exact ⟨rfl, HK3.out⟩)
    clear k2 u1 c0 c1
    go_wp2_with fail
    refine HCt.out.mono ?_
    rintro e w3 ⟨rfl, k3⟩
    have HK3 := Lib.hid (HK2.out.then k3)
    clear k3
    go_wp2_with fail
    go_ret
    exact ⟨rfl, HK3.out⟩)
  clear h
  go_enter Tryz.func220, Tryz.ntmps220
  go_wp2_with fail
  refine HM.out.mono ?_
  rintro e w1 ⟨rfl, k1⟩
  have HK := Lib.hid k1
  clear k1
  go_wp2_with fail
  go_ret
  exact ⟨rfl, HK.out⟩
end Go.Proofs.YtliicpedddcfiaaGreat
namespace Go.Proofs.YtliicpedddcfiaaGreat
open Go.RowKit Go.Lib

set_option maxRecDepth 100000 in
theorem ag1_not (w : World) {base U most y cd : Nat} {pd : Option Addr} {c : Int} {l : List (Int × Int)} (h : SpM w base U most l) (hl : l.length ≤ 1000) (hy : w.cell? ⟨y, 0, none⟩ = some (.pointer (some ⟨U, 0, none⟩))) (h2 : 0 ≤ c) (h3 : c < 258) (hn : NotIn l c) :
    Calls Tryz.prog 219 #[.agg #[.int .i64 c, .slice pd 40 cd], .pointer (some ⟨y, 0, none⟩)] w fun e w' => e = .returned (.bool false) ∧ Chg [] w w' := by
  have kA : Chg [] w (w.alloc (.cells #[.int .i64 c, .slice pd 40 cd] 37)) := Chg.alloc w _
  have z := heap_new w (.cells #[.int .i64 c, .slice pd 40 cd] 37)
  have c0 := cell_is z 0 rfl
  have y0 := kA.cell hy (by simp)
  have HH := Lib.hid (has_not (w.alloc (.cells #[.int .i64 c, .slice pd 40 cd] 37)) (h.keep0 kA) hl h2 h3 hn)
  clear h hy z
  go_enter Tryz.func219, Tryz.ntmps219
  go_wp2_with fail
  refine HH.out.mono ?_
  rintro e w1 ⟨rfl, k1⟩
  have HK := Lib.hid (kA.then k1)
  clear k1 kA
  go_wp2_with fail
  go_ret
  exact ⟨rfl, HK.out⟩
set_option maxRecDepth 100000 in
set_option maxHeartbeats 2000000 in
theorem against_not (w : World) {base U most lo n cb : Nat} {pb : Option Addr} {k : Int} {l : List (Int × Int)} {p : List (Int × List UInt8)} (h : SpM w base U most l) (hl : l.length ≤ 1000) (hp : PutsAt w lo (.slice pb n cb) p) (hpl : p.length = n) (hn1 : n ≤ 1000) (hn : ∀ x ∈ p, 0 ≤ x.1 ∧ x.1 < 258 ∧ NotIn l x.1) :
    Calls Tryz.prog 215 #[.agg #[.int .i64 k, .slice pb n cb], .pointer (some ⟨U, 0, none⟩)] w fun e w' => e = .returned (.bool false) ∧ Chg [] w w' := by
  have y := two_new w (.cells #[.int .i64 k, .slice pb n cb] 176) (.cells #[.pointer (some ⟨U, 0, none⟩)] 256)
  have kA := chg_two w (.cells #[.int .i64 k, .slice pb n cb] 176) (.cells #[.pointer (some ⟨U, 0, none⟩)] 256)
  have x1 := cell_is y.1 1 rfl
  have hcb : n ≤ cb := by
    obtain ⟨xs, ho, -⟩ := hp
    obtain ⟨_, _, e, hc⟩ := own_form ho
    cases e
    omega
  have HI : Hid (∀ w2, Chg [] ((w.alloc (.cells #[.int .i64 k, .slice pb n cb] 176)).alloc (.cells #[.pointer (some ⟨U, 0, none⟩)] 256)) w2 → Calls Tryz.prog 138 #[.slice pb n cb, .func (.func 219) #[] #[.pointer (some ⟨w.heap.size + 1, 0, none⟩)]] w2 fun e w' => e = .returned (.int .i64 (-1)) ∧ Chg [] w2 w') := Lib.hid (by
    intro w2 k2
    have HP := Lib.hid (hp.keep0 (kA.then k2))
    have HS := Lib.hid (h.keep0 (kA.then k2))
    have HY := Lib.hid (k2.cell (cell_is y.2 0 (v := .pointer (some ⟨U, 0, none⟩)) rfl) (by simp))
    clear x1 y kA k2 hp h
    generalize w.heap.size + 1 = z at *
    go_enter Tryz.func138, Tryz.ntmps138
    go_wp2_with fail
    go_loopw [8] (fun i wr => ∃ j : Nat, j ≤ n ∧ i = .int .i64 j ∧ Chg [] w2 wr) (fun i _ => n - (intOf i).toNat)
    case atStart => exact ⟨0, by omega, rfl, Chg.refl _ _⟩
    case round =>
      obtain ⟨j, hj, rfl, kr⟩ := hrel
      by_cases hlt : j < n
      · have hjp : j < p.length := by omega
        obtain ⟨g, cap, gd, cd, hv, hcap, d0, d1, -, -, -⟩ := (HP.out.keep0 kr).get j hjp
        have hpb : pb = some ⟨g, 0, none⟩ := by injection hv
        subst hpb
        obtain ⟨n2, n3, n4⟩ := hn _ (List.getElem_mem hjp)
        have HC := Lib.hid (ag1_not wr (pd := some ⟨gd, 0, none⟩) (cd := cd) (HS.out.keep0 kr) hl (kr.cell HY.out (by simp)) n2 n3 n4)
        have HK := Lib.hid kr
        have hji : (j : Int) < n := by omega
        have hni : (n : Int) ≤ cb := by omega
        clear n2 n3 n4 kr hv hcap
        generalize (p[j]).1 = x at *
        go_wp2_with fail
        refine HC.out.mono ?_
        rintro e w3 ⟨rfl, k3⟩
        have HK3 := Lib.hid (HK.out.then k3)
        clear k3
        go_wp2_with fail
        go_roundw
        case rel => exact ⟨j + 1, by omega, by go_num, HK3.out⟩
        case measure => simp [intOf]; omega
      · obtain rfl : j = n := by omega
        go_wp2_with fail
        go_ret
        exact ⟨rfl, kr⟩)
  have HC : Hid (∀ w2, Chg [] ((w.alloc (.cells #[.int .i64 k, .slice pb n cb] 176)).alloc (.cells #[.pointer (some ⟨U, 0, none⟩)] 256)) w2 → Calls Tryz.prog 114 #[.slice pb n cb, .func (.func 219) #[] #[.pointer (some ⟨w.heap.size + 1, 0, none⟩)]] w2 fun e w' => e = .returned (.bool false) ∧ Chg [] w2 w') := Lib.hid (by
    intro w2 k2
    have HI2 := Lib.hid (HI.out w2 k2)
    clear HI k2 x1 y kA hp h
    generalize w.heap.size + 1 = z at *
    go_enter Tryz.func114, Tryz.ntmps114
    go_wp2_with fail
    refine HI2.out.mono ?_
    rintro e w3 ⟨rfl, k3⟩
    have HK3 := Lib.hid k3
    clear k3
    go_wp2_with fail
    go_ret
    exact ⟨rfl, HK3.out⟩)
  have HKA := Lib.hid kA
  have HC1 := Lib.hid (HC.out _ (Chg.refl _ _))
  clear HI HC y kA hp h
  go_enter Tryz.func215, Tryz.ntmps215
  go_wp2_with fail
  refine HC1.out.mono ?_
  rintro e w3 ⟨rfl, k3⟩
  have HK3 := Lib.hid (HKA.out.then k3)
  clear k3
  go_wp2_with fail
  go_ret
  exact ⟨rfl, HK3.out⟩
set_option maxRecDepth 100000 in
set_option maxHeartbeats 8000000 in
theorem check_many (w : World) {lo X rx lo1 U1 m1 lo2 U2 m2 lq n cq : Nat} {pq : Option Addr} {last t b : Int} {Lv : List (Int × Value)} {vs : Int → List (Int × List UInt8)} {q : List (Nat × List (Int × List UInt8))} (h : VerG w lo X rx last Lv vs) (ho : OldV Lv vs t) (hr : SpM w lo1 U1 m1 []) (hw : SpM w lo2 U2 m2 [(b, 1)]) (hb0 : 0 ≤ b) (hb1 : b < 258)
    (hq : TxsAt w lq (.slice pq n cq) q) (hqn : q.length = n) (hn1 : n ≤ 1000) (hql : ∀ x ∈ q, x.2.length ≤ 16 ∧ ∀ p ∈ x.2, 0 ≤ p.1 ∧ p.1 < 258 ∧ p.1 ≠ b) :
    Calls Tryz.prog 198 #[.pointer (some ⟨X, 0, none⟩), .slice pq n cq, .int .i64 t, .pointer (some ⟨U1, 0, none⟩), .pointer (some ⟨U2, 0, none⟩)] w fun e w' => e = .returned (.int .i64 0) ∧ Chg [] w w' := by
  have HC := Lib.hid (count_any w (hw.weak (n := 1) (by simp)) (by decide))
  have HV := Lib.hid h
  have HOl := Lib.hid ho
  have HR := Lib.hid hr
  have HW := Lib.hid hw
  have HQq := Lib.hid hq
  have HQl := Lib.hid hql
  have hcq : n ≤ cq := by
    obtain ⟨xs, ho, -⟩ := hq
    obtain ⟨_, _, e, hc⟩ := own_form ho
    cases e
    omega
  have hcqi : (n : Int) ≤ cq := by omega
  have hnb : ∀ l3 : List (Int × Int), l3 = [] ∨ l3 = [(b, 1)] → ∀ x ∈ q, ∀ p ∈ x.2, 0 ≤ p.1 ∧ p.1 < 258 ∧ NotIn l3 p.1 := fun l3 hl3 x hx p hp => by
    obtain ⟨a1, a2, a3⟩ := (hql x hx).2 p hp
    refine ⟨a1, a2, fun s hs => ?_⟩
    rcases hl3 with rfl | rfl
    · cases hs
    · rw [List.mem_singleton] at hs
      subst hs
      exact ⟨rfl, hb0, hb1, fun e => a3 e.symm⟩
  have HNb := Lib.hid hnb
  clear h ho hr hw hq hql hnb
  go_enter Tryz.func198, Tryz.ntmps198
  go_wp2_with fail
  go_step3
  go_wp2_with fail
  refine HC.out.mono ?_
  rintro e w1 ⟨⟨r, rfl⟩, k1⟩
  by_cases hr0 : r = 0
  · subst hr0
    go_wp2_with fail
    simp only [Exit.noGoto]
    go_ret
    exact ⟨rfl, k1⟩
  · go_wp2_with fail
    go_step3
    go_wp2_with fail
    have hrb : (r == 0) = false := by simpa using hr0
    rw [hrb]
    have hi0 : ∀ w, (Instr.index 330 (.agg #[.pointer (some ⟨U1, 0, none⟩), .pointer (some ⟨U2, 0, none⟩)]) (.int .i64 ((0 : Nat) : Int))).run Tryz.prog w = .ok (.pointer (some ⟨U1, 0, none⟩)) w := fun w => by kernel_rfl
    have hi1 : ∀ w, (Instr.index 330 (.agg #[.pointer (some ⟨U1, 0, none⟩), .pointer (some ⟨U2, 0, none⟩)]) (.int .i64 ((1 : Nat) : Int))).run Tryz.prog w = .ok (.pointer (some ⟨U2, 0, none⟩)) w := fun w => by kernel_rfl
    go_loopw [11, 13, 15, 17, 24] (fun e _ _ _ i wr => ∃ j : Nat, j ≤ 2 ∧ i = .int .i64 j ∧ e = .int .i64 0 ∧ Chg [] w1 wr) (fun _ _ _ _ i _ => 2 - (intOf i).toNat)
    case atStart => exact ⟨0, by omega, rfl, rfl, Chg.refl _ _⟩
    case round =>
      obtain ⟨j, hj, rfl, rfl, kr⟩ := hrel
      by_cases hj2 : j < 2
      · obtain ⟨U, lo3, m3, l3, hi, hS, hn3⟩ : ∃ U lo3 m3 l3, (∀ w, (Instr.index 330 (.agg #[.pointer (some ⟨U1, 0, none⟩), .pointer (some ⟨U2, 0, none⟩)]) (.int .i64 (j : Int))).run Tryz.prog w = .ok (.pointer (some ⟨U, 0, none⟩)) w) ∧ SpM wr lo3 U m3 l3 ∧ (l3 = [] ∨ l3 = [(b, 1)]) := by
          have kk := k1.then kr
          rcases (show j = 0 ∨ j = 1 by omega) with rfl | rfl
          · exact ⟨U1, _, _, _, hi0, HR.out.keep0 kk, Or.inl rfl⟩
          · exact ⟨U2, _, _, _, hi1, HW.out.keep0 kk, Or.inr rfl⟩
        have hl31 : l3.length ≤ 1 := by rcases hn3 with rfl | rfl <;> simp
        have HE := Lib.hid (extents_any wr (hS.weak (n := 1) hl31) (by decide))
        have HS3 := Lib.hid hS
        have HN3 := Lib.hid (HNb.out l3 hn3)
        clear hi0 hi1 hS hn3
        go_wp2_with fail
        refine HE.out.mono ?_
        rintro e w2 ⟨pb, m, cb, l, rfl, k2, hq, hl, hm⟩
        have HQ := Lib.hid hq
        clear hq
        go_wp2_with fail
        go_loopw [11, 15, 30] (fun e _ i wz => ∃ q : Nat, q ≤ m ∧ i = .int .i64 q ∧ e = .int .i64 0 ∧ Chg [] w2 wz) (fun _ _ i _ => m - (intOf i).toNat)
        case atStart => exact ⟨0, by omega, rfl, rfl, Chg.refl _ _⟩
        case round =>
          obtain ⟨qi, hqi, rfl, rfl, kz⟩ := hrel
          rename World => wz
          have kk : Chg [] w1 wz := (kr.then k2).then kz
          by_cases hqm : qi < m
          · obtain ⟨b', o, rfl, c0, c1⟩ := (HQ.out.keep kz).get qi (by omega)
            generalize (l[qi]'(by omega)).1 = x at *
            generalize (l[qi]'(by omega)).2 = y at *
            have ka : Chg [] wz (wz.alloc (.cells #[.int .i64 x, .int .i64 y] 197)) := Chg.alloc wz _
            have HWr := Lib.hid (written_old (wz.alloc (.cells #[.int .i64 x, .int .i64 y] 197)) (HV.out.keep ((k1.then kk).then ka)) x y t HOl.out)
            go_wp2_with fail
            refine HWr.out.mono ?_
            rintro e w5 ⟨rfl, k5⟩
            go_wp2_with fail
            go_roundw
            case rel => exact ⟨qi + 1, by omega, by simp, rfl, (kz.then ka).then k5⟩
            case measure => simp [intOf]; omega
          · obtain rfl : qi = m := by omega
            have HKk := Lib.hid kk
            have HKS := Lib.hid (HS3.out.keep0 (k2.then kz))
            have HKQ := Lib.hid (HQq.out.keep (k1.then kk))
            go_wp2_with fail
            go_loopw [11, 17, 41] (fun e _ i wy => ∃ s : Nat, s ≤ n ∧ i = .int .i64 s ∧ e = .int .i64 0 ∧ Chg [] wz wy) (fun _ _ i _ => n - (intOf i).toNat)
            case atStart => exact ⟨0, by omega, rfl, rfl, Chg.refl _ _⟩
            case round =>
              obtain ⟨s, hs, rfl, rfl, ky⟩ := hrel
              rename World => wy
              by_cases hsn : s < n
              · have hsq : s < q.length := by omega
                obtain ⟨g, pb', cb', hpv, d0, d1, hpp⟩ := (HKQ.out.keep ky).get s hsq
                subst hpv
                have hln := HQl.out _ (List.getElem_mem hsq)
                have hnn := HN3.out _ (List.getElem_mem hsq)
                have ka : Chg [] wy (wy.alloc (.cells #[.int .i64 (q[s].1 : Nat), .slice pb' q[s].2.length cb'] 176)) := Chg.alloc wy _
                have ya := heap_new wy (.cells #[.int .i64 (q[s].1 : Nat), .slice pb' q[s].2.length cb'] 176)
                have HAg := Lib.hid (against_not (wy.alloc (.cells #[.int .i64 (q[s].1 : Nat), .slice pb' q[s].2.length cb'] 176)) (k := (q[s].1 : Nat)) (HKS.out.keep0 (ky.then ka)) (by omega) (hpp.keep0 ka) rfl (by omega) hnn)
                have HKa := Lib.hid (ky.then ka)
                have y0 := cell_is ya 0 rfl
                have y1 := cell_is ya 1 rfl
                have hsi : (s : Int) < n := by omega
                clear hpp hln hnn ka ya ky
                generalize q[s].1 = kq at *
                generalize q[s].2.length = nq at *
                go_wp2_with fail
                refine HAg.out.mono ?_
                rintro e w5 ⟨rfl, k5⟩
                have HK5 := Lib.hid (HKa.out.then k5)
                clear k5
                go_wp2_with fail
                go_roundw
                case rel => exact ⟨s + 1, by omega, by go_num, rfl, HK5.out⟩
                case measure => simp [intOf]; omega
              · obtain rfl : s = n := by omega
                have HKy := Lib.hid (HKk.out.then ky)
                clear ky
                go_wp2_with fail
                go_roundw
                case rel => exact ⟨j + 1, by omega, by simp, rfl, HKy.out⟩
                case measure => simp [intOf]; omega
      · obtain rfl : j = 2 := by omega
        go_wp2_with fail
        simp only [Exit.noGoto]
        go_ret
        exact ⟨rfl, k1.then kr⟩
end Go.Proofs.YtliicpedddcfiaaGreat
namespace Go.Proofs.YtliicpedddcfiaaGreat
open Go.RowKit Go.Lib

set_option maxRecDepth 100000 in
set_option maxHeartbeats 4000000 in
theorem may_many (w : World) {M X B r cq lo rx T W rw Q V nq lq base : Nat} {pq : Option Addr} {out num bas last given lastv t : Int} {Lv : List (Int × Value)} {vs : Int → List (Int × List UInt8)} {Lr : List (Int × Value)} {b : Int} {v : Value} {xs : List Wt} {D : Int → List UInt8}
    (h : MgrG w M X B r (.slice pq nq cq) out num bas last given false) (hqo : w.ownsRow lq 3 1 (.slice pq nq cq) nq ((xs.map (fun x => x.h)).map encZ)) (hxn : xs.length = nq) (hn1 : nq ≤ 1000) (hr : MapAt w r Lr) (hx : ∀ x ∈ xs, WtOk w Lr x) (hxb : ∀ x ∈ xs, ∀ p ∈ putsL x.L x.D, p.1 ≠ b) (hg : given < 1099511627776) (hv : VerG w lo X rx lastv Lv vs) (ho : OldV Lv vs t) (hT : TxT w T W Q t) (hb : BufAt w W rw [(b, v)]) (hD : BufD w [(b, v)] D) (hb0 : 0 ≤ b) (hb1 : b < 258)
    (hV : VwT w base Q X W V t 0) (hS : SpV w base V 0) : Calls Tryz.prog 184 #[.pointer (some ⟨M, 0, none⟩), .pointer (some ⟨T, 0, none⟩)] w fun e w' => e = .returned (.int .i64 0) ∧ Chg [] w w' := by
  have m9 : w.cell? ⟨M, 9, none⟩ = some (.bool false) := cell_is h 9 rfl
  have m0 : w.cell? ⟨M, 0, none⟩ = some (.pointer (some ⟨X, 0, none⟩)) := cell_is h 0 rfl
  have m8 : w.cell? ⟨M, 8, none⟩ = some (.int .i64 given) := cell_is h 8 rfl
  have t3 : w.cell? ⟨T, 3, none⟩ = some (.int .i64 t) := cell_is hT 3 rfl
  have t4 : w.cell? ⟨T, 4, none⟩ = some (.pointer (some ⟨W, 0, none⟩)) := cell_is hT 4 rfl
  have t5 : w.cell? ⟨T, 5, none⟩ = some (.pointer (some ⟨Q, 0, none⟩)) := cell_is hT 5 rfl
  have kd : Chg [] w w.drew := (Chg.refl [] w).drew
  have HW := Lib.hid (waiting_many w.drew (kd.heap h (by simp)) (own_keep hqo kd.below0) hxn hn1 (hr.keep kd (by simp)) (fun x hx2 => (hx x hx2).keep kd))
  have hql : ∀ x ∈ wtL xs, x.2.length ≤ 16 ∧ ∀ p ∈ x.2, 0 ≤ p.1 ∧ p.1 < 258 ∧ p.1 ≠ b := fun x hx2 => by
    obtain ⟨y, hy, rfl⟩ := List.mem_map.1 hx2
    refine ⟨by show (putsL y.L y.D).length ≤ 16; rw [putsL_length]; exact (hx y hy).len, fun p hp => ?_⟩
    have h1 := putsL_in y.D (hx y hy).bk p hp
    exact ⟨h1.1, h1.2, hxb y hy p hp⟩
  have HQl := Lib.hid hql
  have HVw := Lib.hid (And.intro hV hS)
  have hS2 : ∀ wx, Chg [] w wx → wx.cell? ⟨M, 0, none⟩ = some (.pointer (some ⟨X, 0, none⟩)) ∧ wx.cell? ⟨T, 3, none⟩ = some (.int .i64 t) ∧ wx.cell? ⟨T, 4, none⟩ = some (.pointer (some ⟨W, 0, none⟩)) ∧ wx.cell? ⟨T, 5, none⟩ = some (.pointer (some ⟨Q, 0, none⟩)) :=
    fun wx k => ⟨k.cell m0 (by simp), k.cell t3 (by simp), k.cell t4 (by simp), k.cell t5 (by simp)⟩
  have HS2 := Lib.hid hS2
  have HBf := Lib.hid hb
  have HD := Lib.hid hD
  have HVr := Lib.hid hv
  have HOl := Lib.hid ho
  clear h hT hb hD hV hS hv ho hS2 hql hqo hr hx hxb
  go_enter Tryz.func184, Tryz.ntmps184
  go_upto_region 3 with fail
  go_region_held3 (fun wx => wx.cell? ⟨M, 0, none⟩ = some (.pointer (some ⟨X, 0, none⟩)) ∧ wx.cell? ⟨T, 3, none⟩ = some (.int .i64 t) ∧ wx.cell? ⟨T, 4, none⟩ = some (.pointer (some ⟨W, 0, none⟩)) ∧ wx.cell? ⟨T, 5, none⟩ = some (.pointer (some ⟨Q, 0, none⟩)))
    (first
      | (with_reducible exact HS2.out _ kF) | (with_reducible exact HS2.out _ k3) | (with_reducible exact HS2.out _ k2) | (with_reducible exact HS2.out _ k1) | (exact HS2.out _ kd))
    (first
      | (go_at_call 93; refine HW.out.mono ?_; rintro e w1 ⟨vq, rfl, k1', hq1⟩; obtain ⟨pv, cv, rfl, hcv⟩ := own_form hq1.choose_spec.1; have k1 := kd.then k1')
      | (go_at_call 199; refine (vset_any w1 (HVw.out.1.keep k1 (Av.nil _ _)) (HVw.out.2.keep0 k1) (by decide)).mono ?_; rintro e w2 ⟨U, loU, rfl, k2', hU, lU⟩; have k2 := k1.then k2')
      | (go_at_call 200; refine (bset_one w2 (HBf.out.keep k2 (by simp) (by simp)) (HD.out.keep k2) hb0 hb1).mono ?_; rintro e w3 ⟨U2, loU2, rfl, k3', hU2, lU2⟩; have k3 := k2.then k3'; have hU3 := hU.keep0 k3')
      | (go_at_call 198; refine (check_many w3 (HVr.out.keep k3) HOl.out hU3.zero hU2 hb0 hb1 (hq1.keep (k2'.then k3')) rfl (by rw [wtL_length]; omega) HQl.out).mono ?_; rintro e w4 ⟨rfl, k4⟩; have kF := k3.then k4))
  all_goals
    have m84 := kF.cell m8 (by simp)
    have hng : ¬ (given ≥ 1099511627776) := by omega
    clear HW HS2 HBf HD HVr HOl hU hU2 hU3
    go_wp2_with fail
    go_ret
    exact ⟨rfl, kF⟩
set_option maxRecDepth 100000 in
set_option maxHeartbeats 4000000 in
theorem tcommit_many (w : World) {d : Ids} {p : Par} {cq nq base loq : Nat} {pq : Option Addr} {out num bas last given : Int} {Lr : List (Int × Value)} {b : Int} {v : Value} {xs : List Wt} {D : Int → List UInt8}
    (hN : Need w d p) (hv0 : OldV p.Lv p.vs p.t) (h : MgrG w d.M d.X d.B d.r (.slice pq nq cq) out num bas last given false) (hg0 : 0 ≤ given) (hg : given < 1099511627776) (hq : w.ownsRow loq 3 1 (.slice pq nq cq) nq ((xs.map (fun x => x.h)).map encZ)) (hxn : xs.length = nq) (hn1 : nq ≤ 1000) (hr : MapAt w d.r Lr) (hx : ∀ x ∈ xs, WtOk w Lr x) (hxb : ∀ x ∈ xs, ∀ p ∈ putsL x.L x.D, p.1 ≠ b) (hlq : loq ≤ w.heap.size) (hT : TxT w d.T d.W d.Q p.t) (hb : BufAt w d.W d.rw [(b, v)]) (hD : BufD w [(b, v)] D) (hb0 : 0 ≤ b) (hb1 : b < 258)
    (hV : VwT w base d.Q d.X d.W d.V p.t 0) (hS : SpV w base d.V 0) : Calls Tryz.prog 151 #[.pointer (some ⟨d.M, 0, none⟩), .int .i64 p.h] w fun e w' =>
    ∃ g c, e = .returned (.int .i64 0) ∧ Chg (d.M :: d.T :: (Value.slice pq nq cq).ownBlock.toList) w w' ∧ MgrG w' d.M d.X d.B d.r (.slice (some ⟨g, 0, none⟩) (nq + 1) c) out num bas last (given + 1) false ∧ w'.ownsRow loq 3 1 (.slice (some ⟨g, 0, none⟩) (nq + 1) c) (nq + 1) ((xs.map (fun x => x.h)).map encZ ++ [.int .i64 p.h]) ∧ TxW w' d.T d.W d.Q (given + 1) p.t := by
  have HO := Lib.hid (topen_gen w hN hT)
  have t4 : w.cell? ⟨d.T, 4, none⟩ = some (.pointer (some ⟨d.W, 0, none⟩)) := cell_is hT 4 rfl
  have hk : ∀ x ∈ [(b, v)], 0 ≤ x.1 ∧ x.1 < 258 := fun x hx => by rw [List.mem_singleton] at hx; rw [hx]; exact ⟨hb0, hb1⟩
  have HLn := Lib.hid (blen_any w hb hD hk (by simp))
  have hver := hN.ver
  have HMy := Lib.hid (fun w1 (k : Chg [] w w1) => may_many w1 (k.heap h (by simp)) (own_keep hq k.below0) hxn hn1 (hr.keep k (by simp)) (fun x hx2 => (hx x hx2).keep k) hxb hg (hver.keep k) hv0 (k.heap hT (by simp)) (hb.keep k (by simp) (by simp)) (hD.keep k) hb0 hb1 (hV.keep k (Av.nil _ _)) (hS.keep0 k))
  have hMT : d.M ≠ d.T := heap_ne h hT (by simp)
  have HM := Lib.hid h
  have HT := Lib.hid hT
  have HQ := Lib.hid hq
  obtain ⟨xq, hxq⟩ : ∃ xq, xq = (xs.map (fun x => x.h)).map encZ := ⟨_, rfl⟩
  rw [← hxq] at HQ ⊢
  clear hN hb hD hV hS hver h hT hq hr hx hxb hk
  go_enter Tryz.func151, Tryz.ntmps151
  go_wp2_with fail
  refine HO.out.mono ?_
  rintro e w1 ⟨rfl, rfl⟩
  go_wp2_with fail
  refine HLn.out.mono ?_
  rintro e w1 ⟨rfl, k1⟩
  go_wp2_with fail
  refine (HMy.out w1 k1).mono ?_
  rintro e w2 ⟨rfl, k2'⟩
  have k2 := k1.then k2'
  have hM2 := k2.heap HM.out (by simp)
  have hT2 := k2.heap HT.out (by simp)
  have hq2 := ownsRow_av HQ.out k2 (Av.nil _ _)
  have hs2 := k2.size
  have m8 : w2.cell? ⟨d.M, 8, none⟩ = some (.int .i64 given) := cell_is hM2 8 rfl
  have f8 := unfrozen hM2 8
  have m3 : w2.cell? ⟨d.M, 3, none⟩ = some (.slice pq nq cq) := cell_is hM2 3 rfl
  have f3 := unfrozen hM2 3
  have t0 : w2.cell? ⟨d.T, 0, none⟩ = some (.int .i64 1) := cell_is hT2 0 rfl
  have t1 : w2.cell? ⟨d.T, 1, none⟩ = some (.int .i64 0) := cell_is hT2 1 rfl
  have ft0 := unfrozen hT2 0
  have ft1 := unfrozen hT2 1
  have hgw : wrap64 (given + 1) = given + 1 := by unfold wrap64; omega
  have kS := ((((Chg.refl [] w2).mono (T := [d.M, d.T]) (fun x hx _ => by cases hx)).then_set (g := d.M) (fun _ => by simp) 8 (.int .i64 (given + 1))).then_set (g := d.T) (fun _ => by simp) 0 (.int .i64 2)).then_set (g := d.T) (fun _ => by simp) 1 (.int .i64 (given + 1))
  have hMS : MgrG (((w2.setCell ⟨d.M, 8, none⟩ (.int .i64 (given + 1))).setCell ⟨d.T, 0, none⟩ (.int .i64 2)).setCell ⟨d.T, 1, none⟩ (.int .i64 (given + 1))) d.M d.X d.B d.r (.slice pq nq cq) out num bas last (given + 1) false :=
    heap_set_ne (heap_set_ne (heap_set hM2 8 _ rfl) hMT _ _) hMT _ _
  have hTS : TxW (((w2.setCell ⟨d.M, 8, none⟩ (.int .i64 (given + 1))).setCell ⟨d.T, 0, none⟩ (.int .i64 2)).setCell ⟨d.T, 1, none⟩ (.int .i64 (given + 1))) d.T d.W d.Q (given + 1) p.t :=
    heap_set (heap_set (heap_set_ne hT2 hMT.symm _ _) 0 _ rfl) 1 _ rfl
  have avS : Av w2 [d.M, d.T] [3] := fun x hx cs t fr hh => by
    simp at hx
    rcases hx with rfl | rfl
    · rw [show w2.heap[d.M]? = _ from hM2] at hh; cases hh; simp
    · rw [show w2.heap[d.T]? = _ from hT2] at hh; cases hh; simp
  have hqS := ownsRow_av hq2 kS avS
  clear HMy HLn HO k1 k2' t4
  go_upto_region 14 with fail
  have hsS : loq ≤ (((w2.setCell ⟨d.M, 8, none⟩ (.int .i64 (given + 1))).setCell ⟨d.T, 0, none⟩ (.int .i64 2)).setCell ⟨d.T, 1, none⟩ (.int .i64 (given + 1))).heap.size := by have := kS.size; omega
  clear m8 f8 m3 f3 t0 t1 ft0 ft1 avS hq2
  generalize ((w2.setCell ⟨d.M, 8, none⟩ (.int .i64 (given + 1))).setCell ⟨d.T, 0, none⟩ (.int .i64 2)).setCell ⟨d.T, 1, none⟩ (.int .i64 (given + 1)) = wS at *
  have m3 : wS.cell? ⟨d.M, 3, none⟩ = some (.slice pq nq cq) := cell_is hMS 3 rfl
  go_wp2_with (at_builtin; refine wpList_append_lit rfl (.tmp 59) (.tmp 61) 81 3 rfl ty62 inf3 rfl (by decide) loq wS [.int .i64 p.h] 1 rfl (.slice pq nq cq) nq xq rfl hqS (by omega) (by decide) hsS (k := 0) rfl (by simp [Value.oneCell']) rfl 1 rfl ?_; intro v' w4 hap; obtain ⟨g4, c4, rfl⟩ := own_some hap.1 (by omega); have k4 : Chg (Value.slice pq nq cq).ownBlock.toList wS w4 := Chg.own hap.2.2 (fun g hg _ => by have hg2 : (Value.slice pq nq cq).ownBlock = some g := hg; simp [hg2]); have hM4 := k4.heap hMS (own_block_ne hqS hMS (by decide)); have m34 := cell_is hM4 3 rfl; have f34 := unfrozen hM4 3)
  have hT4 := k4.heap hTS (own_block_ne hqS hTS (by decide))
  have hset := Chg.set w4 d.M 3 (.slice (some ⟨g4, 0, none⟩) (nq + 1) c4)
  have hq4 := ownsRow_av hap.1 hset (Av.row hM4 (by decide))
  go_ret
  refine ⟨g4, c4, rfl, ?_, heap_set hM4 3 _ rfl, hq4, heap_set_ne hT4 hMT.symm _ _⟩
  refine (((k2.mono (fun x hx _ => by cases hx)).then (kS.mono ?_)).then (k4.mono ?_)).then (hset.mono ?_)
  · intro x hx _; simp only [List.mem_cons, List.not_mem_nil, or_false] at hx; rcases hx with rfl | rfl <;> simp
  · intro x hx _; exact List.mem_cons_of_mem _ (List.mem_cons_of_mem _ hx)
  · intro x hx _; rw [List.mem_singleton] at hx; subst hx; exact List.mem_cons_self
end Go.Proofs.YtliicpedddcfiaaGreat
namespace Go.Proofs.YtliicpedddcfiaaGreat
open Go.RowKit Go.Lib

abbrev TxL := List (Nat × List (Int × List UInt8))
theorem TxsAt.keepA {w w' : World} {T : List Nat} {lo : Nat} {v : Value} {l : TxL} (h : TxsAt w lo v l) (hc : Chg T w w') (hT : Av w T [176, 37, 5]) : TxsAt w' lo v l := by
  obtain ⟨xs, ho, hx⟩ := h
  refine ⟨xs, own_chgB ho hc (fun g hg => ?_), fun i hi => ?_⟩
  · obtain ⟨-, cur, hh⟩ := own_elem ho hg
    exact hT.ne hh (by simp)
  · obtain ⟨h0, pb, cb, h1, h2⟩ := hx i hi
    exact ⟨h0, pb, cb, h1, h2.keep hc (fun x hx cs t fr hh ht => hT x hx cs t fr hh (by simp at ht; simp [ht])) (fun g hg => by
      obtain ⟨-, cs, hh⟩ := h2.block g hg
      exact hT.ne hh (by simp))⟩
theorem TxsAt.low {w : World} {lo lo' : Nat} {v : Value} {l : TxL} (h : TxsAt w lo v l) (hl : lo' ≤ lo) : TxsAt w lo' v l := by
  obtain ⟨xs, ho, hx⟩ := h
  refine ⟨xs, own_base ho hl, fun i hi => ?_⟩
  obtain ⟨h0, pb, cb, h1, ys, h2, h3⟩ := hx i hi
  exact ⟨h0, pb, cb, h1, ys, own_base h2 hl, h3⟩
theorem TxsAt.form {w : World} {lo : Nat} {v : Value} {l : TxL} (h : TxsAt w lo v l) : ∃ pv c, v = .slice pv l.length c ∧ l.length ≤ c := by
  obtain ⟨xs, ho, -⟩ := h
  exact own_form ho
theorem TxsAt.take {w : World} {lo k c : Nat} {pv : Option Addr} {l : TxL} (h : TxsAt w lo (.slice pv l.length c) l) (hk : k ≤ l.length) (hk0 : 0 < k) : TxsAt w lo (.slice pv k c) (l.take k) := by
  obtain ⟨xs, ho, hx⟩ := h
  have hlk : (l.take k).length = k := by rw [List.length_take]; omega
  refine ⟨xs.take (k * 2), ⟨by rw [List.length_take, ho.1, hlk]; omega, ?_⟩, fun i hi => ?_⟩
  · rcases ho.2 with ⟨_, e⟩ | ⟨g, cap, cur, e, hA, hg, hc1, hc2, hc3, ht⟩
    · omega
    · refine Or.inr ⟨g, cap, cur, ?_, hA, hg, by omega, hc2, hc3, ?_⟩
      · injection e with e1 e2 e3
        subst e1
        subst e3
        rw [hlk]
      · rw [← ht, List.take_take, hlk, Nat.min_eq_left (by omega)]
  · have hi' : i < k := by omega
    obtain ⟨h0, pb, cb, h1, h2⟩ := hx i (by omega)
    have ei : (l.take k)[i] = l[i]'(by omega) := List.getElem_take
    rw [ei]
    exact ⟨by rw [List.getElem?_take_of_lt (by omega)]; exact h0, pb, cb, by rw [List.getElem?_take_of_lt (by omega)]; exact h1, h2⟩
/-- how many of a queue make the next batch, behind n of them that have p puts. -/
def formF : Nat → Nat → TxL → Nat
  | n, _, [] => n
  | n, p, t :: r => if 8 ≤ n ∨ (0 < n ∧ 32 - (p : Int) < t.2.length) then n else formF (n + 1) (p + t.2.length) r
/-- how many puts the first n have. -/
def putsN (l : TxL) (n : Nat) : Nat := ((l.take n).map fun t => t.2.length).sum
theorem putsN_succ {l : TxL} {n : Nat} (h : n < l.length) : putsN l (n + 1) = putsN l n + l[n].2.length := by
  unfold putsN
  rw [List.take_succ_eq_append_getElem h, List.map_append, List.sum_append]
  simp only [List.map_cons, List.map_nil, List.sum_cons, List.sum_nil, Nat.add_zero]
theorem putsN_le {l : TxL} {m : Nat} (h : ∀ t ∈ l, t.2.length ≤ m) (n : Nat) : putsN l n ≤ m * n := by
  unfold putsN
  induction n generalizing l with
  | zero => simp
  | succ n ih =>
    cases l with
    | nil => simp
    | cons t r =>
      have h1 := h t List.mem_cons_self
      have h2 := ih (l := r) (fun u hu => h u (List.mem_cons_of_mem _ hu))
      simp only [List.take_succ_cons, List.map_cons, List.sum_cons]
      rw [Nat.mul_add]
      omega
theorem formF_drop {l : TxL} {n : Nat} (h : n < l.length) (p : Nat) : formF n p (l.drop n) = if 8 ≤ n ∨ (0 < n ∧ 32 - (p : Int) < l[n].2.length) then n else formF (n + 1) (p + l[n].2.length) (l.drop (n + 1)) := by
  rw [List.drop_eq_getElem_cons h, formF]
set_option maxRecDepth 100000 in
set_option maxHeartbeats 2000000 in
theorem form_many (w : World) {lo n c : Nat} {pv : Option Addr} {l : TxL} (h : TxsAt w lo (.slice pv n c) l) (hn : l.length = n) (hn1 : n ≤ 1000000) (hl : ∀ t ∈ l, t.2.length ≤ 1000) : Calls Tryz.prog 94 #[.slice pv n c] w fun e w' => e = .returned (.int .i64 (formF 0 0 l)) ∧ Chg [] w w' := by
  have HT := Lib.hid h
  have HN := Lib.hid hn
  have HL := Lib.hid hl
  clear h hn hl
  go_enter Tryz.func94, Tryz.ntmps94
  go_wp2_with fail
  go_loopw [2, 3, 5, 8] (fun a p _ i wr => ∃ j : Nat, i = .int .i64 (j : Int) ∧ a = .int .i64 (j : Int) ∧ p = .int .i64 (putsN l j : Nat) ∧ j ≤ n ∧ j ≤ 8 ∧ formF 0 0 l = formF j (putsN l j) (l.drop j) ∧ Chg [] w wr) (fun _ _ _ i _ => n - (intOf i).toNat)
  case atStart => exact ⟨0, rfl, rfl, rfl, Nat.zero_le _, by decide, rfl, Chg.refl _ _⟩
  case round =>
    obtain ⟨j, rfl, rfl, rfl, hj, hj8, hf, kr⟩ := hrel
    by_cases hlt : j < n
    · have m1 : decide ((j : Int) < (n : Int)) = true := decide_eq_true (by omega)
      have hjl : j < l.length := by rw [HN.out]; exact hlt
      obtain ⟨g, pb, cb, rfl, c0, c1, -⟩ := HT.out.get j hjl
      have hpl := HL.out l[j] (List.getElem_mem hjl)
      have hpp := putsN_le HL.out j
      have d0 := kr.cell c0 (by simp)
      have d1 := kr.cell c1 (by simp)
      have ka : Chg [] w (wr.alloc (.cells #[.int .i64 (l[j].1 : Nat), .slice pb l[j].2.length cb] 176)) := kr.then_alloc _
      have hs := putsN_succ hjl
      rw [formF_drop hjl] at hf
      generalize hpn : putsN l j = pn at *
      generalize hln : l[j].2.length = ln at *
      have HKa := Lib.hid (And.intro ka (And.intro hf hs))
      have w1 : IntKind.i64.wrap (32 - (pn : Int)) = 32 - (pn : Int) := by rw [IntKind.wrap_i64]; omega
      have w2 : IntKind.i64.wrap ((pn : Int) + (ln : Int)) = ((pn + ln : Nat) : Int) := by rw [IntKind.wrap_i64]; omega
      have w3 : IntKind.i64.wrap ((j : Int) + 1) = ((j + 1 : Nat) : Int) := by rw [IntKind.wrap_i64]; omega
      clear hf hs ka c0 c1 hpn hln hpl hpp
      by_cases h8 : 8 ≤ j
      · have m2 : decide ((8 : Int) ≤ (j : Int)) = true := decide_eq_true (by omega)
        go_wp2_with fail
        go_ret
        exact ⟨by rw [HKa.out.2.1, if_pos (Or.inl h8)]; rfl, HKa.out.1⟩
      have m2 : decide ((8 : Int) ≤ (j : Int)) = false := decide_eq_false (by omega)
      have fin : Hid (¬ (8 ≤ j ∨ (0 < j ∧ 32 - (pn : Int) < ln)) → formF 0 0 l = formF (j + 1) (putsN l (j + 1)) (l.drop (j + 1))) := Lib.hid (fun hno => by rw [HKa.out.2.1, if_neg hno, HKa.out.2.2])
      have HJ := Lib.hid (And.intro h8 hlt)
      have hss : ((pn + ln : Nat) : Int) = ((putsN l (j + 1) : Nat) : Int) := by rw [HKa.out.2.2]
      rw [hss] at w2
      have Hss := Lib.hid hss
      clear hss
      by_cases h0 : j = 0
      · subst h0
        go_wp2_with fail
        go_roundw
        case rel => exact ⟨1, rfl, rfl, rfl, HJ.out.2, by decide, fin.out (by omega), HKa.out.1⟩
        case measure => simp [intOf]; omega
      have m3 : decide ((0 : Int) < (j : Int)) = true := decide_eq_true (by omega)
      by_cases hb : 32 - (pn : Int) < ln
      · have m4 : decide (32 - (pn : Int) < (ln : Int)) = true := decide_eq_true hb
        go_wp2_with fail
        go_ret
        exact ⟨by rw [HKa.out.2.1, if_pos (Or.inr ⟨by omega, hb⟩)]; rfl, HKa.out.1⟩
      · have m4 : decide (32 - (pn : Int) < (ln : Int)) = false := decide_eq_false hb
        go_wp2_with fail
        go_roundw
        case rel => exact ⟨j + 1, rfl, rfl, rfl, HJ.out.2, by omega, fin.out (by omega), HKa.out.1⟩
        case measure => simp [intOf]; omega
    · have hje : j = n := by omega
      subst hje
      have m1 : decide ((j : Int) < (j : Int)) = false := decide_eq_false (by omega)
      have HF : Hid (formF 0 0 l = j ∧ Chg [] w wr) := Lib.hid ⟨by rw [hf, ← HN.out, List.drop_length, formF], kr⟩
      clear hf kr
      go_wp2_with fail
      go_ret
      exact ⟨by rw [HF.out.1]; rfl, HF.out.2⟩
end Go.Proofs.YtliicpedddcfiaaGreat
namespace Go.Proofs.YtliicpedddcfiaaGreat
open Go.RowKit Go.Lib

theorem formF_le : ∀ (l : TxL) (n p : Nat), n ≤ formF n p l ∧ formF n p l ≤ n + l.length
  | [], n, p => by simp [formF]
  | t :: r, n, p => by
    rw [formF]
    split
    · simp
    · have := formF_le r (n + 1) (p + t.2.length)
      simp only [List.length_cons]
      omega
theorem formF_bounds {l : TxL} (h : 0 < l.length) : 1 ≤ formF 0 0 l ∧ formF 0 0 l ≤ l.length := by
  cases l with
  | nil => simp at h
  | cons t r =>
    rw [formF, if_neg (by omega)]
    have := formF_le r 1 (0 + t.2.length)
    show 1 ≤ formF 1 _ r ∧ formF 1 _ r ≤ r.length + 1
    omega
set_option maxRecDepth 100000 in
set_option maxHeartbeats 4000000 in
theorem tbatch_many (w : World) {M X B r cq nq : Nat} {pq : Option Addr} {num bas last given : Int} {rd : Bool} {l : TxL} (hM : MgrG w M X B r (.slice pq nq cq) 0 num bas last given rd) (hl : ∀ t ∈ l, t.2.length ≤ 1000) (hnq : l.length = nq) (hq0 : 0 < nq) (hq1 : nq ≤ 1000000) (hn0 : 0 ≤ num) (hn1 : num ≤ 1000000000000)
    (hW : ∀ w1, Chg [] w w1 → Calls Tryz.prog 93 #[.pointer (some ⟨M, 0, none⟩)] w1 fun e w' => ∃ v, e = .returned v ∧ Chg [] w1 w' ∧ TxsAt w' w1.heap.size v l) :
    Calls Tryz.prog 53 #[.pointer (some ⟨M, 0, none⟩)] w fun e w' => ∃ pv c, e = .returned (.tuple #[.agg #[.int .i64 (num + 1), .slice pv (formF 0 0 l) c], .int .i64 0]) ∧ Chg [M] w w' ∧ MgrG w' M X B r (.slice pq nq cq) (formF 0 0 l : Nat) num bas last given rd ∧ TxsAt w' w.heap.size (.slice pv (formF 0 0 l) c) (l.take (formF 0 0 l)) := by
  have k0 : Chg [] w (w.alloc (.cells #[.int .i64 0, .slice none 0 0] 134)) := Chg.alloc w _
  have K0 := heap_new w (.cells #[.int .i64 0, .slice none 0 0] 134)
  have hM0 := k0.heap hM (by simp)
  have HW := Lib.hid (hW _ k0)
  have m0 : (w.alloc (.cells #[.int .i64 0, .slice none 0 0] 134)).cell? ⟨M, 0, none⟩ = some (.pointer (some ⟨X, 0, none⟩)) := cell_is hM0 0 rfl
  have m4 : (w.alloc (.cells #[.int .i64 0, .slice none 0 0] 134)).cell? ⟨M, 4, none⟩ = some (.int .i64 0) := cell_is hM0 4 rfl
  have m3 : (w.alloc (.cells #[.int .i64 0, .slice none 0 0] 134)).cell? ⟨M, 3, none⟩ = some (.slice pq nq cq) := cell_is hM0 3 rfl
  have hgone : ∀ w1 : World, w1.cell? ⟨M, 0, none⟩ = some (.pointer (some ⟨X, 0, none⟩)) → Calls Tryz.prog 80 #[.pointer (some ⟨M, 0, none⟩)] w1 fun e w' => e = .returned (.bool false) ∧ w1 = w' := by
    intro w1 c0
    clear hW HW hM hM0 m0 m4 m3 K0
    go_enter Tryz.func80, Tryz.ntmps80
    go_wp2_with fail
    go_ret
    exact ⟨rfl, rfl⟩
  have HG := Lib.hid (hgone _ m0)
  have nq0 : decide (nq = 0) = false := decide_eq_false (by omega)
  have nq1 : ¬ nq = 0 := by omega
  have HNq := Lib.hid (And.intro hnq (And.intro hl (And.intro hq0 hq1)))
  clear hW hM hgone hnq hl hq0 hq1
  go_enter Tryz.func53, Tryz.ntmps53
  go_wp2_with fail
  generalize w.alloc (.cells #[.int .i64 0, .slice none 0 0] 134) = w1 at *
  generalize hR : w.heap.size = R at *
  refine HG.out.mono ?_
  rintro e w2 ⟨rfl, rfl⟩
  go_wp2_with fail
  refine HW.out.mono ?_
  rintro e w2 ⟨v, rfl, k2, ht⟩
  have hM2 := k2.heap hM0 (by simp)
  have K2 := k2.heap K0 (by simp)
  have kk2 := k0.then k2
  obtain ⟨pv, c, rfl, hc1⟩ := ht.form
  have HF := Lib.hid (form_many w2 ht rfl (by rw [HNq.out.1]; exact HNq.out.2.2.2) HNq.out.2.1)
  have hfb : 1 ≤ formF 0 0 l ∧ formF 0 0 l ≤ l.length := formF_bounds (by have := HNq.out.1; have := HNq.out.2.2.1; omega)
  have HT := Lib.hid ht
  generalize hfl : formF 0 0 l = fl at *
  have HFl := Lib.hid (And.intro hfl (And.intro hfb hc1))
  clear m0 m4 m3 ht hM0 K0 HG HW hfl hfb hc1
  go_wp2_with fail
  refine HF.out.mono ?_
  rintro e w3 ⟨rfl, k3⟩
  have hM3 := k3.heap hM2 (by simp)
  have K3 := k3.heap K2 (by simp)
  have HT3 := Lib.hid ((HT.out.keep k3).take HFl.out.2.1.2 HFl.out.2.1.1)
  have kk3 := kk2.then k3
  have m4 : w3.cell? ⟨M, 4, none⟩ = some (.int .i64 0) := cell_is hM3 4 rfl
  have f4 := unfrozen hM3 4
  clear hM2 K2 HF HT k3 kk2
  have hMR : M ≠ R := heap_ne hM3 K3 (by simp)
  have kS := Chg.set w3 M 4 (.int .i64 (fl : Nat))
  have hM4 : MgrG (w3.setCell ⟨M, 4, none⟩ (.int .i64 (fl : Nat))) M X B r (.slice pq nq cq) (fl : Nat) num bas last given rd := heap_set hM3 4 _ rfl
  have K4 := heap_set_ne K3 hMR.symm 4 (.int .i64 (fl : Nat))
  have HT4 := Lib.hid (HT3.out.keepA kS (Av.row hM3 (by decide)))
  have kk4 : Chg [M] w (w3.setCell ⟨M, 4, none⟩ (.int .i64 (fl : Nat))) := (kk3.mono (fun x hx _ => by cases hx)).then kS
  go_upto_region 9 with fail
  clear kk3 K3 hM3 HT3 m4 f4 kS
  generalize w3.setCell ⟨M, 4, none⟩ (.int .i64 (fl : Nat)) = w4 at *
  have n5 : w4.drew.cell? ⟨M, 5, none⟩ = some (.int .i64 num) := cell_is hM4 5 rfl
  have n4 : w4.drew.cell? ⟨M, 4, none⟩ = some (.int .i64 (fl : Nat)) := cell_is hM4 4 rfl
  have r0 : w4.drew.cell? ⟨R, 0, none⟩ = some (.int .i64 0) := cell_is K4 0 rfl
  have r1 : w4.drew.cell? ⟨R, 1, none⟩ = some (.slice none 0 0) := cell_is K4 1 rfl
  have z0 : w4.drew.frozen? ⟨R, 0, none⟩ = false := unfrozen K4 0
  have z1 : w4.drew.frozen? ⟨R, 1, none⟩ = false := unfrozen K4 1
  have r0' : w4.cell? ⟨R, 0, none⟩ = some (.int .i64 0) := r0
  have r1' : w4.cell? ⟨R, 1, none⟩ = some (.slice none 0 0) := r1
  have z0' : w4.frozen? ⟨R, 0, none⟩ = false := z0
  have z1' : w4.frozen? ⟨R, 1, none⟩ = false := z1
  have hcl : (fl : Int) ≤ (c : Int) := by have := HFl.out; omega
  have hcl0 : fl ≤ c := by have := HFl.out; omega
  have hnw : IntKind.i64.wrap (num + 1) = num + 1 := by rw [IntKind.wrap_i64]; omega
  have kR : ∀ a b, Chg [R] w4 ((w4.setCell ⟨R, 0, none⟩ a).setCell ⟨R, 1, none⟩ b).drew := fun a b => (((Chg.refl [R] w4).then_set (fun _ => by simp) 0 a).then_set (fun _ => by simp) 1 b).drew
  have fR : ∀ a b, ((w4.setCell ⟨R, 0, none⟩ a).setCell ⟨R, 1, none⟩ b).drew.cell? ⟨M, 5, none⟩ = some (.int .i64 num) ∧ ((w4.setCell ⟨R, 0, none⟩ a).setCell ⟨R, 1, none⟩ b).drew.cell? ⟨M, 4, none⟩ = some (.int .i64 (fl : Nat)) := fun a b => ⟨(kR a b).cell n5 (by simpa using hMR), (kR a b).cell n4 (by simpa using hMR)⟩
  go_region_held3 (fun wx => wx.cell? ⟨M, 5, none⟩ = some (.int .i64 num) ∧ wx.cell? ⟨M, 4, none⟩ = some (.int .i64 (fl : Nat)))
    (first | (with_reducible exact ⟨n5, n4⟩) | (with_reducible exact fR _ _))
    (first | (fail))
  all_goals
    have kF := kR (.int .i64 (num + 1)) (.slice pv fl c)
    have K6 : ((w4.setCell ⟨R, 0, none⟩ (.int .i64 (num + 1))).setCell ⟨R, 1, none⟩ (.slice pv fl c)).drew.heap[R]? = some (.cells #[.int .i64 (num + 1), .slice pv fl c] 134 (0, 0)) := heap_set (heap_set K4 0 _ rfl) 1 _ rfl
    have hM6 := kF.heap hM4 (by simpa using hMR)
    have HT6 := Lib.hid (HT4.out.keepA kF (Av.row K4 (by decide)))
    have kk6 : Chg [M] w ((w4.setCell ⟨R, 0, none⟩ (.int .i64 (num + 1))).setCell ⟨R, 1, none⟩ (.slice pv fl c)).drew := kk4.trans kF (fun x hx hlt => by rw [List.mem_singleton] at hx; omega)
    have c0 : ((w4.setCell ⟨R, 0, none⟩ (.int .i64 (num + 1))).setCell ⟨R, 1, none⟩ (.slice pv fl c)).drew.cell? ⟨R, 0, none⟩ = some (.int .i64 (num + 1)) := cell_is K6 0 rfl
    have c1 : ((w4.setCell ⟨R, 0, none⟩ (.int .i64 (num + 1))).setCell ⟨R, 1, none⟩ (.slice pv fl c)).drew.cell? ⟨R, 1, none⟩ = some (.slice pv fl c) := cell_is K6 1 rfl
    clear kR fR HT4 r0 r1 z0 z1 r0' r1' z0' z1' n5 n4 K4
    go_wp2_with fail
    refine bodyPost_ret (v := .tuple #[.agg #[.int .i64 (num + 1), .slice pv fl c], .int .i64 0]) (by simp [results, Tryz.results53, go_sem, c0, c1]) rfl ?_
    exact ⟨pv, c, by rw [HFl.out.1], kk6, by rw [HFl.out.1]; exact hM6, by rw [HFl.out.1]; exact HT6.out.low (by rw [hR]; have := k0.size; omega)⟩
end Go.Proofs.YtliicpedddcfiaaGreat
namespace Go.Proofs.YtliicpedddcfiaaGreat
open Go.RowKit Go.Lib

/-- transactions that may be a batch. -/
structure TxOk (l : TxL) : Prop where
  rise : ∀ i (h : i + 1 < l.length), l[i].1 < l[i + 1].1
  pos : ∀ t ∈ l, 1 ≤ t.1 ∧ t.1 ≤ 1099511627776
  ne : ∀ t ∈ l, 0 < t.2.length ∧ t.2.length ≤ 16
  riseP : ∀ t ∈ l, Rise t.2
  key : ∀ t ∈ l, ∀ x ∈ t.2, 0 ≤ x.1 ∧ x.1 < 258
/-- the time ahead of a transaction. -/
def timeAt (l : TxL) : Nat → Nat
  | 0 => 0
  | j + 1 => (l[j]?.map Prod.fst).getD 0
theorem timeAt_succ {l : TxL} {j : Nat} (h : j < l.length) : timeAt l (j + 1) = l[j].1 := by simp [timeAt, h]
theorem TxOk.time {l : TxL} (h : TxOk l) {j : Nat} (hj : j < l.length) : timeAt l j < l[j].1 := by
  cases j with
  | zero => have := (h.pos l[0] (List.getElem_mem hj)).1; show 0 < l[0].1; omega
  | succ j => rw [timeAt_succ (by omega)]; exact h.rise j hj
set_option maxRecDepth 100000 in
set_option maxHeartbeats 4000000 in
theorem order_many (w : World) {lo n c : Nat} {pv : Option Addr} {l : TxL} (h : TxsAt w lo (.slice pv n c) l) (hn : l.length = n) (hn1 : n ≤ 1000000) (hk : TxOk l) : Calls Tryz.prog 152 #[.slice pv n c] w fun e w' => e = .returned (.bool true) ∧ Chg [] w w' := by
  have HT := Lib.hid h
  have HN := Lib.hid hn
  have HK := Lib.hid hk
  clear h hn hk
  go_enter Tryz.func152, Tryz.ntmps152
  go_wp2_with fail
  go_loopw [3, 5, 6, 9] (fun s _ _ i wr => ∃ a : Nat, i = .int .i64 (a : Int) ∧ s = .int .i64 (timeAt l a : Nat) ∧ a ≤ n ∧ Chg [] w wr) (fun _ _ _ i _ => n - (intOf i).toNat)
  case atStart => exact ⟨0, rfl, rfl, Nat.zero_le _, Chg.refl _ _⟩
  case round =>
    obtain ⟨a, rfl, rfl, ha, kr⟩ := hrel
    by_cases hat : a < n
    · have m1 : decide ((a : Int) < (n : Int)) = true := decide_eq_true (by omega)
      have hal : a < l.length := by rw [HN.out]; exact hat
      have hmem := List.getElem_mem hal
      obtain ⟨g, pb, cb, rfl, c0, c1, hp⟩ := HT.out.get a hal
      have d0 := kr.cell c0 (by simp)
      have d1 := kr.cell c1 (by simp)
      have htm := HK.out.time hal
      have hpos := HK.out.pos _ hmem
      have hne := HK.out.ne _ hmem
      have HR := Lib.hid (HK.out.riseP _ hmem)
      have hts := timeAt_succ hal
      have hcb : l[a].2.length ≤ cb := by
        obtain ⟨ys, ho, -⟩ := hp
        obtain ⟨_, _, e, hc⟩ := own_form ho
        cases e
        exact hc
      have HP := Lib.hid (hp.keep0 kr)
      have HS := Lib.hid (And.intro hat hts)
      have n0 : decide (((l[a].1 : Nat) : Int) ≤ ((timeAt l a : Nat) : Int)) = false := decide_eq_false (by omega)
      have n1 : decide ((1099511627776 : Int) < ((l[a].1 : Nat) : Int)) = false := decide_eq_false (by omega)
      have n0' : decide (l[a].1 ≤ timeAt l a) = false := decide_eq_false (by omega)
      have n1' : decide (1099511627776 < l[a].1) = false := decide_eq_false (by omega)
      clear hp hts c0 c1 htm hpos
      generalize htl : timeAt l a = ta at *
      generalize hla : l[a].1 = ka at *
      generalize hlp : l[a].2 = lp at *
      have n2 : ((lp.length : Int) == 0) = false := beq_eq_false_iff_ne.2 (by omega)
      have n3 : (lp.length == 0) = false := beq_eq_false_iff_ne.2 (by omega)
      have hcbi : (lp.length : Int) ≤ cb := by omega
      have hlm : lp.length ≤ 16 := hne.2
      have hl0 : 0 < lp.length := hne.1
      have ka0 : Chg [] wr (wr.alloc (.cells #[.int .i64 (ka : Nat), .slice pb lp.length cb] 176)) := Chg.alloc wr _
      have A0 := heap_new wr (.cells #[.int .i64 (ka : Nat), .slice pb lp.length cb] 176)
      clear hne htl hla hlp hmem
      go_wp2_with fail
      generalize hzz : wr.heap.size = z at *
      generalize wr.alloc (.cells #[.int .i64 (ka : Nat), .slice pb lp.length cb] 176) = w2 at *
      go_loopw [6] (fun i wz => ∃ j : Nat, 1 ≤ j ∧ j ≤ lp.length ∧ i = .int .i64 j ∧ Chg [] w2 wz) (fun i _ => lp.length - (intOf i).toNat)
      case atStart => exact ⟨1, by omega, by omega, rfl, Chg.refl _ _⟩
      case round =>
        obtain ⟨j, hj1, hj, rfl, kz⟩ := hrel
        rename World => wz
        have b1 : wz.cell? ⟨z, 1, none⟩ = some (.slice pb lp.length cb) := cell_is (kz.heap A0 (by simp)) 1 rfl
        by_cases hlt : j < lp.length
        · obtain ⟨q, rfl⟩ : ∃ q, j = q + 1 := ⟨j - 1, by omega⟩
          have hP2 := (HP.out.keep0 ka0).keep0 kz
          obtain ⟨gp, cap, gd, cd, hv, -, e1, -, -, -, -⟩ := hP2.get (q + 1) hlt
          obtain ⟨gp', cap', gd', cd', hv', -, e0, -, -, -, -⟩ := hP2.get q (by omega)
          cases hv
          cases hv'
          have hlt2 := HR.out q hlt
          have hnle : decide ((lp[q + 1]).1 ≤ (lp[q]'(by omega)).1) = false := decide_eq_false (by omega)
          have hwq : IntKind.i64.wrap (((q + 1 : Nat) : Int) - 1) = q := by rw [IntKind.wrap_i64]; omega
          have hqi : (q : Int) < lp.length := by omega
          have hqi2 : ((q + 1 : Nat) : Int) < lp.length := by omega
          clear hP2 HP HR hlt2 n0 n1 n0' n1' m1 d0 d1 n2 n3
          generalize (lp[q + 1]).1 = x at *
          generalize (lp[q]'(by omega)).1 = y at *
          go_wp2_with fail
          go_quiet (fail)
          go_wp2_with fail
          exact ⟨⟨q + 2, by omega, by omega, by go_num, kz.drewN nq⟩, by simp [intOf]; omega⟩
        · obtain rfl : j = lp.length := by omega
          go_wp2_with fail
          refine ⟨⟨a + 1, by simp, by rw [HS.out.2], HS.out.1, (kr.then ka0).then kz⟩, ?_⟩
          have := HS.out.1
          simp [intOf]
          omega
    · have hae : a = n := by omega
      subst hae
      have m1 : decide ((a : Int) < (a : Int)) = false := decide_eq_false (by omega)
      have HF := Lib.hid kr
      clear kr
      go_wp2_with fail
      go_ret
      exact ⟨rfl, HF.out⟩
theorem putsN_all {l : TxL} {n : Nat} (h : l.length = n) : putsN l n = (l.map fun t => t.2.length).sum := by
  unfold putsN
  rw [← h, List.take_length]
set_option maxRecDepth 100000 in
set_option maxHeartbeats 2000000 in
theorem blocks_many (w : World) {lo n c : Nat} {pv : Option Addr} {l : TxL} {num : Int} (h : TxsAt w lo (.slice pv n c) l) (hn : l.length = n) (hn1 : n ≤ 1000000) (hl : ∀ t ∈ l, t.2.length ≤ 1000) : Calls Tryz.prog 153 #[.agg #[.int .i64 num, .slice pv n c]] w fun e w' => e = .returned (.int .i64 ((1 + putsN l n : Nat) : Int)) ∧ Chg [] w w' := by
  have k0 : Chg [] w (w.alloc (.cells #[.int .i64 num, .slice pv n c] 134)) := Chg.alloc w _
  have K0 := heap_new w (.cells #[.int .i64 num, .slice pv n c] 134)
  have HT := Lib.hid (h.keep k0)
  have HN := Lib.hid hn
  have HL := Lib.hid hl
  have b1 : (w.alloc (.cells #[.int .i64 num, .slice pv n c] 134)).cell? ⟨w.heap.size, 1, none⟩ = some (.slice pv n c) := cell_is K0 1 rfl
  clear h hn hl K0
  go_enter Tryz.func153, Tryz.ntmps153
  go_wp2_with fail
  generalize w.alloc (.cells #[.int .i64 num, .slice pv n c] 134) = w1 at *
  go_loopw [3, 5, 9] (fun m _ i wr => ∃ a : Nat, i = .int .i64 (a : Int) ∧ m = .int .i64 ((1 + putsN l a : Nat) : Int) ∧ a ≤ n ∧ Chg [] w1 wr) (fun _ _ i _ => n - (intOf i).toNat)
  case atStart => exact ⟨0, rfl, rfl, Nat.zero_le _, Chg.refl _ _⟩
  case round =>
    obtain ⟨a, rfl, rfl, ha, kr⟩ := hrel
    by_cases hat : a < n
    · have m1 : decide ((a : Int) < (n : Int)) = true := decide_eq_true (by omega)
      have hal : a < l.length := by rw [HN.out]; exact hat
      obtain ⟨g, pb, cb, rfl, c0, c1, -⟩ := HT.out.get a hal
      have hpl := HL.out l[a] (List.getElem_mem hal)
      have hpp := putsN_le HL.out a
      have d0 := kr.cell c0 (by simp)
      have d1 := kr.cell c1 (by simp)
      have HKa := Lib.hid (And.intro (kr.then_alloc (.cells #[.int .i64 (l[a].1 : Nat), .slice pb l[a].2.length cb] 176)) (And.intro (putsN_succ hal) hat))
      generalize l[a].2.length = ln at *
      generalize l[a].1 = ka at *
      generalize hpn : putsN l a = pn at *
      have w2 : IntKind.i64.wrap (((1 + pn : Nat) : Int) + (ln : Int)) = ((1 + (pn + ln) : Nat) : Int) := by rw [IntKind.wrap_i64]; omega
      have w3 : IntKind.i64.wrap ((a : Int) + 1) = ((a + 1 : Nat) : Int) := by rw [IntKind.wrap_i64]; omega
      clear c0 c1 hpn hpl hpp
      rw [← HKa.out.2.1] at w2
      generalize hq : ((1 + pn : Nat) : Int) = q at *
      clear hq
      go_wp2_with fail
      go_roundw
      case rel => exact ⟨a + 1, rfl, rfl, HKa.out.2.2, HKa.out.1⟩
      case measure => have := HKa.out.2.2; simp [intOf]; omega
    · have hae : a = n := by omega
      subst hae
      have m1 : decide ((a : Int) < (a : Int)) = false := decide_eq_false (by omega)
      have HF := Lib.hid (k0.then kr)
      clear kr k0
      go_wp2_with fail
      go_ret
      exact ⟨rfl, HF.out⟩
end Go.Proofs.YtliicpedddcfiaaGreat
namespace Go.Proofs.YtliicpedddcfiaaGreat
open Go.RowKit Go.Lib

/-- transactions that a batch may have. -/
structure BatOk (l : TxL) : Prop where
  tx : TxOk l
  step : ∀ i (h : i + 1 < l.length), l[i + 1].1 ≤ l[i].1 + 65535
  len : 0 < l.length ∧ l.length ≤ 8
  puts : putsN l l.length ≤ 32
set_option maxRecDepth 100000 in
set_option maxHeartbeats 8000000 in
theorem bcheck_many (w : World) {lo n c : Nat} {pv : Option Addr} {num : Int} {l : TxL} (h : TxsAt w lo (.slice pv n c) l) (hn : l.length = n) (hn0 : 1 ≤ num) (hn1 : num ≤ 1099511627776) (hk : BatOk l) :
    Calls Tryz.prog 132 #[.agg #[.int .i64 num, .slice pv n c]] w fun e w' => e = .returned (.int .i64 0) ∧ Chg [] w w' := by
  have k0 : Chg [] w (w.alloc (.cells #[.int .i64 num, .slice pv n c] 134)) := Chg.alloc w _
  have K0 := heap_new w (.cells #[.int .i64 num, .slice pv n c] 134)
  have h1 := h.keep k0
  have b0 : (w.alloc (.cells #[.int .i64 num, .slice pv n c] 134)).cell? ⟨w.heap.size, 0, none⟩ = some (.int .i64 num) := cell_is K0 0 rfl
  have b1 : (w.alloc (.cells #[.int .i64 num, .slice pv n c] 134)).cell? ⟨w.heap.size, 1, none⟩ = some (.slice pv n c) := cell_is K0 1 rfl
  have n0 : decide (num < 1) = false := decide_eq_false (by omega)
  have n1 : decide (1099511627776 < num) = false := decide_eq_false (by omega)
  have hlen := hk.len
  have hputs := hk.puts
  rw [hn] at hlen hputs
  have hl16 : ∀ t ∈ l, t.2.length ≤ 1000 := fun t ht => by have := (hk.tx.ne t ht).2; omega
  have n2 : decide (n = 0) = false := decide_eq_false (by omega)
  have n2b : ((n : Int) == 0) = false := beq_eq_false_iff_ne.2 (by omega)
  have n2' : decide (8 < n) = false := decide_eq_false (by omega)
  have n2'' : decide ((8 : Int) < (n : Int)) = false := decide_eq_false (by omega)
  generalize hpa : 1 + putsN l n = pa
  have n3 : decide (33 < pa) = false := decide_eq_false (by omega)
  have n3' : decide ((33 : Int) < (pa : Int)) = false := decide_eq_false (by omega)
  have HO := Lib.hid (order_many _ h1 hn (by omega) hk.tx)
  have HB := Lib.hid (fun w1 (kk : Chg [] (w.alloc (.cells #[.int .i64 num, .slice pv n c] 134)) w1) => (show Calls Tryz.prog 153 #[.agg #[.int .i64 num, .slice pv n c]] w1 fun e w' => e = .returned (.int .i64 ((pa : Nat) : Int)) ∧ Chg [] w1 w' from by rw [← hpa]; exact blocks_many w1 (num := num) (h1.keep kk) hn (by omega) hl16))
  have HT := Lib.hid h1
  have HK := Lib.hid hk
  have HN := Lib.hid (And.intro hn hlen)
  clear h h1 hk hn hlen hputs hpa hl16
  go_enter Tryz.func132, Tryz.ntmps132
  go_wp2_with fail
  generalize w.alloc (.cells #[.int .i64 num, .slice pv n c] 134) = w1 at *
  generalize hz : w.heap.size = z at *
  refine HO.out.mono ?_
  rintro e w2 ⟨rfl, k2⟩
  have b02 := k2.cell b0 (by simp)
  have b12 := k2.cell b1 (by simp)
  go_wp2_with fail
  refine (HB.out w2 k2).mono ?_
  rintro e w3 ⟨rfl, k3⟩
  have k23 := k2.then k3
  have b13 := k23.cell b1 (by simp)
  clear HO HB b02 b12 b0
  go_wp2_with fail
  clear n0 n1 n2 n2b n2' n2'' n3 n3'
  go_loopw [3, 4, 39] (fun _ _ i wr => ∃ a : Nat, i = .int .i64 (a : Int) ∧ a ≤ n ∧ Chg [] w1 wr) (fun _ _ i _ => n - (intOf i).toNat)
  case atStart => exact ⟨0, rfl, Nat.zero_le _, k23⟩
  case round =>
    obtain ⟨a, rfl, ha, kr⟩ := hrel
    by_cases hat : a < n
    · have m1 : decide ((a : Int) < (n : Int)) = true := decide_eq_true (by omega)
      have hal : a < l.length := by rw [HN.out.1]; exact hat
      have hmem := List.getElem_mem hal
      obtain ⟨g, pb, cb, rfl, c0, c1, hp⟩ := HT.out.get a hal
      have d0 := kr.cell c0 (by simp)
      have d1 := kr.cell c1 (by simp)
      have bz := kr.cell b1 (by simp)
      have hne := HK.out.tx.ne _ hmem
      have ka : Chg [] wr (wr.alloc (.cells #[.int .i64 (l[a].1 : Nat), .slice pb l[a].2.length cb] 176)) := Chg.alloc wr _
      have A0 := heap_new wr (.cells #[.int .i64 (l[a].1 : Nat), .slice pb l[a].2.length cb] 176)
      have HC4 := Lib.hid (contputs_200 (wr.alloc (.cells #[.int .i64 (l[a].1 : Nat), .slice pb l[a].2.length cb] 176)).drew (hp.keep0 ((kr.then ka).drew)) (HK.out.tx.key _ hmem) (by omega))
      have hstep : a = 0 ∨ ∃ q ta : Nat, a = q + 1 ∧ wr.cell? ⟨g, q * 2, none⟩ = some (.int .i64 (ta : Nat)) ∧ ta < l[a].1 ∧ l[a].1 ≤ ta + 65535 := by
        cases a with
        | zero => exact Or.inl rfl
        | succ q =>
          refine Or.inr ⟨q, l[q].1, rfl, ?_, HK.out.tx.rise q hal, HK.out.step q hal⟩
          obtain ⟨g', pb', cb', e', c0', -, -⟩ := HT.out.get q (by omega)
          cases e'
          exact kr.cell c0' (by simp)
      have hpos := HK.out.tx.pos _ hmem
      clear hp c0 c1 hmem
      generalize l[a].2.length = ln at *
      generalize l[a].1 = ka' at *
      go_wp2_with fail
      generalize wr.alloc (.cells #[.int .i64 (ka' : Nat), .slice pb ln cb] 176) = w4 at *
      generalize wr.heap.size = z4 at *
      have a0d : w4.drew.cell? ⟨z4, 0, none⟩ = some (.int .i64 (ka' : Nat)) := cell_is A0 0 rfl
      have a1d : w4.drew.cell? ⟨z4, 1, none⟩ = some (.slice pb ln cb) := cell_is A0 1 rfl
      have bzd : w4.drew.cell? ⟨z, 1, none⟩ = some (.slice (some ⟨g, 0, none⟩) n c) := ka.cell bz (by simp)
      have n5 : decide (16 < ln) = false := decide_eq_false (by omega)
      have n5' : decide ((16 : Int) < (ln : Int)) = false := decide_eq_false (by omega)
      have wa : IntKind.i64.wrap ((a : Int) + 1) = ((a + 1 : Nat) : Int) := by have := HN.out.2; rw [IntKind.wrap_i64]; omega
      rcases hstep with rfl | ⟨q, ta, rfl, t0, t1, t2⟩
      · refine region_tail 24 (by kernel_rfl) (by kernel_rfl) ?_
        simp only [List.take_succ_cons, List.take_zero, List.drop_succ_cons, List.drop_zero]
        repeat (go_big_quiet_step (fail))
        refine wpQuiet_nil ?_
        go_wp2_with fail
        refine HC4.out.mono ?_
        rintro e w6 ⟨rfl, k6⟩
        have kf := Lib.hid (((kr.then ka).drew).then k6)
        clear HC4 k6
        go_wp2_with fail
        go_roundw
        case rel => exact ⟨1, rfl, hat, kf.out⟩
        case measure => simp [intOf]; omega
      · have m3 : decide ((0 : Int) < ((q + 1 : Nat) : Int)) = true := decide_eq_true (by omega)
        have m3' : decide (0 < q + 1) = true := decide_eq_true (by omega)
        have t0d : w4.drew.cell? ⟨g, q * 2, none⟩ = some (.int .i64 (ta : Nat)) := ka.cell t0 (by simp)
        have wq : IntKind.i64.wrap (((q + 1 : Nat) : Int) - 1) = (q : Int) := by have := HN.out.2; rw [IntKind.wrap_i64]; omega
        have hqn : (q : Int) < n := by omega
        have hn8 : n ≤ 8 := HN.out.2.2
        have hq8 : (q : Int) ≤ 8 := by omega
        have ws : IntKind.i64.wrap ((ka' : Int) - (ta : Int)) = (ka' : Int) - (ta : Int) := by rw [IntKind.wrap_i64]; omega
        have m4 : decide ((65535 : Int) < (ka' : Int) - (ta : Int)) = false := decide_eq_false (by omega)
        refine region_tail 24 (by kernel_rfl) (by kernel_rfl) ?_
        simp only [List.take_succ_cons, List.take_zero, List.drop_succ_cons, List.drop_zero]
        repeat (go_big_quiet_step (fail))
        refine wpQuiet_nil ?_
        go_wp2_with fail
        refine HC4.out.mono ?_
        rintro e w6 ⟨rfl, k6⟩
        have kf := Lib.hid (((kr.then ka).drew).then k6)
        clear HC4 k6
        go_wp2_with fail
        go_roundw
        case rel => exact ⟨q + 2, rfl, hat, kf.out⟩
        case measure => simp [intOf]; omega
    · have hae : a = n := by omega
      subst hae
      have m1 : decide ((a : Int) < (a : Int)) = false := decide_eq_false (by omega)
      have HF := Lib.hid (k0.then kr)
      clear kr k0
      go_wp2_with fail
      go_ret
      exact ⟨rfl, HF.out⟩
end Go.Proofs.YtliicpedddcfiaaGreat
namespace Go.Proofs.YtliicpedddcfiaaGreat
open Go.RowKit Go.Lib

/-- the time that a transaction's step is reckoned from. -/
def tmA (l : TxL) (a : Nat) : Nat := (l[a - 1]?.map Prod.fst).getD 0
theorem tmA_succ {l : TxL} {a : Nat} (h : a < l.length) : tmA l (a + 1) = l[a].1 := by simp [tmA, h]
theorem tmA_zero {l : TxL} (h : 0 < l.length) : tmA l 0 = l[0].1 := by simp [tmA, h]
def stepB (a b : Nat) : List UInt8 := [UInt8.ofNat (b - a), UInt8.ofNat ((b - a) / 256)]
/-- the first transactions' steps. -/
def stepsL (l : TxL) (a : Nat) : List UInt8 := (List.range a).flatMap fun i : Nat => stepB (tmA l i) (tmA l (i + 1))
theorem stepsL_succ (l : TxL) (a : Nat) : stepsL l (a + 1) = stepsL l a ++ stepB (tmA l a) (tmA l (a + 1)) := by
  unfold stepsL
  rw [List.range_succ, List.flatMap_append]
  simp
theorem stepsL_length (l : TxL) (a : Nat) : (stepsL l a).length = 2 * a := by
  induction a with
  | zero => rfl
  | succ a ih => rw [stepsL_succ, List.length_append, ih]; rfl
/-- how many puts the first transactions have, each. -/
def cntL (l : TxL) (a : Nat) : List UInt8 := (l.take a).map fun t => UInt8.ofNat t.2.length
theorem cntL_succ {l : TxL} {a : Nat} (h : a < l.length) : cntL l (a + 1) = cntL l a ++ [UInt8.ofNat l[a].2.length] := by
  unfold cntL
  rw [List.take_succ_eq_append_getElem h, List.map_append]
  rfl
theorem cntL_length {l : TxL} {a : Nat} (h : a ≤ l.length) : (cntL l a).length = a := by
  unfold cntL
  rw [List.length_map, List.length_take]
  omega
/-- the first transactions' puts, as blocks. -/
def datT (e num : Nat) (l : TxL) (a : Nat) : List (List UInt8) := (l.take a).flatMap fun t => datL e num t.2
theorem datT_succ {e num : Nat} {l : TxL} {a : Nat} (h : a < l.length) : datT e num l (a + 1) = datT e num l a ++ datL e num l[a].2 := by
  unfold datT
  rw [List.take_succ_eq_append_getElem h, List.flatMap_append]
  simp
theorem datT_length (e num : Nat) (l : TxL) (a : Nat) : (datT e num l a).length = putsN l a := by
  unfold datT putsN
  rw [List.length_flatMap]
  congr 1
  apply List.map_congr_left
  intro t _
  exact datL_length _ _ _
/-- what a batch's last block says. -/
def bodM (l : TxL) : List UInt8 := leB (tmA l 0) 8 ++ [UInt8.ofNat l.length] ++ stepsL l l.length ++ cntL l l.length
theorem bodM_length (l : TxL) : (bodM l).length = 9 + 3 * l.length := by
  unfold bodM
  simp only [List.length_append, leB_length, stepsL_length, cntL_length (Nat.le_refl _), List.length_singleton]
  omega
/-- a batch, as blocks. -/
def batM (e num : Nat) (l : TxL) : List (List UInt8) := datT e num l l.length ++ [encF 2 e num (putsN l l.length) (bodM l)]
theorem batM_length (e num : Nat) (l : TxL) : (batM e num l).length = putsN l l.length + 1 := by simp [batM, datT_length]
theorem BatOk.tm {l : TxL} (h : BatOk l) {a : Nat} (ha : a < l.length) : tmA l a ≤ l[a].1 ∧ l[a].1 ≤ tmA l a + 65535 := by
  cases a with
  | zero => rw [tmA_zero ha]; omega
  | succ q => rw [tmA_succ (by omega)]; exact ⟨Nat.le_of_lt (h.tx.rise q ha), h.step q ha⟩
theorem putsN_mono (l : TxL) {a b : Nat} (h : a ≤ b) (hb : b ≤ l.length) : putsN l a ≤ putsN l b := by
  induction b with
  | zero => have : a = 0 := by omega
            subst this; exact Nat.le_refl _
  | succ b ih =>
    by_cases e : a = b + 1
    · subst e; exact Nat.le_refl _
    · have := ih (by omega) (by omega)
      rw [putsN_succ (by omega)]
      omega
/-- between a and b rows of blocks that lie at base or behind it have grown, and nothing else has changed. -/
def Rg (base : Nat) (a b : World) : Prop := ∃ S, Chg S a b ∧ (∀ x ∈ S, base ≤ x) ∧ Tp a S [34]
theorem Rg.refl (base : Nat) (a : World) : Rg base a a := ⟨[], Chg.refl _ _, (fun x hx => by cases hx), (fun x hx => by cases hx)⟩
theorem Rg.then0 {base : Nat} {a b c : World} (h : Rg base a b) (k : Chg [] b c) : Rg base a c := by
  obtain ⟨S, h1, h2, h3⟩ := h
  exact ⟨S, h1.trans k (fun x hx => by cases hx), h2, h3⟩
theorem Rg.row {base n lo : Nat} {a b c : World} {v : Value} {xs : List Value} (h : Rg base a b) (ho : b.ownsRow lo 34 1 v n xs) (hl : base ≤ lo) (k : Chg v.ownBlock.toList b c) : Rg base a c := by
  obtain ⟨S, h1, h2, h3⟩ := h
  refine ⟨S ++ v.ownBlock.toList.filter (fun x => decide (x < a.heap.size)), ?_, fun x hx => ?_, fun x hx => ?_⟩
  · exact (h1.mono (fun x hx _ => List.mem_append_left _ hx)).trans k (fun x hx hlt => List.mem_append_right _ (List.mem_filter.2 ⟨hx, by simpa using hlt⟩))
  · rcases List.mem_append.1 hx with hx | hx
    · exact h2 x hx
    · exact Nat.le_trans hl (own_elem ho (show v.ownBlock = some x by simpa using (List.mem_filter.1 hx).1)).1
  · rcases List.mem_append.1 hx with hx | hx
    · exact h3 x hx
    · obtain ⟨hx1, hx2⟩ := List.mem_filter.1 hx
      have hlt : x < a.heap.size := by simpa using hx2
      by_cases hS : x ∈ S
      · exact h3 x hS
      · obtain ⟨-, cur, hh⟩ := own_elem ho (show v.ownBlock = some x by simpa using hx1)
        rw [h1.block x hlt hS] at hh
        exact ⟨_, _, hh, by simp⟩
theorem Rg.heap {base x t : Nat} {a b : World} {cs : Array Value} (h : Rg base a b) (hh : a.heap[x]? = some (.cells cs t (0, 0))) (ht : t ≠ 34) : b.heap[x]? = some (.cells cs t (0, 0)) := by
  obtain ⟨S, h1, -, h3⟩ := h
  refine h1.heap hh (fun hm => ?_)
  obtain ⟨cs2, t2, e1, e2⟩ := h3 x hm
  rw [hh] at e1
  cases e1
  simp at e2
  exact ht e2
theorem Rg.size {base : Nat} {a b : World} (h : Rg base a b) : a.heap.size ≤ b.heap.size := by obtain ⟨S, h1, -⟩ := h; exact h1.size
theorem Rg.chg0 {a b : World} {w : World} (k : Chg [] w a) (h : Rg w.heap.size a b) : Chg [] w b := by
  obtain ⟨S, h1, h2, -⟩ := h
  exact k.trans h1 (fun x hx hlt => by have := h2 x hx; omega)
theorem Rg.own {base lo e size n : Nat} {a b : World} {v : Value} {xs : List Value} (h : Rg base a b) (ho : a.ownsRow lo e size v n xs) (he : e ≠ 34) : b.ownsRow lo e size v n xs := by
  obtain ⟨S, h1, -, h3⟩ := h
  refine own_chgB ho h1 (fun g hg hm => ?_)
  obtain ⟨-, cur, hh⟩ := own_elem ho hg
  obtain ⟨cs2, t2, e1, e2⟩ := h3 g hm
  rw [hh] at e1
  cases e1
  simp at e2
  exact he e2
theorem Rg.puts {base lo : Nat} {a b : World} {v : Value} {l : List (Int × List UInt8)} (h : Rg base a b) (hp : PutsAt a lo v l) : PutsAt b lo v l := by
  obtain ⟨S, h1, -, h3⟩ := h
  refine hp.keep h1 (h3.av (by decide)) (fun g hg hm => ?_)
  obtain ⟨-, cs, hh⟩ := hp.block g hg
  obtain ⟨cs2, t2, e1, e2⟩ := h3 g hm
  rw [hh] at e1
  cases e1
  simp at e2
set_option maxRecDepth 100000 in
set_option maxHeartbeats 40000000 in
theorem bencode_many (w : World) {lo e num n c : Nat} {pv : Option Addr} {l : TxL} (h : TxsAt w lo (.slice pv n c) l) (hn : l.length = n) (hn0 : 1 ≤ num) (hn1 : num ≤ 1099511627776) (he : e < 4294967296) (hk : BatOk l) :
    Calls Tryz.prog 95 #[.agg #[.int .i64 num, .slice pv n c], .int .i64 e] w fun r w' => ∃ v', r = .returned (.tuple #[v', .int .i64 0]) ∧ Chg [] w w' ∧ RowsAt w' w.heap.size v' (batM e num l) := by
  have k0 : Chg [] w (w.alloc (.cells #[.int .i64 num, .slice pv n c] 134)) := Chg.alloc w _
  have K0 := heap_new w (.cells #[.int .i64 num, .slice pv n c] 134)
  have h1 := h.keep k0
  have hlen := hk.len
  obtain ⟨g, pb0, cb0, rfl, c0, -, -⟩ := h1.get 0 hlen.1
  have htm0 := tmA_zero hlen.1
  rw [← htm0] at c0
  have hp0 := hk.tx.pos _ (List.getElem_mem hlen.1)
  rw [← htm0] at hp0
  rw [hn] at hlen
  have b0 : (w.alloc (.cells #[.int .i64 num, .slice (some ⟨g, 0, none⟩) n c] 134)).cell? ⟨w.heap.size, 0, none⟩ = some (.int .i64 num) := cell_is K0 0 rfl
  have b1 : (w.alloc (.cells #[.int .i64 num, .slice (some ⟨g, 0, none⟩) n c] 134)).cell? ⟨w.heap.size, 1, none⟩ = some (.slice (some ⟨g, 0, none⟩) n c) := cell_is K0 1 rfl
  have e0 : decide ((e : Int) < 0) = false := decide_eq_false (by omega)
  have e1 : decide (4294967295 < (e : Int)) = false := decide_eq_false (by omega)
  have HO := Lib.hid (bcheck_many _ h1 hn (num := num) (by omega) (by omega) hk)
  have HT := Lib.hid h1
  have HB := Lib.hid hk
  have HE := Lib.hid he
  have HN := Lib.hid hn1
  have HL := Lib.hid (And.intro hn hlen)
  generalize hkk : tmA l 0 = k at *
  have HKk := Lib.hid hkk
  have H64 := Lib.hid (show k < 18446744073709551616 by omega)
  have ku : IntKind.u64.wrap (k : Int) = k := by rw [IntKind.wrap_u64]; omega
  have nu : IntKind.u8.wrap (n : Int) = n := by rw [IntKind.wrap_u8]; omega
  have hn0' : (0 : Int) < n := by omega
  have hnn : 0 < n := by omega
  have hz0 : w.heap.size ≤ (w.alloc (.cells #[.int .i64 num, .slice (some ⟨g, 0, none⟩) n c] 134)).heap.size := k0.size
  have HUn := Lib.hid (show (Value.int .u8 n) = .int .u8 (UInt8.ofNat n).toNat from by
    have e1 : (UInt8.ofNat n).toNat = n := by simp; omega
    rw [e1])
  clear h h1 hk he hn hn0 hn1 hp0 hkk htm0 hlen
  go_enter Tryz.func95, Tryz.ntmps95
  go_wp2_with fail
  generalize w.alloc (.cells #[.int .i64 num, .slice (some ⟨g, 0, none⟩) n c] 134) = w1 at *
  generalize hz : w.heap.size = z at *
  refine HO.out.mono ?_
  rintro e w2 ⟨rfl, k2⟩
  have HKz := Lib.hid (k2.heap K0 (by simp))
  have b02 := k2.cell b0 (by simp)
  have b12 := k2.cell b1 (by simp)
  have c02 := k2.cell c0 (by simp)
  have k02 := k0.then k2
  have HT2 := Lib.hid (HT.out.keep k2)
  have hz2 : z ≤ w2.heap.size := hz ▸ k02.size
  clear HO HT b0 b1 c0 k0 k2 K0
  go_upto_region 4 with fail
  have kD0 : Chg [] w2 w2.drew := (Chg.refl [] w2).drew
  have b12d : w2.drew.cell? ⟨z, 1, none⟩ = some (.slice (some ⟨g, 0, none⟩) n c) := b12
  have hS : ∀ wx, Chg [] w2 wx → wx.cell? ⟨z, 1, none⟩ = some (.slice (some ⟨g, 0, none⟩) n c) := fun wx kx => kx.cell b12 (by simp)
  go_cut [7] from 8 (fun v wx => Chg [] w2 wx ∧ wx.ownsRow w2.heap.size 5 1 v 9 (Lib.byteCells (leB k 8 ++ [UInt8.ofNat n])))
  case first =>
    go_region_held3 (fun wx => wx.cell? ⟨z, 1, none⟩ = some (.slice (some ⟨g, 0, none⟩) n c))
      (first | (with_reducible exact hS _ kD0) | (with_reducible exact hS _ kB1) | (with_reducible exact hS _ (kD0.then_alloc _)) | (with_reducible exact hS _ (kB1.then_alloc _)) | (with_reducible exact hS _ (Chg.alloc w2 _)) | (with_reducible exact hS _ (Chg.alloc w2 _).drew) | (with_reducible exact hS _ kF))
      (first
        | (go_at_call 122; refine (put64_own _ k H64.out (base := w2.heap.size) (by first | exact kD0.size | exact (kD0.then_alloc _).size | exact ((Chg.alloc (S := []) w2 _).drew).size)).mono ?_; rintro e wB ⟨gB, rfl, kB, oB⟩; have kB1 : Chg [] w2 wB := (by first | with_reducible exact kD0.then kB | with_reducible exact ((Chg.alloc w2 _).drew).then kB | with_reducible exact (kD0.then_alloc _).then kB))
        | (refine step_append_u8 rfl (.tmp 38) (.tmp 43) rfl w2.heap.size _ 8 _ rfl (ownsRow_chg oB (Chg.alloc (S := []) wB _)) wB.heap.size 1 (UInt8.ofNat n) rfl (by rw [← HUn.out]; exact cell_is (heap_new wB _) 0 rfl) (by decide) (kB1.then_alloc _).size ?_; intro g5 cp5 w5 o5 k5; have kF : Chg [] w2 w5 := Chg.of_below (((kB1.then_alloc _).below (Nat.le_refl _) (by simp)).trans k5))
        | (refine step_append_u8 rfl (.tmp 38) (.tmp 43) rfl w2.heap.size _ 8 _ rfl oB w2.heap.size 1 (UInt8.ofNat n) rfl (by rw [← HUn.out]; exact kB.cell (cell_is (heap_new w2 _) 0 rfl) (by simp)) (by decide) kB1.size ?_; intro g5 cp5 w5 o5 k5; have kF : Chg [] w2 w5 := Chg.of_below ((kB1.below (Nat.le_refl _) (by simp)).trans k5)))
    all_goals
      go_wp2_with fail
      go_meet
      exact ⟨kF, o5⟩
  case rest =>
    obtain ⟨kw, oz⟩ := hcut
    obtain ⟨p7, c7, rfl, -⟩ := own_form oz
    have b0w := kw.cell b02 (by simp)
    have b1w := kw.cell b12 (by simp)
    have c0w := kw.cell c02 (by simp)
    have HOz := Lib.hid oz
    clear oz hS kD0 b12d
    go_wp2_with fail
    clear e0 e1 ku nu hnn
    go_loopw [4, 7, 8, 10, 12, 13, 14, 15, 49] (fun v4 v7 v8 _ _ _ _ _ i wr => ∃ a : Nat, i = .int .i64 (a : Int) ∧ a ≤ n ∧ Chg [] w2 wr ∧ v8 = .int .i64 (tmA l a : Nat) ∧ RowsAt wr w2.heap.size v4 (datT e num l a) ∧ Away wr w2.heap.size v4 (datT e num l a).length v7.ownBlock ∧ wr.ownsRow w2.heap.size 5 1 v7 (9 + 2 * a) (Lib.byteCells (leB k 8 ++ [UInt8.ofNat n] ++ stepsL l a))) (fun _ _ _ _ _ _ _ _ i _ => n - (intOf i).toNat)
    case atStart => exact ⟨0, rfl, Nat.zero_le _, kw, by rw [HKk.out], RowsAt.nil _ _, Away.nil _ _ _, by simpa [stepsL] using HOz.out⟩
    case round =>
      obtain ⟨a, rfl, ha, kr, rfl, hv4, hva, hv7⟩ := hrel
      obtain ⟨p8, c8, rfl, -⟩ := own_form hv7
      obtain ⟨xs4, ho4, hx4⟩ := hv4
      obtain ⟨p4, c4, rfl, hc4⟩ := own_form ho4
      have HR0 := Lib.hid (show RowsAt wr w2.heap.size (.slice p4 (datT e num l a).length c4) (datT e num l a) from ⟨xs4, ho4, hx4⟩)
      have HA0 := Lib.hid hva
      have HO0 := Lib.hid hv7
      clear ho4 hx4 hva hv7
      by_cases hat : a < n
      · have m1 : decide ((a : Int) < (n : Int)) = true := decide_eq_true (by omega)
        have hal : a < l.length := by rw [HL.out.1]; exact hat
        have hmem := List.getElem_mem hal
        obtain ⟨g', pb, cb, eg, c0a, c1a, hp⟩ := HT2.out.get a hal
        cases eg
        have HPa := Lib.hid (hp.keep0 kr)
        have d0 := kr.cell c0a (by simp)
        have d1 := kr.cell c1a (by simp)
        have HKey := Lib.hid (HB.out.tx.key _ hmem)
        have hne := HB.out.tx.ne _ hmem
        have HTm := Lib.hid (HB.out.tm hal)
        have HTs := Lib.hid (tmA_succ hal)
        have hps : putsN l a + l[a].2.length ≤ 32 := by
          rw [← putsN_succ hal]
          exact Nat.le_trans (putsN_mono l (by omega) (Nat.le_refl _)) HB.out.puts
        have HDs := Lib.hid (datT_succ (e := e) (num := num) hal)
        have hpos := HB.out.tx.pos _ hmem
        have hcb : l[a].2.length ≤ cb := by
          obtain ⟨ys, ho, -⟩ := hp
          obtain ⟨_, _, e, hc⟩ := own_form ho
          cases e
          exact hc
        clear hp c0a c1a hmem
        generalize hpl : l[a].2 = lp at *
        generalize hta : l[a].1 = ta at *
        generalize htm : tmA l a = tl at *
        generalize hpn : putsN l a = pn at *
        generalize hdl : datT e num l a = dt at *
        have HDl := Lib.hid (show dt.length = pn by rw [← hdl, datT_length, hpn])
        have ka : Chg [] wr (wr.alloc (.cells #[.int .i64 (ta : Nat), .slice pb lp.length cb] 176)) := Chg.alloc wr _
        have A0 := heap_new wr (.cells #[.int .i64 (ta : Nat), .slice pb lp.length cb] 176)
        have HTl := Lib.hid htm
        clear hpl hta htm hpn hdl
        have a0 : (wr.alloc (.cells #[.int .i64 (ta : Nat), .slice pb lp.length cb] 176)).cell? ⟨wr.heap.size, 0, none⟩ = some (.int .i64 (ta : Nat)) := cell_is A0 0 rfl
        have b0a := ka.cell (kr.cell b02 (by simp)) (by simp)
        have HK4 := Lib.hid (And.intro (ka.heap (kr.heap HKz.out (by simp)) (by simp)) A0)
        have HPb := Lib.hid (HPa.out.keep0 ka)
        have HOa := Lib.hid (ownsRow_chg HO0.out ka)
        have HRa := Lib.hid (HR0.out.keep0 ka)
        have HAa := Lib.hid (HA0.out.keep HR0.out ka (Av.nil _ _))
        have kwa := kr.then ka
        have hza := kwa.size
        go_wp2_with fail
        generalize wr.alloc (.cells #[.int .i64 (ta : Nat), .slice pb lp.length cb] 176) = w4 at *
        generalize wr.heap.size = z4 at *
        clear A0 HPa
        go_loopw [4, 12, 13, 14, 56] (fun v _ _ _ i wy => ∃ j : Nat, j ≤ lp.length ∧ i = .int .i64 j ∧ Rg w2.heap.size w4 wy ∧ RowsAt wy w2.heap.size v (dt ++ datL e num (lp.take j)) ∧ Away wy w2.heap.size v (dt ++ datL e num (lp.take j)).length (Value.slice p8 (9 + 2 * a) c8).ownBlock) (fun _ _ _ _ i _ => lp.length - (intOf i).toNat)
        case atStart => exact ⟨0, by omega, rfl, Rg.refl _ _, by simpa [datL] using HRa.out, by simpa [datL] using HAa.out⟩
        case round =>
          obtain ⟨j, hj, rfl, ky, hrow, haw⟩ := hrel
          obtain ⟨xs5, ho5, hx5⟩ := hrow
          obtain ⟨p5, c5, rfl, hc5⟩ := own_form ho5
          have HRy := Lib.hid (show RowsAt _ w2.heap.size (.slice p5 (dt ++ datL e num (lp.take j)).length c5) (dt ++ datL e num (lp.take j)) from ⟨xs5, ho5, hx5⟩)
          have HAy := Lib.hid haw
          clear ho5 hx5 haw
          generalize hdd : dt ++ datL e num (lp.take j) = dd at *
          have HDj := Lib.hid (show dd.length = pn + j by rw [← hdd, List.length_append, HDl.out, datL_length, List.length_take]; omega)
          have HDd := Lib.hid hdd
          clear hdd
          by_cases hlt : j < lp.length
          · have m3 : decide ((j : Int) < (lp.length : Int)) = true := decide_eq_true (by omega)
            obtain ⟨gp, cap, gd, cd, hpv, hcap, f0, f1, hbd, h40, hbt⟩ := (ky.puts HPb.out).get j hlt
            injection hpv with e1 e2 e3
            subst e1 e3
            obtain ⟨hx0, hx1⟩ := HKey.out _ (List.getElem_mem hlt)
            have HTk := Lib.hid (show dt ++ datL e num (lp.take (j + 1)) = dd ++ [encF 1 e num (lp[j]).1.toNat (lp[j]).2] by rw [← HDd.out]; unfold datL; rw [List.take_succ_eq_append_getElem hlt, List.map_append, ← List.append_assoc]; rfl)
            have hxe : (lp[j]).1 = (((lp[j]).1.toNat : Nat) : Int) := by omega
            have hx2 : (lp[j]).1.toNat ≤ 1048576 := by omega
            have H40 := Lib.hid h40
            have Hbd := Lib.hid hbd
            have HO9 := Lib.hid (ky.own HOa.out (by decide))
            have HX5 := Lib.hid hx2
            rw [hxe] at f0
            clear hbd h40 hx0 hx1 hxe hbt hx2
            generalize (lp[j]).1.toNat = x at *
            generalize (lp[j]).2 = q at *
            have b0y := cell_is (ky.heap HK4.out.1 (by decide)) 0 rfl
            have kl : Chg [] wr (wr.alloc (.cells #[.int .i64 x, .slice (some ⟨gd, 0, none⟩) 40 cd] 37)) := Chg.alloc wr _
            have L0 := heap_new wr (.cells #[.int .i64 x, .slice (some ⟨gd, 0, none⟩) 40 cd] 37)
            have l0 : (wr.alloc (.cells #[.int .i64 x, .slice (some ⟨gd, 0, none⟩) 40 cd] 37)).cell? ⟨wr.heap.size, 0, none⟩ = some (.int .i64 x) := cell_is L0 0 rfl
            have l1 : (wr.alloc (.cells #[.int .i64 x, .slice (some ⟨gd, 0, none⟩) 40 cd] 37)).cell? ⟨wr.heap.size, 1, none⟩ = some (.slice (some ⟨gd, 0, none⟩) 40 cd) := cell_is L0 1 rfl
            have b0l := kl.cell b0y (by simp)
            have HJ := Lib.hid (And.intro HDj.out (And.intro hps hlt))
            clear hps
            go_wp2_with fail
            generalize wr.alloc (.cells #[.int .i64 x, .slice (some ⟨gd, 0, none⟩) 40 cd] 37) = wl at *
            generalize wr.heap.size = zl at *
            clear L0
            go_wp2_with fail
            refine (fencode_any wl (kind := 1) (by decide) (by decide) HE.out HN.out HX5.out H40.out (by decide) (Hbd.out.chg kl)).mono ?_
            rintro r w5 ⟨g5, c6, rfl, k5, hg5, b5, t5⟩
            have k4y : Rg w2.heap.size w4 w5 := (ky.then0 kl).then0 k5
            have hz5 : w2.heap.size ≤ w5.heap.size := Nat.le_trans hza k4y.size
            obtain ⟨xs, ho5, hx5⟩ := HRy.out.keep0 (kl.then k5)
            have hA5 := HAy.out.keep HRy.out (kl.then k5) (Av.nil _ _)
            have HA5 := Lib.hid hA5
            have HG5 := Lib.hid (show some g5 ≠ (Value.slice p8 (9 + 2 * a) c8).ownBlock from fun e5 => by
              obtain ⟨-, cs5, h5⟩ := own_elem (ownsRow_chg HO9.out kl) e5.symm
              have := heap_lt h5
              omega)
            have HO5 := Lib.hid ho5
            have HX6 := Lib.hid hx5
            have B5 := Lib.hid b5
            have T5 := Lib.hid t5
            have E5 := Lib.hid (encF_length 1 e num x q (by rw [H40.out]; decide))
            clear ho5 hx5 b5 t5 hA5
            go_wp2_with (at_builtin; refine wpList_append_lit rfl (.tmp 72) (.tmp 74) 95 34 rfl ty132 inf23 rfl (by decide) w2.heap.size w5 [.slice (some ⟨g5, 0, none⟩) 64 c6] 1 rfl _ dd.length xs rfl HO5.out (by have := HJ.out; omega) (by decide) hz5 (k := 0) rfl (by simp [Value.oneCell']) rfl 1 rfl ?_; intro v' w6 hap)
            have hfin := RowsAt.app HX6.out rfl HO5.out hap B5.out E5.out T5.out
            have hfa := Away.app HA5.out HO5.out hap.1 HG5.out
            have hdl2 : (dt ++ datL e num (lp.take (j + 1))).length = dd.length + 1 := by rw [HTk.out, List.length_append]; rfl
            rw [← HTk.out] at hfin
            rw [← hdl2] at hfa
            have k6 : Rg w2.heap.size w4 w6 := k4y.row HO5.out (Nat.le_refl _) (Chg.of_grownO hap.2.2)
            go_roundw
            case rel => exact ⟨j + 1, by omega, by go_num, k6, hfin, hfa⟩
            case measure => simp [intOf]; omega
          · obtain rfl : j = lp.length := by omega
            have HDe := Lib.hid (show dd = datT e num l (a + 1) by rw [← HDd.out, List.take_length, HDs.out])
            have a0y := cell_is (ky.heap HK4.out.2 (by decide)) 0 rfl
            have HOy := Lib.hid (ky.own HOa.out (by decide))
            have ws : IntKind.i64.wrap ((ta : Int) - (tl : Int)) = ((ta - tl : Nat) : Int) := by have := HTm.out; rw [IntKind.wrap_i64]; omega
            have kt : Chg [] wr (wr.alloc (.cells #[.int .u8 (((ta - tl : Nat) : Int) % 256), .int .u8 (((ta - tl : Nat) : Int) / 256 % 256)] 5)) := Chg.alloc wr _
            have HLn := Lib.hid (show (#[Value.int .u8 (((ta - tl : Nat) : Int) % 256), .int .u8 (((ta - tl : Nat) : Int) / 256 % 256)]).toList = Lib.byteCells (stepB tl ta) by
              have q1 : (UInt8.ofNat (ta - tl)).toNat = (ta - tl) % 256 := by simp
              have q2 : (UInt8.ofNat ((ta - tl) / 256)).toNat = (ta - tl) / 256 % 256 := by simp
              simp only [stepB, Lib.byteCells, List.map_cons, List.map_nil, q1, q2]
              push_cast
              rfl)
            have hzy : w2.heap.size ≤ wr.heap.size := Nat.le_trans hza ky.size
            go_wp2_with (at_builtin; refine wpList_append_u8 rfl (.tmp 83) (.tmp 89) rfl w2.heap.size _ (9 + 2 * a) _ rfl (ownsRow_chg HOy.out kt) wr.heap.size 2 2 (stepB tl ta) rfl (by decide) rfl (heap_new wr _) HLn.out (by omega) (Nat.le_trans hzy kt.size) ?_; intro g6 c6 w6 o6 k6 i6)
            obtain ⟨hr6, ha6⟩ := rows_grow (HRy.out.keep0 kt) (HAy.out.keep HRy.out kt (Av.nil _ _)) (ownsRow_chg HOy.out kt) k6 i6
            have kf : Chg [] w2 w6 := Chg.of_below (((ky.chg0 kwa).then kt).below0.trans (below_grown (ownsRow_chg HOy.out kt) k6 (Nat.le_trans hzy kt.size)))
            rw [HDe.out] at hr6 ha6
            have HF := Lib.hid (And.intro kf (And.intro hr6 (And.intro ha6 o6)))
            have hst := stepsL_succ l a
            have HSt := Lib.hid hst
            clear hst hr6 ha6 o6 kf k6 i6 kt
            go_roundw
            case rel => exact ⟨a + 1, by simp, by omega, HF.out.1, by rw [HTs.out], by rw [HDe.out]; exact HF.out.2.1, by rw [HDe.out]; exact HF.out.2.2.1, by
              rw [HSt.out, HTl.out, HTs.out, ← List.append_assoc]
              exact HF.out.2.2.2⟩
            case measure => simp [intOf]; omega
      · have hae : a = n := by omega
        subst hae
        have m1 : decide ((a : Int) < (a : Int)) = false := decide_eq_false (by omega)
        generalize hdd : datT e num l a = dt at *
        have HDd := Lib.hid hdd
        clear hdd
        have b0r := kr.cell b02 (by simp)
        have b1r := kr.cell b12 (by simp)
        go_wp2_with fail
        go_loopw [7, 17, 95] (fun v7 _ i wx => ∃ b : Nat, i = .int .i64 (b : Int) ∧ b ≤ a ∧ Chg [] w2 wx ∧ RowsAt wx w2.heap.size (.slice p4 dt.length c4) dt ∧ Away wx w2.heap.size (.slice p4 dt.length c4) dt.length v7.ownBlock ∧ wx.ownsRow w2.heap.size 5 1 v7 (9 + 2 * a + b) (Lib.byteCells (leB k 8 ++ [UInt8.ofNat a] ++ stepsL l a ++ cntL l b))) (fun _ _ i _ => a - (intOf i).toNat)
        case atStart => exact ⟨0, rfl, Nat.zero_le _, kr, HR0.out, HA0.out, by simpa [cntL] using HO0.out⟩
        case round =>
          rename World => wz
          obtain ⟨b, rfl, hb, kz, hv4, hva, hv7⟩ := hrel
          obtain ⟨p9, c9, rfl, -⟩ := own_form hv7
          have HR := Lib.hid hv4
          have HAw := Lib.hid hva
          have HO7 := Lib.hid hv7
          clear hv4 hva hv7
          by_cases hbt : b < a
          · have m2 : decide ((b : Int) < (a : Int)) = true := decide_eq_true (by omega)
            have hbl : b < l.length := by rw [HL.out.1]; exact hbt
            have hmem := List.getElem_mem hbl
            obtain ⟨g', pb, cb, eg, c0a, c1a, hp⟩ := HT2.out.get b hbl
            cases eg
            have d0 := kz.cell c0a (by simp)
            have d1 := kz.cell c1a (by simp)
            have hne := HB.out.tx.ne _ hmem
            have HCs := Lib.hid (cntL_succ hbl)
            have hcb : l[b].2.length ≤ cb := by
              obtain ⟨ys, ho, -⟩ := hp
              obtain ⟨_, _, e, hc⟩ := own_form ho
              cases e
              exact hc
            clear hp c0a c1a hmem
            generalize hpl : l[b].2.length = ln at *
            generalize l[b].1 = tb at *
            have hu8 : IntKind.u8.wrap (ln : Int) = ln := by rw [IntKind.wrap_u8]; omega
            have ka : Chg [] wz (wz.alloc (.cells #[.int .i64 (tb : Nat), .slice pb ln cb] 176)) := Chg.alloc wz _
            have L0 := (two_new wz (.cells #[.int .i64 (tb : Nat), .slice pb ln cb] 176) (.cells #[.int .u8 ln] 5)).2
            have kt := ka.then_alloc (.cells #[.int .u8 ln] 5)
            have HLn := Lib.hid (show (#[Value.int .u8 ln]).toList = Lib.byteCells [UInt8.ofNat ln] by
              have e1 : (UInt8.ofNat ln).toNat = ln := by simp; omega
              simp only [Lib.byteCells, List.map_cons, List.map_nil, e1])
            have hzr := kz.size
            clear hpl hne
            go_wp2_with (at_builtin; refine wpList_append_u8 rfl (.tmp 99) (.tmp 104) rfl w2.heap.size _ (9 + 2 * a + b) _ rfl (ownsRow_chg HO7.out kt) (wz.heap.size + 1) 1 1 [UInt8.ofNat ln] rfl (by decide) rfl L0 HLn.out (by have := HL.out; omega) (Nat.le_trans hzr kt.size) ?_; intro g6 c6 w6 o6 k6 i6)
            obtain ⟨hr6, ha6⟩ := rows_grow (HR.out.keep0 kt) (HAw.out.keep HR.out kt (Av.nil _ _)) (ownsRow_chg HO7.out kt) k6 i6
            have kf : Chg [] w2 w6 := Chg.of_below ((kz.then kt).below0.trans (below_grown (ownsRow_chg HO7.out kt) k6 (Nat.le_trans hzr kt.size)))
            have HF := Lib.hid (And.intro kf (And.intro hr6 (And.intro ha6 o6)))
            clear kf hr6 ha6 o6 k6 i6 kt ka L0
            go_roundw
            case rel => exact ⟨b + 1, by simp, hbt, HF.out.1, HF.out.2.1, HF.out.2.2.1, by
              rw [HCs.out, ← List.append_assoc]
              exact HF.out.2.2.2⟩
            case measure => simp [intOf]; omega
          · have hba : b = a := by omega
            subst hba
            have m2 : decide ((b : Int) < (b : Int)) = false := decide_eq_false (by omega)
            have b0z := kz.cell b02 (by simp)
            have hBd : leB k 8 ++ [UInt8.ofNat b] ++ stepsL l b ++ cntL l b = bodM l := by
              unfold bodM
              rw [HKk.out, HL.out.1]
            have HBd := Lib.hid (show (bodM l).length = 9 + 2 * b + b by rw [bodM_length, HL.out.1]; omega)
            have ho7 := HO7.out
            rw [hBd] at ho7
            have H9 := Lib.hid (Bs.own ho7)
            have HDn := Lib.hid (show dt.length ≤ 32 ∧ dt.length = putsN l l.length ∧ dt = datT e num l l.length ∧ b ≤ 8 from ⟨by rw [← HDd.out, datT_length]; have := HB.out.puts; rw [HL.out.1] at this; exact this, by rw [← HDd.out, datT_length, HL.out.1], by rw [← HDd.out, HL.out.1], HL.out.2.2⟩)
            clear ho7 hBd
            generalize hnb : 9 + 2 * b + b = nb at *
            have HNb := Lib.hid hnb
            generalize hnd : dt.length = nd at *
            have HNd := Lib.hid hnd
            clear hnb hnd
            go_wp2_with fail
            refine (fencode_any _ (kind := 2) (lba := nd) (by decide) (by decide) HE.out HN.out (by have := HDn.out.1; omega) HBd.out (by have := HNb.out; have := HDn.out.2.2.2; omega) H9.out).mono ?_
            rintro r w5 ⟨g5, c5, rfl, k5, hg5, b5, t5⟩
            have kz5 := kz.then k5
            obtain ⟨xs, ho5, hx5⟩ := HR.out.keep0 k5
            rw [HNd.out] at ho5
            have HO5 := Lib.hid ho5
            have HX5 := Lib.hid hx5
            have B5 := Lib.hid b5
            have T5 := Lib.hid t5
            have E5 := Lib.hid (encF_length 2 e num nd (bodM l) (by rw [HBd.out]; have := HNb.out; have := HDn.out.2.2.2; omega))
            clear ho5 hx5 b5 t5
            go_wp2_with (at_builtin; refine wpList_append_lit rfl (.tmp 118) (.tmp 120) 95 34 rfl ty132 inf23 rfl (by decide) w2.heap.size w5 [.slice (some ⟨g5, 0, none⟩) 64 c5] 1 rfl _ nd xs rfl HO5.out (by have := HDn.out.1; omega) (by decide) kz5.size (k := 0) rfl (by simp [Value.oneCell']) rfl 1 rfl ?_; intro v' w6 hap)
            have hfin := RowsAt.app HX5.out HNd.out HO5.out hap B5.out E5.out T5.out
            have k6 : Chg [] w w6 := k02.then (Chg.of_below (kz5.below0.trans hap.2.1))
            have HF := Lib.hid (show RowsAt w6 z v' (batM e num l) from by
              unfold batM
              rw [← HDn.out.2.1, ← HDn.out.2.2.1]
              exact hfin.base hz2)
            clear hfin hap
            go_wp2_with fail
            go_ret2
            exact ⟨_, rfl, k6, by rw [hz]; exact HF.out⟩
end Go.Proofs.YtliicpedddcfiaaGreat
namespace Go.Proofs.YtliicpedddcfiaaGreat
open Go.RowKit Go.Lib

set_option maxRecDepth 100000 in
set_option maxHeartbeats 8000000 in
theorem swrite_many (w : World) {base lo N A c P S M pos num cnt nt ct : Nat} {ops num0 : Int} {Z : List Nat} {vs : Nat → Value} {gs : Nat → Nat} {zs : Nat → List (List UInt8)} {pt : Option Addr} {l : TxL}
    (hP : StoreG w P N S M pos num) (HL : ∀ w1, Chg [] w w1 → Calls Tryz.prog 35 #[.pointer (some ⟨S, 0, none⟩)] w1 fun e w' => ∃ u, e = .returned (.tuple #[u, .int .i64 cnt]) ∧ Chg [] w1 w')
    (hD : DevG w base N A c ops Z vs gs zs) (h0 : 0 ≤ ops) (h1 : ops ≤ 100000) (hlow : base ≤ N) (hT : TxsAt w lo (.slice pt nt ct) l) (hnt : l.length = nt) (hk : BatOk l) (hcnt : cnt < 4294967296) (hnum : num < 1099511627776) 
    (hroom : (zs 6).length + (putsN l l.length) + 1 ≤ 96) (hpos : pos + (putsN l l.length) + 1 ≤ 96) (h6 : 6 < Z.length) :
    Calls Tryz.prog 54 #[.pointer (some ⟨P, 0, none⟩), .agg #[.int .i64 num0, .slice pt nt ct]] w fun e w' => e = .returned (.int .i64 0) ∧ Chg (P :: N :: Z ++ (vs 6).ownBlock.toList) w w' ∧ StoreG w' P N S M (pos + (putsN l l.length) + 1) (num + 1) ∧
      ∃ v6, DevG w' base N A c (ops + (putsN l l.length) + 2) Z (upF vs 6 v6) (goodF gs (upF zs 6 (zs 6 ++ batM cnt (num + 1) l)) 8) (upF zs 6 (zs 6 ++ batM cnt (num + 1) l)) := by
  have k0 : Chg [] w (w.alloc (.cells #[.int .i64 num0, .slice pt nt ct] 134)) := Chg.alloc w _
  have K0 := heap_new w (.cells #[.int .i64 num0, .slice pt nt ct] 134)
  have hP0 := k0.heap hP (by simp)
  have p6 : (w.alloc (.cells #[.int .i64 num0, .slice pt nt ct] 134)).cell? ⟨P, 6, none⟩ = some (.pointer (some ⟨S, 0, none⟩)) := cell_is hP0 6 rfl
  have HL0 := Lib.hid (HL _ k0)
  have HP := Lib.hid hP
  have HD := Lib.hid hD
  have HT := Lib.hid hT
  clear HL hP hD hT
  go_enter Tryz.func54, Tryz.ntmps54
  go_wp2_with fail
  generalize w.alloc (.cells #[.int .i64 num0, .slice pt nt ct] 134) = w1 at *
  generalize hz : w.heap.size = K at *
  refine HL0.out.mono ?_
  rintro e w2 ⟨u, rfl, k2'⟩
  have k2 := k0.then k2'
  have K2 := k2'.heap K0 (by simp)
  have hP2 := k2.heap HP.out (by simp)
  have p8 : w2.cell? ⟨P, 8, none⟩ = some (.int .i64 num) := cell_is hP2 8 rfl
  have q0 : w2.cell? ⟨K, 0, none⟩ = some (.int .i64 num0) := cell_is K2 0 rfl
  have z0 : w2.frozen? ⟨K, 0, none⟩ = false := unfrozen K2 0
  have kS : Chg [] w (w2.setCell ⟨K, 0, none⟩ (.int .i64 ((num : Int) + 1))) := k2.new_set (by omega) 0 _
  have K3 : (w2.setCell ⟨K, 0, none⟩ (.int .i64 ((num : Int) + 1))).heap[K]? = some (.cells #[.int .i64 ((num : Int) + 1), .slice pt nt ct] 134 (0, 0)) := heap_set K2 0 _ rfl
  have a0 : (w2.setCell ⟨K, 0, none⟩ (.int .i64 ((num : Int) + 1))).cell? ⟨K, 0, none⟩ = some (.int .i64 ((num : Int) + 1)) := cell_is K3 0 rfl
  have a1 : (w2.setCell ⟨K, 0, none⟩ (.int .i64 ((num : Int) + 1))).cell? ⟨K, 1, none⟩ = some (.slice pt nt ct) := cell_is K3 1 rfl
  have hE := bencode_many _ (e := cnt) (num := num + 1) (HT.out.keep kS) hnt (by omega) (by omega) hcnt hk
  rw [show ((num + 1 : Nat) : Int) = (num : Int) + 1 by omega] at hE
  have HE := Lib.hid hE
  clear hE
  clear p6 HL0 K0 k2' K2 hP2 K3 hk
  go_wp2_with fail
  obtain ⟨lo3, hlo3⟩ : ∃ lo3, lo3 = (w2.setCell ⟨K, 0, none⟩ (.int .i64 ((num : Int) + 1))).heap.size := ⟨_, rfl⟩
  have HLo := Lib.hid (show w.heap.size ≤ lo3 from by rw [hlo3]; exact kS.size)
  rw [← hlo3] at HE
  clear hlo3
  refine HE.out.mono ?_
  rintro e w3 ⟨v', rfl, k3', hrows⟩
  have k3 := kS.then k3'
  have hP3 := k3.heap HP.out (by simp)
  have hD3 := HD.out.keep k3 (Av.nil _ _)
  have hbl : (batM cnt (num + 1) l).length = (putsN l l.length) + 1 := batM_length _ _ _
  have h64 : ∀ x ∈ batM cnt (num + 1) l, x.length = 64 := fun x hx => by
    obtain ⟨i, hi, rfl⟩ := List.getElem_of_mem hx
    obtain ⟨-, -, -, -, -, -, -, -, h, -⟩ := hrows.get i hi
    exact h
  obtain ⟨gr, cr, gd', cd', hv', hcr, -, -, -, -⟩ := hrows.get 0 (by omega)
  subst hv'
  have HR := Lib.hid hrows
  have HD3 := Lib.hid hD3
  have HP3 := Lib.hid hP3
  have HGm := Lib.hid (geom_hdr w3 (N := N) (A := A) (c := c) ⟨_, hD3.hdr⟩)
  have p0 : w3.cell? ⟨P, 0, none⟩ = some (.pointer (some ⟨N, 0, none⟩)) := cell_is hP3 0 rfl
  have HBL := Lib.hid hbl
  have hsz3 := k3.size
  have hlr : lo3 ≤ gr := by
    obtain ⟨xs, ho, -⟩ := hrows
    exact (own_elem ho rfl).1
  have HV6 := Lib.hid (show ∀ g, (vs 6).ownBlock = some g → g < w.heap.size from fun g hg => by
    obtain ⟨cs, h5⟩ := (HD.out.rows 6 (by omega)).block g hg
    exact heap_lt h5)
  clear HE kS a0 a1 q0 z0 p8 HD HT k2 k3' hD3 hrows hbl hP3
  obtain ⟨bl, hbl'⟩ : ∃ bl, batM cnt (num + 1) l = bl := ⟨_, rfl⟩
  rw [hbl'] at HR HBL h64
  rw [hbl']
  have HBb := Lib.hid hbl'
  clear hbl'
  go_wp2_with fail
  refine HGm.out.mono ?_
  rintro e w4 ⟨rfl, k4⟩
  have hP4 := k4.heap HP3.out (by simp)
  have HD4 := Lib.hid (HD3.out.keep k4 (Av.nil _ _))
  have HR4 := Lib.hid (HR.out.keep0 k4)
  have hfs := field_size
  have p7 : w4.cell? ⟨P, 7, none⟩ = some (.int .i64 pos) := cell_is hP4 7 rfl
  have p4 : w4.cell? ⟨P, 4, none⟩ = some (.int .i64 7) := cell_is hP4 4 rfl
  have p3 : w4.cell? ⟨P, 3, none⟩ = some (.int .i64 6) := cell_is hP4 3 rfl
  have hpn : IntKind.i64.wrap ((pos : Int) + (bl.length : Nat)) = (pos : Int) + (bl.length : Nat) := by rw [IntKind.wrap_i64]; have := HBL.out; omega
  have hgt : decide (192 < (pos : Int) + (bl.length : Nat)) = false := decide_eq_false (by have := HBL.out; omega)
  have HP4 := Lib.hid hP4
  have kk4 := k3.then k4
  clear hP4 HGm p0 HP3 HD3 HR k4 k3
  go_wp2_with fail
  go_quiet (fail)
  have kd : Chg [] w4 (w4.drewN nq) := (Chg.refl [] w4).drewN nq
  have k5 := kk4.then kd
  have hD5 := HD4.out.keep kd (Av.nil _ _)
  have hR5 := HR4.out.keep0 kd
  have hP5 : StoreG (w4.drewN nq) P N S M pos num := HP4.out
  have hW5 : Wl w (w4.drewN nq) base N A c ops Z vs gs zs Z[6] P S M pos num lo3 (.slice (some ⟨gr, 0, none⟩) bl.length cr) bl 0 := by
    refine ⟨⟨vs 6, ?_, fun g hg => Or.inl hg, fun g hg e => ?_⟩, hR5, hP5, k5.mono (fun x hx _ => by cases hx)⟩
    · rw [upF_self, List.take_zero, List.append_nil, upF_self]
      simpa using hD5
    · have h5 := HV6.out g hg
      have h6 := hlr
      have e' : gr = g := Option.some.inj e
      subst e'
      have := HLo.out
      omega
  have HW5 := Lib.hid hW5
  clear hW5 hR5 hP5 hD5 HD4 HR4 HP4 p7 p4 p3 hpn hgt hfs
  generalize w4.drewN nq = w5 at *
  go_wp2_with fail
  go_loopw [10, 11, 12, 13, 68] (fun _ _ _ _ i wr => ∃ j : Nat, j ≤ bl.length ∧ i = .int .i64 j ∧ Wl w wr base N A c ops Z vs gs zs Z[6] P S M pos num lo3 (.slice (some ⟨gr, 0, none⟩) bl.length cr) bl j) (fun _ _ _ _ i _ => bl.length - (intOf i).toNat)
  case atStart => exact ⟨0, by omega, rfl, HW5.out⟩
  case round =>
    obtain ⟨j, hj, rfl, hWr⟩ := hrel
    rename World => wr
    clear HW5
    by_cases hlt : j < bl.length
    · obtain ⟨⟨v6, hd, hn1, hn2⟩, hrows, hstore, hchg⟩ := hWr
      obtain ⟨gr1, cap1, gd, cd, hv1, -, r0, hbs, h64j, hbt⟩ := hrows.get j hlt
      cases hv1
      have hlti : (j : Int) < bl.length := by omega
      have HBL1 := HBL.out
      have nN : gd ≠ N := by
        obtain ⟨cs, hh⟩ := hbt
        exact heap_ne hh hd.hdr (by simp)
      have kdr : Chg [] wr wr.drew := (Chg.refl [] wr).drew
      have hdd := hd.keep kdr (Av.nil _ _)
      have hA := dappend_any wr.drew (cd := cd) hdd (by omega) (by omega) 6 h6 (by rw [upF_same, List.length_append, List.length_take]; omega) (hbs.chg kdr) h64j (fun g hg => by subst hg; exact nN) hlow
      rw [show ((6 : Nat) : Int) = 6 from rfl] at hA
      have HA := Lib.hid hA
      have kdr' := kdr.mono (T := N :: Z[6] :: (upF vs 6 v6 6).ownBlock.toList) (fun x hx _ => by cases hx)
      have hz6 := hd.zone 6 h6
      have hr6 := hd.rows 6 (by omega)
      have nP : P ∉ N :: Z[6] :: (upF vs 6 v6 6).ownBlock.toList := fun hm => by
        rcases List.mem_cons.1 hm with e | hm
        · exact heap_ne hstore hd.hdr (by simp) e
        · rcases List.mem_cons.1 hm with e | hm
          · exact heap_ne hstore hz6 (by simp) e
          · obtain ⟨cs, hh⟩ := hr6.block P (by simpa using hm)
            rw [hstore] at hh
            cases hh
      have p0 : wr.cell? ⟨P, 0, none⟩ = some (.pointer (some ⟨N, 0, none⟩)) := cell_is hstore 0 rfl
      have p3 : wr.cell? ⟨P, 3, none⟩ = some (.int .i64 6) := cell_is hstore 3 rfl
      have p7 : wr.cell? ⟨P, 7, none⟩ = some (.int .i64 pos) := cell_is hstore 7 rfl
      have hq1 : IntKind.i64.wrap ((pos : Int) + (j : Nat)) = (pos : Int) + (j : Nat) := by rw [IntKind.wrap_i64]; omega
      have hq2 : ((pos : Int) + (j : Nat)).tdiv 96 = 0 := by
        rw [Int.tdiv_eq_ediv_of_nonneg (by omega)]
        omega
      have HW := Lib.hid (fun wy v' kc hd' hv' => Wl.step (wy := wy) (v' := v') h6 hlt hrows hstore hchg hd hn1 hn2 kc hd' hv')
      have HnP := Lib.hid nP
      clear hd hn1 hn2 hrows hstore hchg hbs h64j hbt nN hdd hA hz6 hr6 nP HBL1
      go_wp2_with fail
      go_region_held3 (fun wx => wx.cell? ⟨P, 0, none⟩ = some (.pointer (some ⟨N, 0, none⟩)) ∧ wx.cell? ⟨P, 3, none⟩ = some (.int .i64 6) ∧ wx.cell? ⟨P, 7, none⟩ = some (.int .i64 pos))
        (first
          | (exact ⟨p0, p3, p7⟩)
          | (exact ⟨kc.cell p0 HnP.out, kc.cell p3 HnP.out, kc.cell p7 HnP.out⟩))
        (first
          | (go_at_call 96; refine HA.out.mono ?_; rintro e w6 ⟨v', rfl, kc', dc, hvc⟩; have kc := kdr'.then kc'))
      have hWn := Lib.hid (HW.out _ _ kc dc hvc)
      have hb16 : bl.length ≤ 96 := by have := HBL.out; omega
      clear HW HA HnP kc dc hvc kc' p0 p3 p7
      go_wp2_with fail
      exact ⟨⟨j + 1, by omega, by go_num, hWn.out⟩, by simp [intOf]; omega⟩
    · obtain rfl : j = bl.length := by omega
      obtain ⟨⟨v6, hd, -, -⟩, -, hstore, hchg⟩ := hWr
      rw [List.take_length] at hd
      have HF := Lib.hid (dflush_any wr hd (by omega) (by have := HBL.out; omega))
      have p0 : wr.cell? ⟨P, 0, none⟩ = some (.pointer (some ⟨N, 0, none⟩)) := cell_is hstore 0 rfl
      have nP : P ∉ N :: Z := fun hm => by
        rcases List.mem_cons.1 hm with e | hm
        · exact heap_ne hstore hd.hdr (by simp) e
        · obtain ⟨i, hi, e⟩ := List.getElem_of_mem hm
          exact heap_ne hstore (hd.zone i hi) (by simp) e.symm
      have HS := Lib.hid hstore
      have HnP := Lib.hid nP
      have HCg := Lib.hid hchg
      have Hpb := Lib.hid (show pos + bl.length < 1000 by have := HBL.out; omega)
      have Hop := Lib.hid (show ops + (bl.length : Nat) + 1 = ops + ((putsN l l.length) : Nat) + 2 by have := HBL.out; omega)
      clear hd hstore hchg nP
      go_wp2_with fail
      refine HF.out.mono ?_
      rintro e w6 ⟨rfl, k6, hd6⟩
      have hP6 := k6.heap HS.out HnP.out
      have p7 : w6.cell? ⟨P, 7, none⟩ = some (.int .i64 pos) := cell_is hP6 7 rfl
      have p8 : w6.cell? ⟨P, 8, none⟩ = some (.int .i64 num) := cell_is hP6 8 rfl
      have f7 := unfrozen hP6 7
      have f8 := unfrozen hP6 8
      have HD6 := Lib.hid hd6
      have HP6 := Lib.hid hP6
      clear hd6 hP6 HF HS p0
      go_wp2_with fail
      go_ret
      have hps := pos_wrap pos bl.length (putsN l l.length) HBL.out Hpb.out
      have hop := Hop.out
      rw [hps]
      have hdF := HD6.out
      rw [hop] at hdF
      have kS1 := Chg.set w6 P 7 (.int .i64 ((pos + (putsN l l.length) + 1 : Nat) : Int))
      have hP7 : StoreG (w6.setCell ⟨P, 7, none⟩ (.int .i64 ((pos + (putsN l l.length) + 1 : Nat) : Int))) P N S M (pos + (putsN l l.length) + 1) num := heap_set HP6.out 7 _ rfl
      have kS2 := Chg.set (w6.setCell ⟨P, 7, none⟩ (.int .i64 ((pos + (putsN l l.length) + 1 : Nat) : Int))) P 8 (.int .i64 ((num : Int) + 1))
      rw [HBb.out]
      refine ⟨rfl, ?_, heap_set hP7 8 _ rfl, v6, (hdF.keep kS1 (Av.row HP6.out (by decide))).keep kS2 (Av.row hP7 (by decide))⟩
      have hZ6 : Z[6] ∈ Z := List.getElem_mem h6
      refine (((HCg.out.mono ?_).then (k6.mono ?_)).then_set (fun _ => List.mem_cons_self) 7 _).then_set (fun _ => List.mem_cons_self) 8 _
      · intro x hx _
        simp only [List.mem_cons] at hx
        rcases hx with rfl | rfl | hx
        · simp
        · simp [hZ6]
        · simp [show x ∈ (vs 6).ownBlock.toList from hx]
      · intro x hx _
        simp only [List.mem_cons] at hx
        rcases hx with rfl | hx
        · simp
        · simp [hx]
end Go.Proofs.YtliicpedddcfiaaGreat
