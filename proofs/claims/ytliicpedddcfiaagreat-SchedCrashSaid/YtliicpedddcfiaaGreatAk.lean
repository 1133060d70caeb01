/- Lemmas and walks: Walks: a view's first read, told exactly. Printed by mkKn.py. Walks: what a view has read, one block, is told. Walks: numbers read out of bytes, the least first; bytes compared. Walks: how far a zone is written (zdev.Pointer 62); a row that is no frame (store.strange 84). Walks: a device with any count of ops and of reads: its parts, a block is read, it is flushed. Walks: slots of a device whose zones for the slots are empty. Walks: what stands in a log's zones is read. Walks: what a crash leaves of a device whose blocks are all for good (zdev.Crash). Walks: a crash behind what waits; how many wait and are open; a handle that is none. Its head is printed by mkUh.py. Walks: a device on which nothing was flushed crashes, and is mounted anew. -/
import Derived.Test.YtliicpedddcfiaaGreatAe
import Derived.Test.YtliicpedddcfiaaGreatAh
import Derived.Test.YtliicpedddcfiaaGreatAi
import Derived.Test.YtliicpedddcfiaaGreatAj
namespace Go.Proofs.YtliicpedddcfiaaGreat
open Go.RowKit Go.Lib

/-- a view that has read one block, which was no write of its own. -/
def RdOne (w : World) (base Q X W V : Nat) (t b : Int) : Prop :=
  ∃ s g c l, ViewT w Q X W V t s ∧ w.ownsRow base 144 3 s 1 [.int .i64 b, .slice (some ⟨g, 0, none⟩) 40 c, .bool false] ∧ Bs w (some ⟨g, 0, none⟩) l ∧ l.length = 40 ∧ Bt w g
theorem RdOne.keep {w w' : World} {S : List Nat} {base Q X W V : Nat} {t b : Int} (h : RdOne w base Q X W V t b) (hc : Chg S w w') (hS : Av w S [258, 144, 5]) : RdOne w' base Q X W V t b := by
  obtain ⟨s, g, c, l, h1, h2, h3, h4, ct, h5⟩ := h
  have ng : g ∉ S := hS.ne h5 (by simp)
  refine ⟨s, g, c, l, hc.heap h1 (hS.ne h1 (by simp)), ?_, h3.chgB hc ng, h4, ct, hc.heap h5 ng⟩
  exact own_chgB h2 hc (fun k hk => by obtain ⟨-, cur, hh⟩ := own_elem h2 hk; exact hS.ne hh (by simp))
theorem gread_endD {w wb wc w5 : World} {base Q X W V n m g g5 cp5 : Nat} {t : Int} {s : Value} {xs : List Value} {ys : List Value} {l : List UInt8} {Cb : Array Value} (HRt : Rt w base (V :: Q :: s.ownBlock.toList)) (k9 : Chg [V] w wb) (ky : Chg [] wb wc) (hm : m ≤ n) (hB : Bs wb (some ⟨g, 0, none⟩) l)
    (gy : wc.heap[g]? = some (.cells Cb 5 (0, 0))) (hgn : g ∉ s.ownBlock.toList) (hgQ : Q ∉ [g]) (oy : wc.ownsRow base 144 3 s m xs) (qy : ViewT wc Q X W V t s) (hQn : Q ∉ s.ownBlock.toList) (sb : SpV wc base V (n + 1))
    (o5 : w5.ownsRow base 144 3 (.slice (some ⟨g5, 0, none⟩) (m + 1) cp5) (m + 1) ys) (k5 : Chg s.ownBlock.toList wc w5) {b : Int} {g2 c2 : Nat} {l2 : List UInt8} (hm0 : m = 0 ∧ xs = []) (hys : ys = xs ++ [.int .i64 b, .slice (some ⟨g2, 0, none⟩) 40 c2, .bool false]) (hB2 : Bs wc (some ⟨g2, 0, none⟩) l2) (hl2 : l2.length = 40) (hT2 : Bt wc g2) :
    ∃ T, Chg T w (w5.setCell ⟨Q, 4, none⟩ (.slice (some ⟨g5, 0, none⟩) (m + 1) cp5)) ∧ Rt w base T ∧ Bs (w5.setCell ⟨Q, 4, none⟩ (.slice (some ⟨g5, 0, none⟩) (m + 1) cp5)) (some ⟨g, 0, none⟩) l ∧ VwT (w5.setCell ⟨Q, 4, none⟩ (.slice (some ⟨g5, 0, none⟩) (m + 1) cp5)) base Q X W V t (n + 1) ∧ SpV (w5.setCell ⟨Q, 4, none⟩ (.slice (some ⟨g5, 0, none⟩) (m + 1) cp5)) base V (n + 1) ∧ Bt (w5.setCell ⟨Q, 4, none⟩ (.slice (some ⟨g5, 0, none⟩) (m + 1) cp5)) g ∧ RdOne (w5.setCell ⟨Q, 4, none⟩ (.slice (some ⟨g5, 0, none⟩) (m + 1) cp5)) base Q X W V t b := by
  have q5 := k5.heap qy hQn
  have g5h := k5.heap gy hgn
  have kS := Chg.set w5 Q 4 (.slice (some ⟨g5, 0, none⟩) (m + 1) cp5)
  have hgQ' : g ∉ [Q] := by simpa using (fun e => hgQ (by simp [e]))
  have hav : Av wc s.ownBlock.toList [197, 313] := by
    intro x hx cs t fr hh
    rcases oy.2 with ⟨rfl, _⟩ | ⟨k, cap, cur, rfl, hb, hk, rest⟩
    · simp [Value.ownBlock] at hx
    · simp [Value.ownBlock] at hx
      subst hx
      rw [hk] at hh
      cases hh
      simp
  have hq1 : Av w5 [Q] [197, 313] := fun x hx cs t fr hh => by
    rw [List.mem_singleton] at hx; subst hx; rw [q5] at hh; cases hh; simp
  have hq2 : Av w5 [Q] [144] := fun x hx cs t fr hh => by
    rw [List.mem_singleton] at hx; subst hx; rw [q5] at hh; cases hh; simp
  refine ⟨V :: Q :: s.ownBlock.toList, ?_, HRt, ((hB.chg ky).chgT k5 hgn).chgT kS hgQ', ⟨_, m + 1, ys, heap_set q5 4 _ rfl, by omega, ownsRow_av o5 kS hq2⟩, (sb.keep k5 hav).keep kS hq1, ⟨_, kS.heap g5h hgQ'⟩, ?_⟩
  · refine (((k9.mono ?_).then (ky.mono ?_)).then (k5.mono ?_)).then (kS.mono ?_)
    · intro x hx _; simp at hx; simp [hx]
    · intro x hx _; cases hx
    · intro x hx _; simp only [List.mem_cons]; exact Or.inr (Or.inr hx)
    · intro x hx _; simp at hx; simp [hx]
  · obtain ⟨ct, hT2⟩ := hT2
    have hg2n : g2 ∉ s.ownBlock.toList := own_block_ne oy hT2 (by decide)
    have hg2Q : g2 ∉ [Q] := by simpa using (heap_ne hT2 qy (by simp))
    have oz := ownsRow_av o5 kS hq2
    obtain ⟨rfl, rfl⟩ := hm0
    subst hys
    exact ⟨_, g2, c2, l2, heap_set q5 4 _ rfl, oz, (hB2.chgT k5 hg2n).chgT kS hg2Q, hl2, ct, kS.heap (k5.heap hT2 hg2n) hg2Q⟩
set_option maxRecDepth 100000 in
set_option maxHeartbeats 20000000 in
theorem gread_oneD (w : World) {base Q X rx W rw V n lo : Nat} {last t : Int} {Lv : List (Int × Value)} {vs : Int → List (Int × List UInt8)} {L : List (Int × Value)} {b : Int} {l : List UInt8} (hX : VerG w lo X rx last Lv vs) (hW : BufAt w W rw L) (hB : BlkT w L (vs b) t b l) (hV : VwT w base Q X W V t n) (hS : SpV w base V n) (hn : n ≤ 11) (hn0 : n = 0) (hnone : getL L b = none) (hbase : base ≤ Q ∧ base ≤ V) (h0 : 0 ≤ b) (h1 : b < 258) :
    Calls Tryz.prog 148 #[.pointer (some ⟨Q, 0, none⟩), .agg #[.int .i64 b, .int .i64 1]] w fun e w' =>
    ∃ g c' T, e = .returned (.tuple #[.slice (some ⟨g, 0, none⟩) 40 c', .int .i64 0]) ∧ 40 ≤ c' ∧ Chg T w w' ∧ Rt w base T ∧ w.heap.size ≤ g ∧ Bs w' (some ⟨g, 0, none⟩) l ∧ VwT w' base Q X W V t (n + 1) ∧ SpV w' base V (n + 1) ∧ Bt w' g ∧ RdOne w' base Q X W V t b := by
  have HN := Lib.hid hnone
  have HN0 := Lib.hid hn0
  clear hnone hn0
  have k0 : Chg [] w (w.alloc (.cells #[.int .i64 b, .int .i64 1] 197)) := Chg.alloc w _
  have K0 := heap_new w (.cells #[.int .i64 b, .int .i64 1] 197)
  have hX1 := hX.keep k0
  have hW1 := hW.keep k0 (by simp) (by simp)
  have hB1 := hB.keep k0
  obtain ⟨s, m, xs, qw, hm, how⟩ := hV
  have HXS : Hid (m = 0 ∧ xs = []) := Lib.hid (by
    have e0 : m = 0 := by have := HN0.out; omega
    have h9 := how.1
    rw [e0] at h9
    exact ⟨e0, List.eq_nil_of_length_eq_zero (by simpa using h9)⟩)
  have q := k0.heap qw (by simp)
  have ho := ownsRow_chg how k0
  have hS1 := hS.keep0 k0
  have HRt : Rt w base (V :: Q :: s.ownBlock.toList) := by
    intro x hx
    simp only [List.mem_cons] at hx
    rcases hx with rfl | rfl | hx
    · exact ⟨hbase.2, _, _, _, hS.choose_spec.choose_spec.1, by simp⟩
    · exact ⟨hbase.1, _, _, _, qw, by simp⟩
    · rcases how.2 with ⟨rfl, _⟩ | ⟨k, cap, cur, rfl, hb, hk, rest⟩
      · simp [Value.ownBlock] at hx
      · simp [Value.ownBlock] at hx
        subst hx
        exact ⟨hb, _, _, _, hk, by simp⟩
  clear qw how
  have q0 : (w.alloc (.cells #[.int .i64 b, .int .i64 1] 197)).cell? ⟨Q, 0, none⟩ = some (.pointer (some ⟨X, 0, none⟩)) := cell_is q 0 rfl
  have q1 : (w.alloc (.cells #[.int .i64 b, .int .i64 1] 197)).cell? ⟨Q, 1, none⟩ = some (.pointer (some ⟨W, 0, none⟩)) := cell_is q 1 rfl
  have q2 : (w.alloc (.cells #[.int .i64 b, .int .i64 1] 197)).cell? ⟨Q, 2, none⟩ = some (.int .i64 t) := cell_is q 2 rfl
  have q3 : (w.alloc (.cells #[.int .i64 b, .int .i64 1] 197)).cell? ⟨Q, 3, none⟩ = some (.pointer (some ⟨V, 0, none⟩)) := cell_is q 3 rfl
  have a0 : (w.alloc (.cells #[.int .i64 b, .int .i64 1] 197)).cell? ⟨w.heap.size, 0, none⟩ = some (.int .i64 b) := cell_is K0 0 rfl
  have a1 : (w.alloc (.cells #[.int .i64 b, .int .i64 1] 197)).cell? ⟨w.heap.size, 1, none⟩ = some (.int .i64 1) := cell_is K0 1 rfl
  go_enter Tryz.func148, Tryz.ntmps148
  go_wp2_with fail
  go_step3
  go_wp2_with fail
  generalize w.alloc (.cells #[.int .i64 b, .int .i64 1] 197) = w1 at *
  generalize hK : w.heap.size = K at *
  go_region_held3 (fun wx => wx.cell? ⟨Q, 0, none⟩ = some (.pointer (some ⟨X, 0, none⟩)) ∧ wx.cell? ⟨Q, 2, none⟩ = some (.int .i64 t) ∧ wx.cell? ⟨K, 0, none⟩ = some (.int .i64 b) ∧ wx.cell? ⟨K, 1, none⟩ = some (.int .i64 1))
    (first | (exact ⟨q0, q2, a0, a1⟩) | (exact ⟨k2.cell q0 (by simp), k2.cell q2 (by simp), k2.cell a0 (by simp), k2.cell a1 (by simp)⟩))
    (first | (go_at_call 177; refine (grange_one w1.drew (t := t) (hX1.keep (Chg.refl [] w1).drew) h0 h1).mono ?_; rintro e w2 ⟨g, c', rfl, hc', k2, o2, hy40⟩))
  have HY := Lib.hid hy40
  clear hy40
  have kk2 := (Chg.refl [] w1).drew.then k2
  have q := kk2.heap q (by simp)
  have K0 := kk2.heap K0 (by simp)
  have ho := ownsRow_chg ho kk2
  have hW2 := hW1.keep kk2 (by simp) (by simp)
  have hB2 := hB1.keep kk2
  have hS2 := hS1.keep0 kk2
  have hK2 : K ≤ w2.heap.size := by have := k0.size; have := kk2.size; omega
  have ho2 : w2.ownsRow K 5 1 (.slice (some ⟨g, 0, none⟩) 40 c') 40 (Lib.byteCells (bytT (vs b) t)) := ownsRow_base o2 (by have := k0.size; show K ≤ w1.heap.size; omega)
  have kk := k0.then kk2
  clear q0 q1 q2 q3 a0 a1 hX1 hW1 hB1 hS1 o2 k0 k2 kk2
  have q3 : w2.cell? ⟨Q, 3, none⟩ = some (.pointer (some ⟨V, 0, none⟩)) := cell_is q 3 rfl
  have a0 : w2.cell? ⟨K, 0, none⟩ = some (.int .i64 b) := cell_is K0 0 rfl
  have a1 : w2.cell? ⟨K, 1, none⟩ = some (.int .i64 1) := cell_is K0 1 rfl
  go_wp2_with fail
  have kx : Chg [] w2 (w2.drew.alloc (.cells #[.int .i64 b, .int .i64 1] 197)) := (Chg.refl [] w2).drew.then_alloc _
  have kx0 := heap_new w2.drew (.cells #[.int .i64 b, .int .i64 1] 197)
  have hVK : V ≠ K := by obtain ⟨_, _, hh, _⟩ := hS2; exact heap_ne hh K0 (by simp)
  have hVQ : V ≠ Q := by obtain ⟨_, _, hh, _⟩ := hS2; exact heap_ne hh q (by simp)
  have hbw : base ≤ (w2.drew.alloc (.cells #[.int .i64 b, .int .i64 1] 197)).heap.size := by have := heap_lt q; have := kx.size; omega
  have kx2 : Chg [V] w2 (w2.drew.alloc (.cells #[.int .i64 b, .int .i64 1] 197)) := kx.mono (fun x hx _ => by cases hx)
  go_region_held3 (fun wx => wx.cell? ⟨Q, 3, none⟩ = some (.pointer (some ⟨V, 0, none⟩)) ∧ wx.cell? ⟨K, 0, none⟩ = some (.int .i64 b) ∧ wx.cell? ⟨K, 1, none⟩ = some (.int .i64 1))
    (first | (exact ⟨q3, a0, a1⟩) | (exact ⟨kx.cell q3 (by simp), kx.cell a0 (by simp), kx.cell a1 (by simp)⟩) | (exact ⟨(kx2.then k3).cell q3 (by simpa using hVQ.symm), (kx2.then k3).cell a0 (by simpa using hVK.symm), (kx2.then k3).cell a1 (by simpa using hVK.symm)⟩))
    (first | (go_at_call 178; refine (iadd_one (w2.drew.alloc (.cells #[.int .i64 b, .int .i64 1] 197)) (base := base) (V := V) (n := n) (E := w2.drew.heap.size) (hS2.keep0 kx) hn hbw h0 h1 (cell_is kx0 0 rfl) (cell_is kx0 1 rfl)).mono ?_; rintro e w3 ⟨rfl, k3, hS3⟩))
  have k4 := kx2.then k3
  have hR4 : Rt w2 base [V] := fun x hx => by
    rw [List.mem_singleton] at hx
    subst hx
    obtain ⟨_, _, hh, _⟩ := hS2
    exact ⟨hbase.2, _, _, _, hh, by simp⟩
  have q := k4.heap q (by simpa using hVQ.symm)
  have K0 := k4.heap K0 (by simpa using hVK.symm)
  have hW3 := hW2.keep k4 (hR4.cells hW2.1 (by simp)) (hR4.map hW2.2)
  have hB3 := hB2.keepT k4 hR4
  have hz : Bs w2 (some ⟨g, 0, none⟩) (bytT (vs b) t) ∧ Bt w2 g ∧ K ≤ g := by
    rcases ho2.2 with ⟨e, h0⟩ | ⟨g', cap, cur, e, hA, hgt, _⟩
    · cases h0
    · cases e; exact ⟨Bs.own ho2, ⟨_, hgt⟩, hA⟩
  have hgV : g ∉ [V] := hR4.cells hz.2.1.choose_spec (by simp)
  have kw3 : Chg [V] w w3 := (kk.mono (fun x hx _ => by cases hx)).then k4
  have hRw : Rt w base [V] := fun x hx => by
    rw [List.mem_singleton] at hx
    subst hx
    obtain ⟨_, _, hh, _⟩ := hS
    exact ⟨hbase.2, _, _, _, hh, by simp⟩
  have ho3 := ownsRow_chgV ho k4 hS2.choose_spec.choose_spec.1
  obtain ⟨cur, hg3, hcur⟩ : ∃ cur, w3.heap[g]? = some (.cells cur 5 (0, 0)) ∧ cur.size = c' * 1 ∧ cur.toList.take (40 * 1) = Lib.byteCells (bytT (vs b) t) := by
    rcases ho2.2 with ⟨e, h0⟩ | ⟨g', cap, cur, e, hA, hgt, _, _, hsz, htk⟩
    · cases h0
    · cases e; exact ⟨cur, k4.heap hgt hgV, hsz, htk⟩
  have HC := Lib.hid hcur
  clear hcur
  have hgK := hz.2.2
  clear q3 a0 a1 hW2 hB2 hS2 hz ho2 kx kx2 kx0 k3 k4 hR4 hgV hX hW hS kk hbw hB
  clear ho
  have a0 : w3.cell? ⟨K, 0, none⟩ = some (.int .i64 b) := cell_is K0 0 rfl
  have a1 : w3.cell? ⟨K, 1, none⟩ = some (.int .i64 1) := cell_is K0 1 rfl
  have q1 : w3.cell? ⟨Q, 1, none⟩ = some (.pointer (some ⟨W, 0, none⟩)) := cell_is q 1 rfl
  have q4 : w3.cell? ⟨Q, 4, none⟩ = some s := cell_is q 4 rfl
  go_wp2_with fail
  go_step3
  go_wp2_with fail
  have hb0 : IntKind.i64.wrap b = b := by rw [IntKind.wrap_i64]; omega
  go_loopw [55] (fun i wr => (i = .int .i64 0 ∧ wr = w3) ∨ (i = .int .i64 1 ∧ ∃ T, Chg T w wr ∧ Rt w base T ∧ Bs wr (some ⟨g, 0, none⟩) l ∧ VwT wr base Q X W V t (n + 1) ∧ SpV wr base V (n + 1) ∧ Bt wr g ∧ RdOne wr base Q X W V t b)) (fun i _ => 1 - (intOf i).toNat)
  case atStart => exact Or.inl ⟨rfl, rfl⟩
  case round =>
    rcases hrel with ⟨rfl, rfl⟩ | ⟨rfl, T, kT, hT, hBs, hVw, hSp, hBt, hRd⟩
    · rcases hB3 with ⟨hg0, rfl⟩ | ⟨gb, cb, hg1, hbs, hl40, hbt⟩
      · go_wp2_with fail
        go_region_held3 (fun wx => wx.cell? ⟨Q, 1, none⟩ = some (.pointer (some ⟨W, 0, none⟩)) ∧ wx.cell? ⟨K, 0, none⟩ = some (.int .i64 b)) (first | (exact ⟨q1, a0⟩))
          (first | (go_at_call 179; refine (bget_none wr.drew (hW3.keep (Chg.refl [] wr).drew (by simp) (by simp)) hg0).mono ?_; rintro e wa ⟨rfl, rfl⟩))
        have k7 : Chg [] wr wr.drew := (Chg.refl [] wr).drew
        have hgb : wr.drew.heap[g]? = some (.cells cur 5 (0, 0)) := hg3
        have qb : ViewT wr.drew Q X W V t s := q
        have Kb : wr.drew.heap[K]? = some (.cells #[.int .i64 b, .int .i64 1] 197 (0, 0)) := K0
        have ob := ownsRow_chg ho3 k7
        have sb := hS3.keep0 k7
        have k9 : Chg [V] w wr.drew := kw3.drew
        have hBb : Bs wr.drew (some ⟨g, 0, none⟩) (bytT (vs b) t) := Bs.block hgb (by have := HC.out.2; rw [HY.out]; simpa using this)
        have hKQ : K ≠ Q := heap_ne Kb qb (by simp)
        have hgQ : Q ∉ [g] := by simpa using heap_ne qb hgb (by simp)
        clear hg3 q K0 ho3 hS3 kw3 k7 hW3 q1 a0 a1 q4
        generalize wr.drew = wb at *
        have a0 : wb.cell? ⟨K, 0, none⟩ = some (.int .i64 b) := cell_is Kb 0 rfl
        have q4 : wb.cell? ⟨Q, 4, none⟩ = some s := cell_is qb 4 rfl
        have a0d : wb.drew.cell? ⟨K, 0, none⟩ = some (.int .i64 b) := a0
        have q4d : wb.drew.cell? ⟨Q, 4, none⟩ = some s := q4
        have HBb := Lib.hid hBb
        go_wp2_with fail
        go_region_law
          (first
            | (go_simp; go_at_call 47; refine (clone_bt wb.drew (l := bytT (vs b) t) (m := 40) HY.out (by decide) (by decide) (HBb.out.chg (Chg.refl [] wb).drew)).mono ?_; rintro e w6 ⟨g2, c2, rfl, k6, hb6, _, ht6⟩; have a06 := k6.cell a0d (by simp); have q46 := k6.cell q4d (by simp); have ky : Chg [] wb (w6.alloc (.cells #[.int .i64 b, .slice (some ⟨g2, 0, none⟩) 40 c2, .bool false] 144)) := ((Chg.refl [] wb).drew.then k6).then_alloc _; have y0 := heap_new w6 (.cells #[.int .i64 b, .slice (some ⟨g2, 0, none⟩) 40 c2, .bool false] 144); have oy := ownsRow_chg ob ky; have qy := ky.heap qb (by simp); have q4y := cell_is qy 4 rfl; have a0y := cell_is (ky.heap Kb (by simp)) 0 rfl; have hQn := own_block_ne oy qy (by decide); have hby : base ≤ (w6.alloc (.cells #[.int .i64 b, .slice (some ⟨g2, 0, none⟩) 40 c2, .bool false] 144)).heap.size := (by have := heap_lt qy; omega); have gy := ky.heap hgb (by simp); have hgn := own_block_ne oy gy (by decide); have hz6 := (Chg.alloc (S := []) w6 (.cells #[.int .i64 b, .slice (some ⟨g2, 0, none⟩) 40 c2, .bool false] 144)); have hb7 := hb6.chg hz6; have ht7 : Bt (w6.alloc (.cells #[.int .i64 b, .slice (some ⟨g2, 0, none⟩) 40 c2, .bool false] 144)) g2 := (by obtain ⟨ct, ht6⟩ := ht6; exact ⟨ct, hz6.heap ht6 (by simp)⟩))
            | (refine step_append_rd rfl (.tmp 100) (.tmp 108) rfl base _ m xs rfl oy w6.heap.size 1 _ _ _ rfl (cell_is y0 0 rfl) (cell_is y0 1 rfl) (cell_is y0 2 rfl) ⟨rfl, rfl, rfl⟩ (by omega) hby ?_; intro g5 cp5 w5 o5 k5; have q5 := k5.heap qy hQn; have q45 := cell_is q5 4 rfl; have f45 := unfrozen q5 4))
        all_goals
          have HZ := Lib.hid (gread_endD HRt k9 ky hm HBb.out gy hgn hgQ oy qy hQn (sb.keep0 ky) (g5 := g5) (cp5 := cp5) (w5 := w5) o5 k5 (b := b) (g2 := g2) (c2 := c2) HXS.out rfl hb7 HY.out ht7)
          clear HBb gy hgn sb o5 k5 q5 f45 q45 hBb
          go_wp2_with fail
          go_roundw
          case rel => exact Or.inr ⟨rfl, HZ.out⟩
          case measure => decide
      · rw [HN.out] at hg1
        cases hg1
    · have hgw : w.heap.size ≤ g := by omega
      go_wp2_with fail
      simp only [Exit.noGoto]
      go_ret2
      exact ⟨g, c', T, rfl, hc', kT, hT, hgw, hBs, hVw, hSp, hBt, hRd⟩
set_option maxRecDepth 100000 in
set_option maxHeartbeats 2000000 in
theorem tread_d (w : World) {base : Nat} {d : Ids} {p : Par} {F : World → Prop} {q : Int → List UInt8} {L : List (Int × Value)} {n : Nat} {b : Int} (hf : Fr base d p F) (h : Su w base d p F q L n) (hn : n ≤ 11) (hn0 : n = 0) (hnone : getL L b = none) (h0 : 0 ≤ b) (h1 : b < 258) :
    Calls Tryz.prog 127 #[.pointer (some ⟨d.M, 0, none⟩), .int .i64 p.h, .agg #[.int .i64 b, .int .i64 1]] w fun e w' =>
    ∃ g c', e = .returned (.tuple #[.slice (some ⟨g, 0, none⟩) 40 c', .int .i64 0]) ∧ 40 ≤ c' ∧ Ow base w w' ∧ Su w' base d p F q L (n + 1) ∧ w.heap.size ≤ g ∧ Bs w' (some ⟨g, 0, none⟩) (q b) ∧ Bt w' g ∧ RdOne w' base d.Q d.X d.W d.V p.t b := by
  have HN := Lib.hid (And.intro hn0 hnone)
  clear hn0 hnone
  have k0 : Chg [] w (w.alloc (.cells #[.int .i64 b, .int .i64 1] 197)) := Chg.alloc w _
  have K0 := heap_new w (.cells #[.int .i64 b, .int .i64 1] 197)
  have h2 := h.keep hf k0
  have HO := Lib.hid (topen_gen _ (hf.need _ h2.env) h2.tx)
  clear h
  go_enter Tryz.func127, Tryz.ntmps127
  go_wp2_with fail
  generalize w.alloc (.cells #[.int .i64 b, .int .i64 1] 197) = w1 at *
  generalize hK : w.heap.size = K at *
  refine HO.out.mono ?_
  rintro e w2 ⟨rfl, rfl⟩
  have t5 : w1.cell? ⟨d.T, 5, none⟩ = some (.pointer (some ⟨d.Q, 0, none⟩)) := cell_is h2.tx 5 rfl
  have a0 : w1.cell? ⟨K, 0, none⟩ = some (.int .i64 b) := cell_is K0 0 rfl
  have a1 : w1.cell? ⟨K, 1, none⟩ = some (.int .i64 1) := cell_is K0 1 rfl
  go_wp2_with fail
  have hbuf := h2.buf
  have hq := h2.blk
  have h3 := h2.keep hf (Chg.refl [] w1).drew
  go_region_held3 (fun wx => wx.cell? ⟨d.T, 5, none⟩ = some (.pointer (some ⟨d.Q, 0, none⟩)) ∧ wx.cell? ⟨K, 0, none⟩ = some (.int .i64 b) ∧ wx.cell? ⟨K, 1, none⟩ = some (.int .i64 1))
    (first | (exact ⟨t5, a0, a1⟩) | (exact ⟨cell_is t6 5 rfl, cell_is K6 0 rfl, cell_is K6 1 rfl⟩))
    (first | (go_at_call 148; refine (gread_oneD w1.drew (hf.need _ h3.env).ver (hbuf.keep (Chg.refl [] w1).drew (by simp) (by simp)) (hq b h0 h1) h3.vw h3.sp hn HN.out.1 HN.out.2 ⟨h3.high.1, h3.high.2.1⟩ h0 h1).mono ?_; rintro e w6 ⟨g, c', T, rfl, hc', k6, hT, hg, hB6, hV6, hS6, hBt6, hRd6⟩; have t6 := k6.heap h3.tx (hT.cells h3.tx (by simp)); have K6 := k6.heap K0 (hT.cells K0 (by simp))))
  have hlow : ∀ x ∈ T, base ≤ x := fun x hx => (hT x hx).1
  have how0 : Ow base w1.drew w6 := ow_rt k6 hT
  have hfin : Su w6 base d p F q L (n + 1) := ⟨hf.keep _ _ how0 h3.env, t6, (hbuf.keep (Chg.refl [] w1).drew (by simp) (by simp)).keep k6 (hT.cells hbuf.1 (by simp)) (hT.map hbuf.2), h2.keys, fun x hx hx' => ((hq x hx hx').keep (Chg.refl [] w1).drew).keepT k6 hT, hV6, hS6, h3.high⟩
  have how : Ow base w w6 := (Ow.of_chg (base := base) k0.drew).trans how0
  have hsz : w.heap.size ≤ g := by have := k0.size; have h9 : w1.drew.heap.size = w1.heap.size := rfl; omega
  clear hq hbuf h2 h3 hV6 hS6 k6 hT t6 K6 how0
  go_wp2_with fail
  go_ret2
  exact ⟨g, c', rfl, hc', how, hfin, hsz, hB6, hBt6, hRd6⟩
set_option maxRecDepth 100000 in
set_option maxHeartbeats 2000000 in
theorem sread_d (w : World) {base : Nat} {d : Ids} {p : Par} {F : World → Prop} {q : Int → List UInt8} {L : List (Int × Value)} {n : Nat} {b : Int} (hf : Fr base d p F) (h : Su w base d p F q L n) (hn : n ≤ 11) (hn0 : n = 0) (hnone : getL L b = none) (h0 : 0 ≤ b) (h1 : b < 258) :
    Calls Tryz.prog 89 #[.pointer (some ⟨d.P, 0, none⟩), .int .i64 p.h, .agg #[.int .i64 b, .int .i64 1]] w fun e w' =>
    ∃ g c', e = .returned (.tuple #[.slice (some ⟨g, 0, none⟩) 40 c', .int .i64 0]) ∧ 40 ≤ c' ∧ Ow base w w' ∧ Su w' base d p F q L (n + 1) ∧ w.heap.size ≤ g ∧ Bs w' (some ⟨g, 0, none⟩) (q b) ∧ Bt w' g ∧ RdOne w' base d.Q d.X d.W d.V p.t b := by
  have HN := Lib.hid (And.intro hn0 hnone)
  clear hn0 hnone
  have k0 : Chg [] w (w.alloc (.cells #[.int .i64 b, .int .i64 1] 197)) := Chg.alloc w _
  have K0 := heap_new w (.cells #[.int .i64 b, .int .i64 1] 197)
  have h2 := h.keep hf k0
  have HO := Lib.hid (dead_gen _ (hf.need _ h2.env))
  clear h
  go_enter Tryz.func89, Tryz.ntmps89
  go_wp2_with fail
  generalize w.alloc (.cells #[.int .i64 b, .int .i64 1] 197) = w1 at *
  generalize hK : w.heap.size = K at *
  refine HO.out.mono ?_
  rintro e w2 ⟨rfl, rfl⟩
  have t5 : w1.cell? ⟨d.P, 5, none⟩ = some (.pointer (some ⟨d.M, 0, none⟩)) := (hf.need _ h2.env).p5
  have a0 : w1.cell? ⟨K, 0, none⟩ = some (.int .i64 b) := cell_is K0 0 rfl
  have a1 : w1.cell? ⟨K, 1, none⟩ = some (.int .i64 1) := cell_is K0 1 rfl
  go_wp2_with fail
  have h3 := h2.keep hf (Chg.refl [] w1).drew
  go_region_held3 (fun wx => wx.cell? ⟨d.P, 5, none⟩ = some (.pointer (some ⟨d.M, 0, none⟩)) ∧ wx.cell? ⟨K, 0, none⟩ = some (.int .i64 b) ∧ wx.cell? ⟨K, 1, none⟩ = some (.int .i64 1))
    (first | (exact ⟨t5, a0, a1⟩) | (exact ⟨t6, cell_is K6 0 rfl, cell_is K6 1 rfl⟩))
    (first | (go_at_call 127; refine (tread_d w1.drew hf h3 hn HN.out.1 HN.out.2 h0 h1).mono ?_; rintro e w6 ⟨g, c', rfl, hc', k6, h6, hg, hB6, hBt6, hRd6⟩; have t6 := (hf.need _ h6.env).p5; have K6 := k6.heap K0 (by simp)))
  have hsz : w.heap.size ≤ g := by have := k0.size; have h9 : w1.drew.heap.size = w1.heap.size := rfl; omega
  have how := (Ow.of_chg (base := base) k0.drew).trans k6
  clear h2 h3 t6 K6 k6
  go_wp2_with fail
  go_ret2
  exact ⟨g, c', rfl, hc', how, h6, hsz, hB6, hBt6, hRd6⟩
namespace C2
set_option maxRecDepth 100000 in
set_option maxHeartbeats 4000000 in
theorem ccall_readD (w : World) {K Bb base n : Nat} {pp : Option Addr} {pn pc : Nat} {d : Ids} {p : Par} {F : World → Prop} {q : Int → List UInt8} {L : List (Int × Value)} {cs bc : Array Value} {oh b : Int} (hB : SchB w K cs) (h1 : cs[1]? = some (.pointer (some ⟨d.P, 0, none⟩)))
    (hb : w.heap[Bb]? = some (.cells bc 85 (0, 0))) (hbc : bc[0]? = some (.int .i64 p.h)) (hf : Fr base d p F) (h : Su w base d p F q L n) (h0 : 0 ≤ b) (h2 : b < 258) (hn : n ≤ 11) (hn0 : n = 0) (hnone : getL L b = none) :
    Calls Tryz.prog 51 #[.pointer (some ⟨K, 0, none⟩), .pointer (some ⟨K, 6, none⟩), .pointer (some ⟨Bb, 0, none⟩), .agg #[.int .i64 2, .int .i64 oh, .int .i64 b, .int .i64 1, .slice pp pn pc], .agg #[.int .i64 2, .int .i64 0, .int .i64 oh, .int .i64 0, .slice none 0 0]] w fun e w' =>
      ∃ g c2, e = .returned (.tuple #[.agg #[.int .i64 2, .int .i64 0, .int .i64 oh, .int .i64 0, .slice (some ⟨g, 0, none⟩) 40 c2], .bool true]) ∧ Ow base w w' ∧ Su w' base d p F q L (n + 1) ∧ Bs w' (some ⟨g, 0, none⟩) (q b) ∧ w.heap.size ≤ g ∧ Bt w' g ∧ RdOne w' base d.Q d.X d.W d.V p.t b := by
  have kk : Chg [] w (((w.alloc (.cells #[.int .i64 2, .int .i64 oh, .int .i64 b, .int .i64 1, .slice pp pn pc] 33)).alloc (.cells #[.int .i64 2, .int .i64 0, .int .i64 oh, .int .i64 0, .slice none 0 0] 39)).alloc (.cells #[.int .i64 0, .int .i64 0, .int .i64 0, .int .i64 0, .slice none 0 0] 39)) := ((Chg.alloc w _).then_alloc _).then_alloc _
  obtain ⟨y1, y2, y3⟩ := heap_new3 w (.cells #[.int .i64 2, .int .i64 oh, .int .i64 b, .int .i64 1, .slice pp pn pc] 33) (.cells #[.int .i64 2, .int .i64 0, .int .i64 oh, .int .i64 0, .slice none 0 0] 39) (.cells #[.int .i64 0, .int .i64 0, .int .i64 0, .int .i64 0, .slice none 0 0] 39)
  generalize hw0 : ((w.alloc (.cells #[.int .i64 2, .int .i64 oh, .int .i64 b, .int .i64 1, .slice pp pn pc] 33)).alloc (.cells #[.int .i64 2, .int .i64 0, .int .i64 oh, .int .i64 0, .slice none 0 0] 39)).alloc (.cells #[.int .i64 0, .int .i64 0, .int .i64 0, .int .i64 0, .slice none 0 0] 39) = w0 at *
  have hz1 := heap_lt y1
  generalize hz : w.heap.size = z at *
  have k1 : w0.cell? ⟨K, 1, none⟩ = some (.pointer (some ⟨d.P, 0, none⟩)) := kk.cell (cell_is hB 1 h1) (by simp)
  have b0 : w0.cell? ⟨Bb, 0, none⟩ = some (.int .i64 p.h) := kk.cell (cell_is hb 0 hbc) (by simp)
  have z0 := cell_is y1 0 rfl
  have z2 := cell_is y1 2 rfl
  have z3 := cell_is y1 3 rfl
  have kd : Chg [] w w0.drew := kk.drew
  have HW := Lib.hid (sread_d w0.drew (b := b) hf (h.keep hf kd) hn hn0 hnone h0 h2)
  have y2d : w0.drew.heap[z + 1]? = _ := y2
  have y3d : w0.drew.heap[z + 2]? = _ := y3
  have HX := Lib.hid (And.intro y2d (And.intro y3d (And.intro kd (show w0.drew.heap.size = w0.heap.size from rfl))))
  have HF := Lib.hid hf
  have HE := Lib.hid h.env
  have hbz : base ≤ z := by have h9 := h.high.1; have : d.Q < w.heap.size := (by obtain ⟨v, m, xs, hv, -⟩ := h.vw; exact heap_lt hv); omega
  have HKB := Lib.hid (show w0.drew.heap[K]? = some (.cells cs 72 (0, 0)) ∧ w0.drew.heap[Bb]? = some (.cells bc 85 (0, 0)) ∧ w0.drew.heap[z]? = _ from ⟨kd.heap hB (by simp), kd.heap hb (by simp), y1⟩)
  have HC1 := Lib.hid (And.intro h1 hbc)
  clear hB h1 hb hbc hf h y2 y3 y2d y3d kk
  go_enter Tryz.func51, Tryz.ntmps51
  go_upto_region 3 with fail
  obtain ⟨hKd, hBd, hzd⟩ := HKB.out
  have fA : w0.drew.cell? ⟨K, 1, none⟩ = some (.pointer (some ⟨d.P, 0, none⟩)) ∧ w0.drew.cell? ⟨Bb, 0, none⟩ = some (.int .i64 p.h) ∧ w0.drew.cell? ⟨z, 2, none⟩ = some (.int .i64 b) ∧ w0.drew.cell? ⟨z, 3, none⟩ = some (.int .i64 1) := ⟨cell_is hKd 1 HC1.out.1, cell_is hBd 0 HC1.out.2, cell_is hzd 2 rfl, cell_is hzd 3 rfl⟩
  clear hKd hBd hzd k1 b0 z0 z2 z3 y1
  go_region_held3 (fun wx => wx.cell? ⟨K, 1, none⟩ = some (.pointer (some ⟨d.P, 0, none⟩)) ∧ wx.cell? ⟨Bb, 0, none⟩ = some (.int .i64 p.h) ∧ wx.cell? ⟨z, 2, none⟩ = some (.int .i64 b) ∧ wx.cell? ⟨z, 3, none⟩ = some (.int .i64 1))
    (first | (with_reducible exact fA) | (with_reducible exact f2) | (with_reducible exact fS _ _) | (with_reducible exact fT _ _ _ _))
    (first
      | (go_at_call 89; refine HW.out.mono ?_; rintro e w2 ⟨g, c2, rfl, hc2, hO, hS, hg, hbg, hbt2, hrd2⟩
         obtain ⟨y2d, y3d, kd, hsd⟩ := HX.out
         obtain ⟨hKd, hBd, hzd⟩ := HKB.out
         have u2 := hO.heap y2d ⟨by decide, by decide, by decide⟩
         have u3 := hO.heap y3d ⟨by decide, by decide, by decide⟩
         have uK := hO.heap hKd ⟨by decide, by decide, by decide⟩
         have uB := hO.heap hBd ⟨by decide, by decide, by decide⟩
         have uz := hO.heap hzd ⟨by decide, by decide, by decide⟩
         have nK : K ≠ z + 1 := heap_ne uK u2 (by simp)
         have nB : Bb ≠ z + 1 := heap_ne uB u2 (by simp)
         have f2 : w2.cell? ⟨K, 1, none⟩ = some (.pointer (some ⟨d.P, 0, none⟩)) ∧ w2.cell? ⟨Bb, 0, none⟩ = some (.int .i64 p.h) ∧ w2.cell? ⟨z, 2, none⟩ = some (.int .i64 b) ∧ w2.cell? ⟨z, 3, none⟩ = some (.int .i64 1) := ⟨cell_is uK 1 HC1.out.1, cell_is uB 0 HC1.out.2, cell_is uz 2 rfl, cell_is uz 3 rfl⟩
         have fS : ∀ i v, (w2.setCell ⟨z + 1, i, none⟩ v).cell? ⟨K, 1, none⟩ = some (.pointer (some ⟨d.P, 0, none⟩)) ∧ (w2.setCell ⟨z + 1, i, none⟩ v).cell? ⟨Bb, 0, none⟩ = some (.int .i64 p.h) ∧ (w2.setCell ⟨z + 1, i, none⟩ v).cell? ⟨z, 2, none⟩ = some (.int .i64 b) ∧ (w2.setCell ⟨z + 1, i, none⟩ v).cell? ⟨z, 3, none⟩ = some (.int .i64 1) := fun i v => ⟨cell_is (heap_set_ne uK nK i v) 1 HC1.out.1, cell_is (heap_set_ne uB nB i v) 0 HC1.out.2, cell_is (heap_set_ne uz (by omega) i v) 2 rfl, cell_is (heap_set_ne uz (by omega) i v) 3 rfl⟩
         have fT : ∀ i v j u, ((w2.setCell ⟨z + 1, i, none⟩ v).setCell ⟨z + 1, j, none⟩ u).cell? ⟨K, 1, none⟩ = some (.pointer (some ⟨d.P, 0, none⟩)) ∧ ((w2.setCell ⟨z + 1, i, none⟩ v).setCell ⟨z + 1, j, none⟩ u).cell? ⟨Bb, 0, none⟩ = some (.int .i64 p.h) ∧ ((w2.setCell ⟨z + 1, i, none⟩ v).setCell ⟨z + 1, j, none⟩ u).cell? ⟨z, 2, none⟩ = some (.int .i64 b) ∧ ((w2.setCell ⟨z + 1, i, none⟩ v).setCell ⟨z + 1, j, none⟩ u).cell? ⟨z, 3, none⟩ = some (.int .i64 1) := fun i v j u => ⟨cell_is (heap_set_ne (heap_set_ne uK nK i v) nK j u) 1 HC1.out.1, cell_is (heap_set_ne (heap_set_ne uB nB i v) nB j u) 0 HC1.out.2, cell_is (heap_set_ne (heap_set_ne uz (by omega) i v) (by omega) j u) 2 rfl, cell_is (heap_set_ne (heap_set_ne uz (by omega) i v) (by omega) j u) 3 rfl⟩
         have q1 := cell_is u2 1 rfl
         have g1 := unfrozen u2 1
         have q4 := cell_is u2 4 rfl
         have g4 := unfrozen u2 4))
  have HR := Lib.hid (And.intro hO (And.intro hS (And.intro kd (And.intro y2d (And.intro y3d (And.intro hg (And.intro hbg (And.intro hsd (And.intro hbt2 hrd2)))))))))
  clear hO hS kd y2d y3d hg hbg hsd hbt2 hrd2 hn0 hnone fA f2 fS fT hKd hBd hzd uK uB uz nK nB
  go_upto_region 12 with fail
  have v2 : ((w2.setCell ⟨z + 1, 4, none⟩ (.slice (some ⟨g, 0, none⟩) 40 c2)).setCell ⟨z + 1, 1, none⟩ (.int .i64 0)).heap[z + 1]? = some (.cells #[.int .i64 2, .int .i64 0, .int .i64 oh, .int .i64 0, .slice (some ⟨g, 0, none⟩) 40 c2] 39 (0, 0)) := heap_set (heap_set u2 4 _ rfl) 1 _ rfl
  have v3 := heap_set_ne (heap_set_ne u3 (show z + 2 ≠ z + 1 by omega) 4 (.slice (some ⟨g, 0, none⟩) 40 c2)) (show z + 2 ≠ z + 1 by omega) 1 (.int .i64 0)
  have ks : Chg [z + 1] w2 ((w2.setCell ⟨z + 1, 4, none⟩ (.slice (some ⟨g, 0, none⟩) 40 c2)).setCell ⟨z + 1, 1, none⟩ (.int .i64 0)) := (Chg.set _ _ _ _).then (Chg.set _ _ _ _)
  generalize (w2.setCell ⟨z + 1, 4, none⟩ (.slice (some ⟨g, 0, none⟩) 40 c2)).setCell ⟨z + 1, 1, none⟩ (.int .i64 0) = w3 at *
  have d0 := cell_is v2 0 rfl
  have d1 := cell_is v2 1 rfl
  have d2 := cell_is v2 2 rfl
  have d3 := cell_is v2 3 rfl
  have d4 := cell_is v2 4 rfl
  have t0 := cell_is v3 0 rfl
  have t1 := cell_is v3 1 rfl
  have t2 := cell_is v3 2 rfl
  have t3 := cell_is v3 3 rfl
  have t4 := cell_is v3 4 rfl
  have f0 := unfrozen v3 0
  have f1 := unfrozen v3 1
  have f2 := unfrozen v3 2
  have f3 := unfrozen v3 3
  have f4 := unfrozen v3 4
  clear q1 g1 q4 g4
  go_wp2_with fail
  obtain ⟨y11, k11⟩ := set5 (.int .i64 2) (.int .i64 0) (.int .i64 oh) (.int .i64 0) (.slice (some ⟨g, 0, none⟩) 40 c2) v3
  generalize ((((w3.setCell ⟨z + 2, 0, none⟩ (.int .i64 2)).setCell ⟨z + 2, 1, none⟩ (.int .i64 0)).setCell ⟨z + 2, 2, none⟩ (.int .i64 oh)).setCell ⟨z + 2, 3, none⟩ (.int .i64 0)).setCell ⟨z + 2, 4, none⟩ (.slice (some ⟨g, 0, none⟩) 40 c2) = w4 at *
  have r0 := cell_is y11 0 rfl
  have r1 := cell_is y11 1 rfl
  have r2 := cell_is y11 2 rfl
  have r3 := cell_is y11 3 rfl
  have r4 := cell_is y11 4 rfl
  obtain ⟨hO, hS, kd, y2d, y3d, hg, hbg, hsd, hbt2, hrd2⟩ := HR.out
  have kf : Chg [z + 1, z + 2] w2 w4 := (ks.mono (fun x hx _ => by simp at hx; simp [hx])).then (k11.mono (fun x hx _ => by simp at hx; simp [hx]))
  have tp : Tp w2 [z + 1, z + 2] [39] := fun x hx => by
    simp at hx
    rcases hx with rfl | rfl
    · exact ⟨_, _, u2, by simp⟩
    · exact ⟨_, _, u3, by simp⟩
  have hOf : Ow base w w4 := by
    obtain ⟨T, hT1, hT2⟩ := (Ow.of_chg (base := base) kd).trans hO
    refine ⟨T, hT1.trans kf (fun x hx hlt => by simp at hx; omega), hT2⟩
  refine bodyPost_ret (v := .tuple #[.agg #[.int .i64 2, .int .i64 0, .int .i64 oh, .int .i64 0, .slice (some ⟨g, 0, none⟩) 40 c2], .bool true]) (by simp [results, Tryz.results51, go_sem, r0, r1, r2, r3, r4]) rfl ?_
  have hz3 := heap_lt y3d
  have hbf : Bs w4 (some ⟨g, 0, none⟩) (q b) := hbg.chgB kf (by simp; omega)
  have hbtf : Bt w4 g := by
    obtain ⟨ct, hbt2⟩ := hbt2
    exact ⟨ct, kf.heap hbt2 (by simp; omega)⟩
  exact ⟨g, c2, rfl, hOf, hS.keepA kf (tp.av (by decide)) (tp.map hS.buf.2) (HF.out.keep w w4 hOf HE.out), hbf, by omega, hbtf, hrd2.keep kf (tp.av (by decide))⟩
end C2
end Go.Proofs.YtliicpedddcfiaaGreat
namespace Go.Proofs.YtliicpedddcfiaaGreat
open Go.RowKit Go.Lib

/-- a read is put behind a row of reads. -/
theorem wpList_append_rd {ops : Array Oper} {rest : List Oper} {o : Oper} {a : Act} {w : World} {Q : Exit → Act → World → Prop} (hgd : o.guard = none) (s x : Operand)
    (ho : o.op = .call { callee := .builtin .append, args := #[s, x], argTypes := #[49, 49] }) (base b c n : Nat) (v u0 u1 u2 : Value) (xs : List Value) (hs : a.eval s = v) (hown : w.ownsRow base 144 3 v n xs) (hbase : base ≤ w.heap.size) (hn : n ≤ 1000)
    (hx : a.eval x = .slice (some ⟨b, 0, none⟩) 1 c) (hb : w.heap[b]? = some (.cells #[u0, u1, u2] 144 (0, 0))) (h1 : u0.oneCell' = true ∧ u1.oneCell' = true ∧ u2.oneCell' = true)
    (h : ∀ g cap w', w'.ownsRow base 144 3 (.slice (some ⟨g, 0, none⟩) (n + 1) cap) (n + 1) (xs ++ [u0, u1, u2]) → Chg v.ownBlock.toList w w' → wpList Tryz.prog ops Q rest (a.put o.dst (.slice (some ⟨g, 0, none⟩) (n + 1) cap)) w') : wpList Tryz.prog ops Q (o :: rest) a w := by
  obtain ⟨i, hi0, hz, hz1, hz2⟩ := info_parts inf285
  refine wpList_append_lies w hgd s x 49 ho base 144 i _ 3 40 ty68 hi0 hz hz1 hz2 rfl (by decide) v n xs hs hown ⟨b, 0, none⟩ 1 c [u0, u1, u2] hx rfl ?_ ?_ (by decide) (by unfold maxLen; omega) (by omega) hbase _ rfl ?_
  · intro j u hu
    rw [add_lit, Nat.zero_add]
    exact cell_is hb j (by simpa using hu)
  · intro u hu
    simp at hu
    rcases hu with rfl | rfl | rfl
    · exact h1.1
    · exact h1.2.1
    · exact h1.2.2
  · intro g cap w' h2 h3 h4 _
    exact h g cap w' h2 (Chg.of_grownO h3)
theorem own_read {w : World} {base : Nat} {v u0 u1 u2 : Value} (h : w.ownsRow base 144 3 v 1 [u0, u1, u2]) : ∃ g c, v = .slice (some ⟨g, 0, none⟩) 1 c ∧ w.cell? ⟨g, 0, none⟩ = some u0 ∧ w.cell? ⟨g, 1, none⟩ = some u1 ∧ w.cell? ⟨g, 2, none⟩ = some u2 := by
  rcases h.2 with ⟨e, h0⟩ | ⟨g, cap, cur, e, hA, hg, hc1, hc2, hc3, ht⟩
  · cases h0
  · have hc : ∀ j u, [u0, u1, u2][j]? = some u → w.cell? ⟨g, j, none⟩ = some u := fun j u hu => cell_is hg j (by
      have hj := (List.getElem?_eq_some_iff.1 hu).1
      have : (cur.toList.take (1 * 3))[j]? = some u := by rw [ht]; exact hu
      rwa [List.getElem?_take_of_lt (by simpa using hj), Array.getElem?_toList] at this)
    exact ⟨g, cap, e, hc 0 _ rfl, hc 1 _ rfl, hc 2 _ rfl⟩
set_option maxRecDepth 100000 in
set_option maxHeartbeats 2000000 in
theorem vreads1 (w : World) {base Q X W V : Nat} {t b : Int} (h : RdOne w base Q X W V t b) : Calls Tryz.prog 99 #[.pointer (some ⟨Q, 0, none⟩)] w (Rw w fun _ _ => True) := by
  obtain ⟨s, g, c, l, q, ho, hb, hl, hT⟩ := h
  obtain ⟨gs, cc, rfl, r0, r1, r2⟩ := own_read ho
  have q4 : w.cell? ⟨Q, 4, none⟩ = some (.slice (some ⟨gs, 0, none⟩) 1 cc) := cell_is q 4 rfl
  have HB := Lib.hid (And.intro hb hl)
  clear ho q hb hl hT
  go_enter Tryz.func99, Tryz.ntmps99
  go_wp2_with fail
  go_loopw [2, 4, 12] (fun v _ i wr => (i = .int .i64 0 ∧ w = wr ∧ v = .slice none 0 0) ∨ (i = .int .i64 1 ∧ ∃ p n c, v = .slice p n c ∧ Chg [] w wr)) (fun _ _ i _ => 1 - (intOf i).toNat)
  case atStart => exact Or.inl ⟨rfl, rfl, rfl⟩
  case round =>
    rcases hrel with ⟨rfl, rfl, rfl⟩ | ⟨rfl, p, n, c2, rfl, k⟩
    · have k1 : Chg [] w (w.alloc (.cells #[.int .i64 b, .slice (some ⟨g, 0, none⟩) 40 c, .bool false] 144)) := Chg.alloc w _
      have y1 := heap_new w (.cells #[.int .i64 b, .slice (some ⟨g, 0, none⟩) 40 c, .bool false] 144)
      go_upto_region 6 with fail
      generalize w.alloc (.cells #[.int .i64 b, .slice (some ⟨g, 0, none⟩) 40 c, .bool false] 144) = w1 at *
      generalize hz : w.heap.size = z at *
      have z1 : w1.cell? ⟨z, 1, none⟩ = some (.slice (some ⟨g, 0, none⟩) 40 c) := cell_is y1 1 rfl
      go_upto_region 7 with (first | (go_at_call 47; refine (clone_bt w1 HB.out.2 (by decide) (by decide) (HB.out.1.chg k1)).mono ?_; rintro e w2 ⟨g2, c2, rfl, k2, hb2, hg2, ht2⟩; have y2 := k2.heap y1 (by simp); have f2 := unfrozen y2 1; have x2 := cell_is y2 1 rfl))
      have y3 : (w2.setCell ⟨z, 1, none⟩ (.slice (some ⟨g2, 0, none⟩) 40 c2)).heap[z]? = some (.cells #[.int .i64 b, .slice (some ⟨g2, 0, none⟩) 40 c2, .bool false] 144 (0, 0)) := heap_set y2 1 _ rfl
      have k3 : Chg [] w (w2.setCell ⟨z, 1, none⟩ (.slice (some ⟨g2, 0, none⟩) 40 c2)) := (k1.then k2).trans (Chg.set w2 z 1 _) (fun x hx hlt => by rw [List.mem_singleton] at hx; omega)
      generalize w2.setCell ⟨z, 1, none⟩ (.slice (some ⟨g2, 0, none⟩) 40 c2) = w3 at *
      have d0 := cell_is y3 0 rfl
      have d1 := cell_is y3 1 rfl
      have d2 := cell_is y3 2 rfl
      have k4 : Chg [] w3 (w3.alloc (.cells #[.int .i64 b, .slice (some ⟨g2, 0, none⟩) 40 c2, .bool false] 144)) := Chg.alloc w3 _
      have y4 := heap_new w3 (.cells #[.int .i64 b, .slice (some ⟨g2, 0, none⟩) 40 c2, .bool false] 144)
      clear y1 y2 z1 f2 x2 hb2 ht2
      go_wp2_with (first | (at_builtin; refine wpList_append_rd rfl (.tmp 20) (.tmp 22) rfl 0 w3.heap.size 1 0 (.slice none 0 0) _ _ _ [] rfl (World.ownsRow_nil _ _ _ _) (Nat.zero_le _) (by decide) rfl y4 ⟨rfl, rfl, rfl⟩ ?_; intro g7 c7 w7 o7 k7))
      have HF := Lib.hid ((k3.then k4).then k7)
      clear o7 k7 k3 k4 y4 d0 d1 d2 y3
      go_roundw
      case rel => exact Or.inr ⟨rfl, _, _, _, rfl, HF.out⟩
      case measure => decide
    · have HF := Lib.hid k
      clear k
      go_wp2_with fail
      go_ret
      exact ⟨p, n, c2, rfl, HF.out, trivial⟩
end Go.Proofs.YtliicpedddcfiaaGreat
namespace Go.Proofs.YtliicpedddcfiaaGreat
open Go.RowKit Go.Lib

theorem Bs.at_ {w : World} {D o : Nat} {l : List UInt8} (h : Bs w (some ⟨D, o, none⟩) l) (j : Nat) (hj : j < l.length) : w.cell? ⟨D, o + j, none⟩ = some (.int .u8 (l[j].toNat)) := by
  rcases h with h | ⟨b', o', e, hb, h⟩
  · rw [h] at hj; simp at hj
  · cases e
    exact h j hj
theorem leB_at (v n j : Nat) (h : j < n) : ((leB v n)[j]'(by rw [leB_length]; exact h)).toNat = v / 256 ^ j % 256 := by
  simp [leB]
theorem pow256_le (j : Nat) (h : j < 8) : 256 ^ j * 256 ≤ 18446744073709551616 := by
  have h1 : 256 ^ j ≤ 256 ^ 7 := Nat.pow_le_pow_right (by decide) (by omega)
  have h2 : (256 : Nat) ^ 7 = 72057594037927936 := by decide
  omega
theorem or_le (v j : Nat) (h : j < 8) : bits .or .u64 ((v : Int) % 256 ^ j) (IntKind.u64.wrap ((v : Int) / 256 ^ j % 256 * 2 ^ (8 * j))) = ((v % 256 ^ (j + 1) : Nat) : Int) := by
  have hp := pow256_le j h
  have hp0 : 0 < 256 ^ j := Nat.pos_of_ne_zero (by simp)
  have e2 : (2 : Int) ^ (8 * j) = ((256 ^ j : Nat) : Int) := by
    rw [Int.pow_mul, Int.natCast_pow]
    rfl
  have e3 : (256 : Int) ^ j = ((256 ^ j : Nat) : Int) := by rw [Int.natCast_pow]; rfl
  have e5 : 256 ^ (j + 1) = 256 ^ j * 256 := Nat.pow_succ 256 j
  have e6 : v % 256 ^ (j + 1) = v % 256 ^ j + 256 ^ j * (v / 256 ^ j % 256) := Nat.mod_pow_succ
  have e7 : 256 ^ j = 2 ^ (8 * j) := by rw [Nat.pow_mul]
  rw [e2, e3]
  have hb : v / 256 ^ j % 256 ≤ 255 := by omega
  have ha : v % 256 ^ j < 256 ^ j := Nat.mod_lt _ hp0
  have hmul : v / 256 ^ j % 256 * 256 ^ j ≤ 255 * 256 ^ j := Nat.mul_le_mul_right _ hb
  have hor := Nat.shiftLeft_add_eq_or_of_lt (b := v % 256 ^ j) (i := 8 * j) (by rw [← e7]; exact ha) (v / 256 ^ j % 256)
  rw [Nat.shiftLeft_eq, ← e7] at hor
  have g1 : ((v : Int) % ((256 ^ j : Nat) : Int)) = ((v % 256 ^ j : Nat) : Int) := rfl
  have g2 : ((v : Int) / ((256 ^ j : Nat) : Int) % 256 * ((256 ^ j : Nat) : Int)) = ((v / 256 ^ j % 256 * 256 ^ j : Nat) : Int) := by
    rw [Int.natCast_mul]
    rfl
  rw [g1, g2]
  generalize 256 ^ j = P at *
  generalize v / P % 256 = b at *
  generalize v % P = a at *
  have hbP : b * P ≤ 255 * P := hmul
  have e8 : IntKind.u64.wrap ((b * P : Nat) : Int) = ((b * P : Nat) : Int) := by
    rw [IntKind.wrap_u64]
    omega
  rw [e8, u64_or_nat _ _ (by omega) (by omega), Nat.or_comm, ← hor, e6]
  congr 1
  rw [Nat.mul_comm]
  omega
set_option maxRecDepth 100000 in
set_option maxHeartbeats 1000000 in
theorem bget_le (w : World) {D o c m n v : Nat} {l : List UInt8} (hB : Bs w (some ⟨D, o, none⟩) l) (hl : l.length = m) (hn : n ≤ 8) (hnm : n ≤ m) (hm : m ≤ 1000) (hpre : l.take n = leB v n) :
    Calls Tryz.prog 107 #[.slice (some ⟨D, o, none⟩) m c, .int .i64 n] w fun e w' => e = .returned (.tuple #[.int .u64 (v % 256 ^ n : Nat), .bool true]) ∧ w = w' := by
  have hc : ∀ j, j < n → w.cell? ⟨D, o + j, none⟩ = some (.int .u8 ((v / 256 ^ j % 256 : Nat) : Int)) := by
    intro j hj
    have hj2 : j < l.length := by omega
    rw [hB.at_ j hj2]
    have e : l[j] = (leB v n)[j]'(by rw [leB_length]; exact hj) := by
      have h1 : (l.take n)[j]'(by simp; omega) = l[j] := by simp
      rw [← h1]
      simp only [hpre]
    rw [e, leB_at v n j hj]
  have HC := Lib.hid hc
  have hlt0 : ¬ (m : Int) < n := by omega
  have hnm1 : (n : Int) ≤ m := by omega
  clear hB hl hpre hc
  go_enter Tryz.func107, Tryz.ntmps107
  go_wp2_with fail
  go_loop [4, 6, 12] (fun a _ i => ∃ j : Nat, j ≤ n ∧ i = .int .i64 j ∧ a = .int .u64 (v % 256 ^ j : Nat)) (fun _ _ i => n - (intOf i).toNat)
  case atStart => exact ⟨0, by omega, rfl, by simp [Nat.mod_one]⟩
  case round =>
    obtain ⟨j, hj, rfl, rfl⟩ := hrel
    by_cases hlt : j < n
    · have cj := HC.out j hlt
      have hji : (j : Int) < n := by omega
      have hjm : (j : Int) < m := by omega
      have hj8 : j < 8 := by omega
      have HOr := Lib.hid (or_le v j hj8)
      clear hj8
      go_wp2_with fail
      exact ⟨⟨j + 1, by omega, by go_num, congrArg (Value.int IntKind.u64) HOr.out⟩, by simp [intOf]; omega⟩
    · obtain rfl : j = n := by omega
      go_wp2_with fail
      go_ret2
      exact ⟨rfl, rfl⟩
set_option maxRecDepth 100000 in
set_option maxHeartbeats 1000000 in
theorem clone_btc (w : World) {D o c m : Nat} {l : List UInt8} (hl : l.length = m) (hm0 : 0 < m) (hm1 : m ≤ 1000) (hb : Bs w (some ⟨D, o, none⟩) l) : Calls Tryz.prog 47 #[.slice (some ⟨D, o, none⟩) m c] w fun e w' =>
    ∃ g c', e = .returned (.slice (some ⟨g, 0, none⟩) m c') ∧ Chg [] w w' ∧ Bs w' (some ⟨g, 0, none⟩) l ∧ w.heap.size ≤ g ∧ Bt w' g ∧ m ≤ c' := by
  have hn : ∀ w, (binOp .eql 34 (.slice (some ⟨D, o, none⟩) m c) (.slice none 0 0)).run Tryz.prog w = .ok (.bool false) w := fun w => Lib.run_eql_slice_nil w 34 5 _ _ _ 0 0 Tryz.underlying34
  have HB := Lib.hid hb
  have HL := Lib.hid hl
  clear hb hl
  go_enter Tryz.func47, Tryz.ntmps47
  go_wp2_with (first | (at_builtin; refine wpList_append_bs rfl (.tmp 5) (.tmp 6) 34 5 rfl ty23 inf5c w.heap.size _ 0 [] rfl (own_empty w 5) _ m c l rfl HL.out (HB.out.keep (Below.of_alloc _ _)) (by omega) (by simp) ?_; intro v1 w1 h1; have hs1 : w.heap.size ≤ w1.heap.size := Nat.le_trans (by simp) h1.2.1.size))
  go_ret
  have hB : Below w.heap.size w w1 := (Below.of_alloc w _).trans h1.2.1
  have hb1 := h1.1
  rcases hb1.2 with ⟨e, h0⟩ | ⟨g, cap, cur, e, hA, hgt, hle, -⟩
  · omega
  · rw [e] at hb1
    refine ⟨g, cap, ?_, Chg.of_below hB, by simpa using Bs.own hb1, hA, ⟨_, hgt⟩, by omega⟩
    show Ending.returned v1 = _
    rw [e, Nat.zero_add]
theorem lt_pow4 {v : Nat} (h : v < 4294967296) : v % 256 ^ 4 = v := Nat.mod_eq_of_lt (show v < 256 ^ 4 from h)
theorem lt_pow8 {v : Nat} (h : v < 18446744073709551616) : v % 256 ^ 8 = v := Nat.mod_eq_of_lt (show v < 256 ^ 8 from h)
set_option maxRecDepth 100000 in
theorem get64_le (w : World) {D o c m v : Nat} {l : List UInt8} (hB : Bs w (some ⟨D, o, none⟩) l) (hl : l.length = m) (hnm : 8 ≤ m) (hm : m ≤ 1000) (hpre : l.take 8 = leB v 8) (hv : v < 18446744073709551616) :
    Calls Tryz.prog 72 #[.slice (some ⟨D, o, none⟩) m c] w fun e w' => e = .returned (.tuple #[.int .u64 v, .bool true]) ∧ w = w' := by
  have h := bget_le w (c := c) hB hl (by decide) hnm hm hpre
  rw [lt_pow8 hv] at h
  have H := Lib.hid h
  clear h hB hl hnm hm hpre
  go_enter Tryz.func72, Tryz.ntmps72
  go_wp2_with fail
  refine H.out.mono ?_
  rintro e w1 ⟨rfl, rfl⟩
  go_wp2_with fail
  go_ret2
  exact ⟨rfl, rfl⟩
set_option maxRecDepth 100000 in
theorem get32_le (w : World) {D o c m v : Nat} {l : List UInt8} (hB : Bs w (some ⟨D, o, none⟩) l) (hl : l.length = m) (hnm : 4 ≤ m) (hm : m ≤ 1000) (hpre : l.take 4 = leB v 4) (hv : v < 4294967296) :
    Calls Tryz.prog 73 #[.slice (some ⟨D, o, none⟩) m c] w fun e w' => e = .returned (.tuple #[.int .u32 v, .bool true]) ∧ w = w' := by
  have h := bget_le w (c := c) hB hl (by decide) hnm hm hpre
  rw [lt_pow4 hv] at h
  have H := Lib.hid h
  have hw : IntKind.u32.wrap (v : Int) = v := by rw [IntKind.wrap_u32]; omega
  clear h hB hl hnm hm hpre
  go_enter Tryz.func73, Tryz.ntmps73
  go_wp2_with fail
  refine H.out.mono ?_
  rintro e w1 ⟨rfl, rfl⟩
  go_wp2_with fail
  go_ret2
  exact ⟨rfl, rfl⟩
set_option maxRecDepth 100000 in
set_option maxHeartbeats 1000000 in
theorem eq_same (w : World) {D o c E p c' m : Nat} {l : List UInt8} (hB : Bs w (some ⟨D, o, none⟩) l) (hB2 : Bs w (some ⟨E, p, none⟩) l) (hl : l.length = m) (hm : m ≤ 1000) :
    Calls Tryz.prog 104 #[.slice (some ⟨D, o, none⟩) m c, .slice (some ⟨E, p, none⟩) m c'] w fun e w' => e = .returned (.bool true) ∧ Chg [] w w' := by
  have HB := Lib.hid hB
  have HB2 := Lib.hid hB2
  have HL := Lib.hid hl
  clear hB hB2 hl
  go_enter Tryz.func104, Tryz.ntmps104
  go_wp2_with fail
  go_loopw [5, 13] (fun _ i wr => ∃ j : Nat, j ≤ m ∧ i = .int .i64 j ∧ Chg [] w wr) (fun _ i _ => m - (intOf i).toNat)
  case atStart => exact ⟨0, by omega, rfl, Chg.refl _ _⟩
  case round =>
    obtain ⟨j, hj, rfl, kr⟩ := hrel
    by_cases hlt : j < m
    · have hj2 : j < l.length := by have := HL.out; omega
      have d0 := (HB.out.chg kr).at_ j hj2
      have d1 := (HB2.out.chg kr).at_ j hj2
      have hji : (j : Int) < m := by omega
      generalize (l[j]'hj2).toNat = x at *
      have hx : ((x : Int) != (x : Int)) = false := bne_self_eq_false _
      go_wp2_with fail
      go_quiet (fail)
      go_wp2_with fail
      exact ⟨⟨j + 1, by omega, by go_num, kr.drewN nq⟩, by simp [intOf]; omega⟩
    · obtain rfl : j = m := by omega
      go_wp2_with fail
      go_ret
      exact ⟨rfl, kr⟩
theorem Bs.sub {w : World} {b o : Nat} {l : List UInt8} (h : Bs w (some ⟨b, o, none⟩) l) (i n : Nat) : Bs w (some ⟨b, o + i, none⟩) ((l.drop i).take n) := by
  rcases h with h | ⟨b', o', e, hb, h⟩
  · rw [h]; exact Or.inl (by simp)
  · cases e
    refine Or.inr ⟨b, o + i, rfl, hb, fun j hj => ?_⟩
    have hj2 : i + j < l.length := by simp at hj; omega
    rw [Nat.add_assoc, h (i + j) hj2]
    simp
end Go.Proofs.YtliicpedddcfiaaGreat
namespace Go.Proofs.YtliicpedddcfiaaGreat
open Go.RowKit Go.Lib

theorem RowsAt.len {w : World} {base : Nat} {v : Value} {l : List (List UInt8)} (h : RowsAt w base v l) : ∃ pa c, v = .slice pa l.length c := by
  obtain ⟨xs, ho, -⟩ := h
  rcases ho.2 with ⟨h1, h0⟩ | ⟨g, cap, cur, e1, _, _, h1, _⟩
  · rw [h0]; exact ⟨_, _, h1⟩
  · exact ⟨_, _, e1⟩
set_option maxRecDepth 100000 in
set_option maxHeartbeats 1000000 in
theorem pointer_ok (w : World) {base N A c : Nat} {ops : Int} {Z : List Nat} {vs : Nat → Value} {gs : Nat → Nat} {zs : Nat → List (List UInt8)} (h : DevG w base N A c ops Z vs gs zs) (j : Nat) (hj : j < Z.length) :
    Calls Tryz.prog 74 #[.pointer (some ⟨N, 0, none⟩), .int .i64 j] w fun e w' => e = .returned (.tuple #[.int .i64 (zs j).length, .int .i64 0]) ∧ w = w' := by
  have HD := Lib.hid (dat_any w h j hj)
  obtain ⟨pa, cc, hv⟩ := (h.rows j (by have := h.len; omega)).len
  have z0 : w.cell? ⟨Z[j], 0, none⟩ = some (.slice pa (zs j).length cc) := by rw [← hv]; exact cell_is (h.zone j hj) 0 rfl
  clear h hv
  generalize Z[j] = z at *
  clear hj
  go_enter Tryz.func74, Tryz.ntmps74
  go_wp2_with fail
  refine HD.out.mono ?_
  rintro e w1 ⟨rfl, rfl⟩
  go_wp2_with fail
  go_ret2
  exact ⟨rfl, rfl⟩
set_option maxRecDepth 100000 in
theorem strange_any (w : World) {g o m c : Nat} {a : UInt8} {l : List UInt8} (h : Bs w (some ⟨g, o, none⟩) (a :: l)) (hm : 0 < m) :
    Calls Tryz.prog 39 #[.slice (some ⟨g, o, none⟩) m c] w fun e w' => e = .returned (.bool (decide (¬ ((a.toNat : Int) = 1) ∧ ¬ ((a.toNat : Int) = 2)))) ∧ w = w' := by
  have h0 : w.cell? ⟨g, o, none⟩ = some (.int .u8 a.toNat) := by have := h.at_ 0 (by simp); simpa using this
  clear h
  go_enter Tryz.func39, Tryz.ntmps39
  by_cases h1 : (a.toNat : Int) = 1
  · have d1 : decide ((a.toNat : Int) = 1) = true := by simp [h1]
    go_wp2_with fail
    go_ret
    exact ⟨by simp [h1], rfl⟩
  · have d1 : decide ((a.toNat : Int) = 1) = false := by simp [h1]
    by_cases h2 : (a.toNat : Int) = 2
    all_goals
      go_wp2_with fail
      go_ret
      exact ⟨by simp [h1, h2], rfl⟩
end Go.Proofs.YtliicpedddcfiaaGreat
namespace Go.Proofs.YtliicpedddcfiaaGreat
open Go.RowKit Go.Lib

/-- block N is a device of eight zones: zone j has the row vs j of the blocks zs j, of which gs j are for good. -/
structure DevK (w : World) (base N A c : Nat) (ops rds : Int) (Z : List Nat) (vs : Nat → Value) (gs : Nat → Nat) (zs : Nat → List (List UInt8)) : Prop where
  hdr : w.heap[N]? = some (.cells #[.int .i64 8, .int .i64 96, .slice (some ⟨A, 0, none⟩) 8 c, .int .i64 ops, .int .i64 rds, .bool false, .int .i64 0, .bool false] 93 (0, 0))
  cap : 8 ≤ c
  len : Z.length = 8
  tA : ∃ cs, w.heap[A]? = some (.cells cs 94 (0, 0))
  ptr : ∀ j (h : j < Z.length), w.cell? ⟨A, j, none⟩ = some (.pointer (some ⟨Z[j], 0, none⟩))
  zone : ∀ j (h : j < Z.length), w.heap[Z[j]]? = some (.cells #[vs j, .int .i64 (gs j : Nat)] 97 (0, 0))
  rows : ∀ j, j < 8 → RowsAt w base (vs j) (zs j)
  apart : ∀ i j g, i < 8 → j < 8 → i ≠ j → (vs i).ownBlock = some g → (vs j).ownBlock ≠ some g
  nodup : Z.Nodup
/-- .. when the blocks that change are none of a device's. -/
theorem DevK.keep {w w' : World} {T : List Nat} {base N A c : Nat} {ops rds : Int} {Z : List Nat} {vs : Nat → Value} {gs : Nat → Nat} {zs : Nat → List (List UInt8)} (h : DevK w base N A c ops rds Z vs gs zs) (hc : Chg T w w') (hT : Av w T [93, 94, 97, 34, 5]) : DevK w' base N A c ops rds Z vs gs zs := by
  have hA : A ∉ T := by
    obtain ⟨cs, hA⟩ := h.tA
    exact hT.ne hA (by simp)
  refine ⟨hc.heap h.hdr (hT.ne h.hdr (by simp)), h.cap, h.len, ?_, fun j hj => hc.cell (h.ptr j hj) hA, fun j hj => hc.heap (h.zone j hj) (hT.ne (h.zone j hj) (by simp)), fun j hj => (h.rows j hj).keep hc (fun x hx cs t fr hh ht => hT x hx cs t fr hh (by simp at ht; simp [ht])) (fun g hg => ?_), h.apart, h.nodup⟩
  · obtain ⟨cs, hA'⟩ := h.tA
    exact ⟨cs, hc.heap hA' hA⟩
  · obtain ⟨cs, hb⟩ := (h.rows j hj).block g hg
    exact hT.ne hb (by simp)
/-- a new device has read nothing. -/
theorem DevG.k {w : World} {base N A c : Nat} {ops : Int} {Z : List Nat} {vs : Nat → Value} {gs : Nat → Nat} {zs : Nat → List (List UInt8)} (h : DevG w base N A c ops Z vs gs zs) : DevK w base N A c ops 0 Z vs gs zs := ⟨h.hdr, h.cap, h.len, h.tA, h.ptr, h.zone, h.rows, h.apart, h.nodup⟩
set_option maxRecDepth 100000 in
theorem kgone (w : World) {base N A c : Nat} {ops rds : Int} {Z : List Nat} {vs : Nat → Value} {gs : Nat → Nat} {zs : Nat → List (List UInt8)} (h : DevK w base N A c ops rds Z vs gs zs) : Calls Tryz.prog 56 #[.pointer (some ⟨N, 0, none⟩)] w fun e w' => e = .returned (.bool false) ∧ w = w' := by
  have e2 : w.cell? ⟨N, 2, none⟩ = some (.slice (some ⟨A, 0, none⟩) 8 c) := cell_is h.hdr 2 rfl
  clear h
  go_enter Tryz.func56, Tryz.ntmps56
  go_wp2_with fail
  go_ret
  exact ⟨rfl, rfl⟩
set_option maxRecDepth 100000 in
theorem kat (w : World) {base N A c : Nat} {ops rds : Int} {Z : List Nat} {vs : Nat → Value} {gs : Nat → Nat} {zs : Nat → List (List UInt8)} (h : DevK w base N A c ops rds Z vs gs zs) (j : Nat) (hj : j < Z.length) : Calls Tryz.prog 108 #[.pointer (some ⟨N, 0, none⟩), .int .i64 j] w fun e w' => e = .returned (.pointer (some ⟨Z[j], 0, none⟩)) ∧ w = w' := by
  have HG := Lib.hid (kgone w h)
  have hc := h.cap
  have hz := h.len
  have e2 : w.cell? ⟨N, 2, none⟩ = some (.slice (some ⟨A, 0, none⟩) 8 c) := cell_is h.hdr 2 rfl
  have e3 := h.ptr j hj
  have hj8 : j < 8 := by omega
  clear h
  generalize Z[j] = z at *
  go_enter Tryz.func108, Tryz.ntmps108
  go_wp2_with fail
  refine HG.out.mono ?_
  rintro e w1 ⟨rfl, rfl⟩
  go_wp2_with fail
  go_ret
  exact ⟨rfl, rfl⟩
set_option maxRecDepth 100000 in
theorem kbegin (w : World) {base N A c : Nat} {ops rds : Int} {Z : List Nat} {vs : Nat → Value} {gs : Nat → Nat} {zs : Nat → List (List UInt8)} (h : DevK w base N A c ops rds Z vs gs zs) (h0 : 0 ≤ ops) (h1 : ops ≤ 1000000) : Calls Tryz.prog 106 #[.pointer (some ⟨N, 0, none⟩)] w fun e w' => e = .returned (.bool true) ∧ Chg [N] w w' ∧ DevK w' base N A c (ops + 1) rds Z vs gs zs := by
  have hfin : ∀ w', w' = (w.setCell ⟨N, 3, none⟩ (.int .i64 (ops + 1))).setCell ⟨N, 7, none⟩ (.bool false) → Chg [N] w w' ∧ DevK w' base N A c (ops + 1) rds Z vs gs zs := by
    rintro w' rfl
    have hc := (Chg.set w N 3 (.int .i64 (ops + 1))).then (Chg.set _ N 7 (.bool false))
    have hne : ∀ {g : Nat} {cs : Array Value} {t : TypeId}, w.heap[g]? = some (.cells cs t (0, 0)) → t ≠ 93 → g ∉ [N] := by
      intro g cs t hg ht hm
      rw [List.mem_singleton] at hm
      subst hm
      rw [h.hdr] at hg
      cases hg
      exact ht rfl
    obtain ⟨cA, hA⟩ := h.tA
    refine ⟨hc, heap_set (heap_set h.hdr 3 _ rfl) 7 _ rfl, h.cap, h.len, ⟨cA, hc.heap hA (hne hA (by decide))⟩, fun j hj => hc.cell (h.ptr j hj) (hne hA (by decide)), fun j hj => hc.heap (h.zone j hj) (hne (h.zone j hj) (by decide)), fun j hj => (h.rows j hj).keep hc (Av.row h.hdr (by simp)) (fun g hg => ?_), h.apart, h.nodup⟩
    obtain ⟨cs, hb⟩ := (h.rows j hj).block g hg
    exact hne hb (by decide)
  have e3 : w.cell? ⟨N, 3, none⟩ = some (.int .i64 ops) := cell_is h.hdr 3 rfl
  have e5 : w.cell? ⟨N, 5, none⟩ = some (.bool false) := cell_is h.hdr 5 rfl
  have e7 : w.cell? ⟨N, 7, none⟩ = some (.bool false) := cell_is h.hdr 7 rfl
  have f3 := unfrozen h.hdr 3
  have f7 := unfrozen h.hdr 7
  have HF := Lib.hid hfin
  clear h hfin
  go_enter Tryz.func106, Tryz.ntmps106
  go_wp2_with fail
  go_ret
  exact ⟨rfl, HF.out _ rfl⟩
/-- .. when what is for good of a zone is turned. -/
theorem DevK.setGood {w : World} {base N A c : Nat} {ops rds : Int} {Z : List Nat} {vs : Nat → Value} {gs : Nat → Nat} {zs : Nat → List (List UInt8)} (h : DevK w base N A c ops rds Z vs gs zs) {j : Nat} (hj : j < Z.length) (n : Nat) :
    DevK (w.setCell ⟨Z[j], 1, none⟩ (.int .i64 n)) base N A c ops rds Z vs (upF gs j n) zs := by
  have hc := Chg.set w Z[j] 1 (.int .i64 n)
  have hzj := h.zone j hj
  have ht : ∀ {g : Nat} {cs : Array Value} {t : TypeId}, w.heap[g]? = some (.cells cs t (0, 0)) → t ≠ 97 → g ∉ [Z[j]] := by
    intro g cs t hg h1 hm
    rw [List.mem_singleton] at hm
    subst hm
    rw [hzj] at hg; cases hg; exact h1 rfl
  obtain ⟨cA, hA⟩ := h.tA
  refine ⟨hc.heap h.hdr (ht h.hdr (by decide)), h.cap, h.len, ⟨cA, hc.heap hA (ht hA (by decide))⟩, fun k hk => hc.cell (h.ptr k hk) (ht hA (by decide)), fun k hk => ?_, fun k hk => (h.rows k hk).keep hc (Av.row hzj (by simp)) (fun g hg => ?_), h.apart, h.nodup⟩
  · by_cases hkj : k = j
    · subst hkj
      simpa [upF] using heap_set hzj 1 (.int .i64 n) rfl
    · simpa [upF, hkj] using hc.heap (h.zone k hk) (by simpa using nodup_ne h.nodup hk hj hkj)
  · obtain ⟨cs, hb⟩ := (h.rows k hk).block g hg
    exact ht hb (by decide)
set_option maxRecDepth 100000 in
set_option maxHeartbeats 1000000 in
theorem kflush (w : World) {base N A c : Nat} {ops rds : Int} {Z : List Nat} {vs : Nat → Value} {gs : Nat → Nat} {zs : Nat → List (List UInt8)} (h : DevK w base N A c ops rds Z vs gs zs) (h0 : 0 ≤ ops) (h1 : ops ≤ 1000000) : Calls Tryz.prog 71 #[.pointer (some ⟨N, 0, none⟩)] w fun e w' =>
    e = .returned (.int .i64 0) ∧ Chg (N :: Z) w w' ∧ DevK w' base N A c (ops + 1) rds Z vs (goodF gs zs 8) zs := by
  have HG := Lib.hid (kgone w h)
  have HB := Lib.hid (kbegin w h h0 h1)
  clear h
  go_enter Tryz.func71, Tryz.ntmps71
  go_wp2_with fail
  refine HG.out.mono ?_
  rintro e w1 ⟨rfl, rfl⟩
  go_wp2_with fail
  refine HB.out.mono ?_
  rintro e w1 ⟨rfl, hc1, h2⟩
  have hC1 : Chg (N :: Z) w w1 := hc1.mono (fun x hx _ => by rw [List.mem_singleton] at hx; simp [hx])
  have e2 : w1.cell? ⟨N, 2, none⟩ = some (.slice (some ⟨A, 0, none⟩) 8 c) := cell_is h2.hdr 2 rfl
  have hc8 := h2.cap
  have hg0 : goodF gs zs 0 = gs := by funext k; simp [goodF]
  rw [← hg0] at h2
  clear hc1 HG HB
  go_wp2_with fail
  go_loopw [17] (fun i wr => ∃ j : Nat, i = .int .i64 j ∧ j ≤ 8 ∧ DevK wr base N A c (ops + 1) rds Z vs (goodF gs zs j) zs ∧ Chg (N :: Z) w wr) (fun i _ => 8 - (intOf i).toNat)
  case atStart => exact ⟨0, rfl, by omega, h2, hC1⟩
  case round =>
    obtain ⟨j, rfl, hj, hD, hC⟩ := hrel
    by_cases hlt : j < 8
    · have hjz : j < Z.length := by have := hD.len; omega
      have hm : Z[j] ∈ Z := List.getElem_mem hjz
      obtain ⟨xs, ho, -⟩ := hD.rows j hlt
      obtain ⟨pa, cv, hv, -⟩ := own_form ho
      have hfin : ∀ w', w' = wr.setCell ⟨Z[j], 1, none⟩ (.int .i64 (zs j).length) → DevK w' base N A c (ops + 1) rds Z vs (goodF gs zs (j + 1)) zs ∧ Chg (N :: Z) w w' := by
        rintro w' rfl
        exact ⟨goodF_succ gs zs j ▸ hD.setGood hjz _, hC.then_set (fun _ => List.mem_cons_of_mem _ hm) _ _⟩
      have a0 := hD.ptr j hjz
      have k0 := hD.zone j hjz
      rw [hv] at k0
      have b0 : wr.cell? ⟨Z[j], 0, none⟩ = some (.slice pa (zs j).length cv) := cell_is k0 0 rfl
      have b1 : wr.cell? ⟨Z[j], 1, none⟩ = some (.int .i64 (goodF gs zs j j : Nat)) := cell_is k0 1 rfl
      have f1 := unfrozen k0 1
      have HF := Lib.hid hfin
      clear hfin hD hC k0 h2 hC1 e2 hm ho hv
      generalize Z[j] = z at *
      go_wp2_with fail
      go_roundw
      case rel => exact ⟨j + 1, by go_num, by omega, HF.out _ rfl⟩
      case measure => simp [intOf]; omega
    · obtain rfl : j = 8 := by omega
      go_wp2_with fail
      go_ret
      exact ⟨rfl, hC, hD⟩
set_option maxRecDepth 100000 in
set_option maxHeartbeats 1000000 in
theorem kpointer (w : World) {base N A c : Nat} {ops rds : Int} {Z : List Nat} {vs : Nat → Value} {gs : Nat → Nat} {zs : Nat → List (List UInt8)} (h : DevK w base N A c ops rds Z vs gs zs) (j : Nat) (hj : j < Z.length) :
    Calls Tryz.prog 74 #[.pointer (some ⟨N, 0, none⟩), .int .i64 j] w fun e w' => e = .returned (.tuple #[.int .i64 (zs j).length, .int .i64 0]) ∧ w = w' := by
  have HD := Lib.hid (kat w h j hj)
  obtain ⟨pa, cc, hv⟩ := (h.rows j (by have := h.len; omega)).len
  have z0 : w.cell? ⟨Z[j], 0, none⟩ = some (.slice pa (zs j).length cc) := by rw [← hv]; exact cell_is (h.zone j hj) 0 rfl
  clear h hv
  generalize Z[j] = z at *
  clear hj
  go_enter Tryz.func74, Tryz.ntmps74
  go_wp2_with fail
  refine HD.out.mono ?_
  rintro e w1 ⟨rfl, rfl⟩
  go_wp2_with fail
  go_ret2
  exact ⟨rfl, rfl⟩
theorem RowsAt.at2 {w : World} {base : Nat} {v : Value} {l : List (List UInt8)} (h : RowsAt w base v l) (k : Nat) (hk : k < l.length) : ∃ g cap gd cd, v = .slice (some ⟨g, 0, none⟩) l.length cap ∧ l.length ≤ cap ∧
    w.cell? ⟨g, k, none⟩ = some (.slice (some ⟨gd, 0, none⟩) 64 cd) ∧ Bs w (some ⟨gd, 0, none⟩) l[k] ∧ l[k].length = 64 ∧ (∃ cs, w.heap[g]? = some (.cells cs 34 (0, 0))) ∧ Bt w gd := by
  obtain ⟨xs, ho, hx⟩ := h
  obtain ⟨gd, cd, h1, h2, h3, h4⟩ := hx k hk
  rcases ho.2 with ⟨_, e⟩ | ⟨g, cap, cur, rfl, hA, hg, hc1, hc2, hc3, ht⟩
  · omega
  · refine ⟨g, cap, gd, cd, rfl, hc1, cell_is hg _ ?_, h2, h3, ⟨_, hg⟩, h4⟩
    rw [← ht, List.getElem?_take_of_lt (by omega), Array.getElem?_toList] at h1
    exact h1
theorem DevK.tick {w : World} {base N A c : Nat} {ops rds : Int} {Z : List Nat} {vs : Nat → Value} {gs : Nat → Nat} {zs : Nat → List (List UInt8)} (h : DevK w base N A c ops rds Z vs gs zs) (o' : Int) : DevK (w.setCell ⟨N, 4, none⟩ (.int .i64 o')) base N A c ops o' Z vs gs zs := by
  have k : Chg [N] w (w.setCell ⟨N, 4, none⟩ (.int .i64 o')) := (Chg.refl [N] w).then_set (fun _ => by simp) 4 _
  have av : Av w [N] [94, 97, 34, 5] := fun x hx cs t fr hh ht => by
    simp at hx
    subst hx
    rw [h.hdr] at hh
    cases hh
    simp at ht
  have hA : A ∉ [N] := by
    obtain ⟨cs, hA⟩ := h.tA
    exact av.ne hA (by simp)
  refine ⟨heap_set h.hdr 4 _ rfl, h.cap, h.len, ?_, fun j hj => k.cell (h.ptr j hj) hA, fun j hj => k.heap (h.zone j hj) (av.ne (h.zone j hj) (by simp)), fun j hj => (h.rows j hj).keep k (fun x hx cs t fr hh ht => av x hx cs t fr hh (by simp at ht; simp [ht])) (fun g hg => ?_), h.apart, h.nodup⟩
  · obtain ⟨cs, hA'⟩ := h.tA
    exact ⟨cs, k.heap hA' hA⟩
  · obtain ⟨cs, hb⟩ := (h.rows j hj).block g hg
    exact av.ne hb (by simp)
set_option maxRecDepth 100000 in
set_option maxHeartbeats 2000000 in
theorem kread (w : World) {base N A c : Nat} {ops rds : Int} {Z : List Nat} {vs : Nat → Value} {gs : Nat → Nat} {zs : Nat → List (List UInt8)} (h : DevK w base N A c ops rds Z vs gs zs) (ho0 : 0 ≤ rds) (ho1 : rds < 1099511627776) (j : Nat) (hj : j < Z.length) (i : Nat) (hi : i < (zs j).length) :
    Calls Tryz.prog 75 #[.pointer (some ⟨N, 0, none⟩), .int .i64 j, .int .i64 i] w fun e w' => ∃ g c', e = .returned (.tuple #[.slice (some ⟨g, 0, none⟩) 64 c', .int .i64 0]) ∧ Chg [N] w w' ∧ DevK w' base N A c ops (rds + 1) Z vs gs zs ∧ Bs w' (some ⟨g, 0, none⟩) (zs j)[i] ∧ w.heap.size ≤ g ∧ Bt w' g ∧ 64 ≤ c' := by
  have HD := Lib.hid (kat w h j hj)
  have hj8 : j < 8 := by have := h.len; omega
  obtain ⟨ga, ca, gd, cd, hv, hca, r0, hb, h64, hta, htd⟩ := (h.rows j hj8).at2 i hi
  have z0 : w.cell? ⟨Z[j], 0, none⟩ = some (.slice (some ⟨ga, 0, none⟩) (zs j).length ca) := by rw [← hv]; exact cell_is (h.zone j hj) 0 rfl
  have n3 : w.cell? ⟨N, 4, none⟩ = some (.int .i64 rds) := cell_is h.hdr 4 rfl
  have f3 := unfrozen h.hdr 4
  have hT := h.tick (rds + 1)
  have k : Chg [N] w (w.setCell ⟨N, 4, none⟩ (.int .i64 (rds + 1))) := (Chg.refl [N] w).then_set (fun _ => by simp) 4 _
  have hZN : Z[j] ≠ N := heap_ne (h.zone j hj) h.hdr (by simp)
  obtain ⟨ct, hta⟩ := hta
  have hgN : ga ≠ N := heap_ne hta h.hdr (by simp)
  obtain ⟨cu, htd⟩ := htd
  have hdN : gd ≠ N := heap_ne htd h.hdr (by simp)
  have z1 := k.cell z0 (by simpa using hZN)
  have r1 := k.cell r0 (by simpa using hgN)
  have HC := Lib.hid (clone_btc _ (D := gd) (o := 0) (c := cd) (m := 64) h64 (by decide) (by decide) (hb.chgT k (by simpa using hdN)))
  have HK := Lib.hid (And.intro hT (And.intro k k.size))
  clear h hta htd hb hT k hv hZN hgN hdN r0
  have hi0 : ¬ ((i : Int) < 0) := by omega
  generalize hrw : (zs j)[i] = row at *
  generalize Z[j] = z at *
  clear hj
  have hi0 : ¬ ((i : Int) < 0) := by omega
  have hi1 : (i : Int) < (zs j).length := by omega
  have hi2 : ¬ (((zs j).length : Int) ≤ i) := by omega
  clear hrw
  go_enter Tryz.func75, Tryz.ntmps75
  go_wp2_with fail
  refine HD.out.mono ?_
  rintro e w1 ⟨rfl, rfl⟩
  go_wp2_with fail
  refine HC.out.mono ?_
  rintro e w1 ⟨g, c', rfl, k1, b1, hg1, t1, hc64⟩
  have HR := Lib.hid (And.intro (HK.out.2.1.trans k1 (fun x hx => by cases hx)) (And.intro (HK.out.1.keep k1 (Av.nil _ _)) (And.intro b1 (And.intro (Nat.le_trans HK.out.2.2 hg1) (And.intro t1 hc64)))))
  clear k1 b1 hg1 t1 HK HC hc64
  go_wp2_with fail
  go_ret2
  exact ⟨g, c', rfl, HR.out⟩
end Go.Proofs.YtliicpedddcfiaaGreat
namespace Go.Proofs.YtliicpedddcfiaaGreat
open Go.RowKit Go.Lib

set_option maxRecDepth 100000 in
theorem kgeometry (w : World) {base N A c : Nat} {ops rds : Int} {Z : List Nat} {vs : Nat → Value} {gs : Nat → Nat} {zs : Nat → List (List UInt8)} (h : DevK w base N A c ops rds Z vs gs zs) : Calls Tryz.prog 33 #[.pointer (some ⟨N, 0, none⟩)] w fun e w' => e = .returned (.agg #[.int .i64 8, .int .i64 96]) ∧ Chg [] w w' := by
  go_enter Tryz.func33, Tryz.ntmps33
  go_wp2_with fail
  have g0 := heap_new w (.cells #[.int .i64 0, .int .i64 0] 28)
  have hc : Chg [] w (w.alloc (.cells #[.int .i64 0, .int .i64 0] 28)) := Chg.alloc _ _
  have h2 := h.keep hc (Av.nil _ _)
  have hN := heap_lt h.hdr
  generalize w.alloc (.cells #[.int .i64 0, .int .i64 0] 28) = w1 at *
  refine (kgone w1 h2).mono ?_
  rintro e w2 ⟨rfl, rfl⟩
  have e0 : w1.cell? ⟨N, 0, none⟩ = some (.int .i64 8) := cell_is h2.hdr 0 rfl
  have e1 : w1.cell? ⟨N, 1, none⟩ = some (.int .i64 96) := cell_is h2.hdr 1 rfl
  have c0 := cell_is g0 0 rfl
  have c1 := cell_is g0 1 rfl
  have f0 := unfrozen g0 0
  have f1 := unfrozen g0 1
  clear h h2 g0
  go_wp2_with fail
  refine bodyPost_ret (v := .agg #[.int .i64 8, .int .i64 96]) (by simp [results, Tryz.results33, go_sem, c0, c1]) rfl ?_
  exact ⟨rfl, (hc.new_set (by omega) _ _).new_set (by omega) _ _⟩
set_option maxRecDepth 100000 in
theorem kblocks0 (w : World) {base S N A c : Nat} {ops rds : Int} {Z : List Nat} {vs : Nat → Value} {gs : Nat → Nat} {zs : Nat → List (List UInt8)} (h : SlotAt w S N) (hD : DevK w base N A c ops rds Z vs gs zs) (he : zs 0 = []) : Calls Tryz.prog 68 #[.pointer (some ⟨S, 0, none⟩), .int .i64 0] w fun e w' => e = .returned (.slice none 0 0) ∧ w = w' := by
  obtain ⟨c0, c1, c2, c3, c4, -, -, -, -⟩ := slot_cells h
  have HP := Lib.hid (kpointer w hD 0 (by have := hD.len; omega))
  rw [he] at HP
  clear h hD he
  go_enter Tryz.func68, Tryz.ntmps68
  go_wp2_with fail
  go_loop [4, 5] (fun a b => a = .slice none 0 0 ∧ b = .int .i64 0) (fun _ _ => 0)
  case atStart => exact ⟨rfl, rfl⟩
  case round =>
    obtain ⟨rfl, rfl⟩ := hrel
    go_wp2_with fail
    refine HP.out.mono ?_
    rintro e w1 ⟨rfl, rfl⟩
    go_wp2_with fail
    go_loop [4, 38] (fun b a => b = .slice none 0 0 ∧ a = .int .i64 0) (fun _ _ => 0)
    case atStart => exact ⟨rfl, rfl⟩
    case round =>
      obtain ⟨rfl, rfl⟩ := hrel
      go_wp2_with fail
      go_ret
      exact ⟨rfl, rfl⟩
set_option maxRecDepth 100000 in
theorem kblocks1 (w : World) {base S N A c : Nat} {ops rds : Int} {Z : List Nat} {vs : Nat → Value} {gs : Nat → Nat} {zs : Nat → List (List UInt8)} (h : SlotAt w S N) (hD : DevK w base N A c ops rds Z vs gs zs) (he : zs 3 = []) : Calls Tryz.prog 68 #[.pointer (some ⟨S, 0, none⟩), .int .i64 1] w fun e w' => e = .returned (.slice none 0 0) ∧ w = w' := by
  obtain ⟨c0, c1, c2, c3, c4, -, -, -, -⟩ := slot_cells h
  have HP := Lib.hid (kpointer w hD 3 (by have := hD.len; omega))
  rw [he] at HP
  clear h hD he
  go_enter Tryz.func68, Tryz.ntmps68
  go_wp2_with fail
  go_loop [4, 5] (fun a b => a = .slice none 0 0 ∧ b = .int .i64 3) (fun _ _ => 0)
  case atStart => exact ⟨rfl, rfl⟩
  case round =>
    obtain ⟨rfl, rfl⟩ := hrel
    go_wp2_with fail
    refine HP.out.mono ?_
    rintro e w1 ⟨rfl, rfl⟩
    go_wp2_with fail
    go_loop [4, 38] (fun b a => b = .slice none 0 0 ∧ a = .int .i64 0) (fun _ _ => 0)
    case atStart => exact ⟨rfl, rfl⟩
    case round =>
      obtain ⟨rfl, rfl⟩ := hrel
      go_wp2_with fail
      go_ret
      exact ⟨rfl, rfl⟩
/-- what slot.Open hands back at a device whose slots are empty. -/
def OpenK (w : World) (base N A c : Nat) (ops rds : Int) (Z : List Nat) (vs : Nat → Value) (gs : Nat → Nat) (zs : Nat → List (List UInt8)) (e : Ending) (w' : World) : Prop :=
  ∃ S, e = .returned (.tuple #[.pointer (some ⟨S, 0, none⟩), .int .i64 0]) ∧ Chg (N :: Z) w w' ∧ DevK w' base N A c (ops + 1) rds Z vs (goodF gs zs 8) zs ∧ SlotAt w' S N ∧ w.heap.size ≤ S
set_option maxRecDepth 100000 in
set_option maxHeartbeats 1000000 in
theorem kopen (w : World) {base N A c : Nat} {ops rds : Int} {Z : List Nat} {vs : Nat → Value} {gs : Nat → Nat} {zs : Nat → List (List UInt8)} (hD : DevK w base N A c ops rds Z vs gs zs) (he0 : zs 0 = []) (he3 : zs 3 = []) (hlt : ∀ z ∈ Z, z < w.heap.size) (h0 : 0 ≤ ops) (h1 : ops ≤ 1000000) : Calls Tryz.prog 34 #[.pointer (some ⟨N, 0, none⟩), .int .i64 0, .int .i64 3, .int .i64 6] w (OpenK w base N A c ops rds Z vs gs zs) := by
  go_enter Tryz.func34, Tryz.ntmps34
  go_wp2_with fail
  refine (kgeometry w hD).mono ?_
  rintro e w1 ⟨rfl, hc1⟩
  have hD1 := hD.keep hc1 (Av.nil _ _)
  go_wp2_with fail
  have g1 := (two_new w1 (.cells #[.int .i64 8, .int .i64 96] 28) (.cells #[.pointer (some ⟨N, 0, none⟩), .int .i64 0, .int .i64 3, .int .i64 6, .int .i64 96, .int .i64 1, .slice none 0 0, .int .i64 0, .bool false] 159)).2
  have hc2 := hc1.then (chg_two w1 (.cells #[.int .i64 8, .int .i64 96] 28) (.cells #[.pointer (some ⟨N, 0, none⟩), .int .i64 0, .int .i64 3, .int .i64 6, .int .i64 96, .int .i64 1, .slice none 0 0, .int .i64 0, .bool false] 159))
  have hsz := hc1.size
  generalize (w1.alloc (.cells #[.int .i64 8, .int .i64 96] 28)).alloc (.cells #[.pointer (some ⟨N, 0, none⟩), .int .i64 0, .int .i64 3, .int .i64 6, .int .i64 96, .int .i64 1, .slice none 0 0, .int .i64 0, .bool false] 159) = w2 at *
  have hS : SlotAt w2 (w1.heap.size + 1) N := g1
  have hD2 := hD.keep hc2 (Av.nil _ _)
  have hNS : w1.heap.size + 1 ∉ N :: Z := by
    have hN := heap_lt hD.hdr
    intro hm
    rcases List.mem_cons.1 hm with hm | hm
    · omega
    · have := hlt _ hm; omega
  have hS0 : w.heap.size ≤ w1.heap.size + 1 := by omega
  generalize w1.heap.size + 1 = S at *
  have c7 := (slot_cells hS).2.2.2.2.2.2.2.1
  clear hD hD1 g1 hc1
  go_loop [51] (fun i => i = .int .i64 0 ∨ i = .int .i64 1 ∨ i = .int .i64 2) (fun i => 2 - (intOf i).toNat)
  case atStart => exact Or.inl rfl
  case round =>
    rcases hrel with rfl | rfl | rfl
    · go_wp2_with fail
      refine (kblocks0 w2 hS hD2 he0).mono ?_
      rintro e w3 ⟨rfl, rfl⟩
      go_wp2_with fail
      refine (contf_nil _ w2).mono ?_
      rintro e w3 ⟨rfl, rfl⟩
      go_wp2_with fail
      refine (read_nil w2).mono ?_
      rintro e w3 ⟨rfl, rfl⟩
      go_wp2_with fail
      go_round
      case rel => exact Or.inr (Or.inl rfl)
      case measure => decide
    · go_wp2_with fail
      refine (kblocks1 w2 hS hD2 he3).mono ?_
      rintro e w3 ⟨rfl, rfl⟩
      go_wp2_with fail
      refine (contf_nil _ w2).mono ?_
      rintro e w3 ⟨rfl, rfl⟩
      go_wp2_with fail
      refine (read_nil w2).mono ?_
      rintro e w3 ⟨rfl, rfl⟩
      go_wp2_with fail
      go_round
      case rel => exact Or.inr (Or.inr rfl)
      case measure => decide
    · go_wp2_with fail
      refine (kflush w2 hD2 h0 h1).mono ?_
      rintro e w3 ⟨rfl, hc3, hD3⟩
      have hS3 := hS.keep hc3 hNS
      have hc4 : Chg (N :: Z) w w3 := (hc2.mono (T := N :: Z) (fun x hx _ => by cases hx)).then hc3
      go_wp2_with fail
      go_ret2
      exact ⟨S, rfl, hc4, hD3, hS3, hS0⟩
end Go.Proofs.YtliicpedddcfiaaGreat
namespace Go.Proofs.YtliicpedddcfiaaGreat
open Go.RowKit Go.Lib

/-- .. with room behind each row. -/
def RowsC (w : World) (base : Nat) (v : Value) (l : List (List UInt8)) : Prop :=
  ∃ xs, w.ownsRow base 34 1 v l.length xs ∧ ∀ i (h : i < l.length), ∃ g c, xs[i]? = some (.slice (some ⟨g, 0, none⟩) 64 c) ∧ 64 ≤ c ∧ Bs w (some ⟨g, 0, none⟩) l[i] ∧ l[i].length = 64 ∧ Bt w g
theorem RowsC.nil (w : World) (base : Nat) : RowsC w base (.slice none 0 0) [] := ⟨[], World.ownsRow_nil _ _ _ _, fun i h => by simp at h⟩
theorem RowsC.keep {w w' : World} {T : List Nat} {base : Nat} {v : Value} {l : List (List UInt8)} (h : RowsC w base v l) (hc : Chg T w w') (hT : Av w T [5]) (hv : ∀ g, v.ownBlock = some g → g ∉ T) : RowsC w' base v l := by
  obtain ⟨xs, ho, hx⟩ := h
  refine ⟨xs, ?_, fun i hi => ?_⟩
  · refine ⟨ho.1, ?_⟩
    rcases ho.2 with hn | ⟨g, cap, cur, rfl, hb, hg, rest⟩
    · exact Or.inl hn
    · exact Or.inr ⟨g, cap, cur, rfl, hb, hc.heap hg (hv g rfl), rest⟩
  · obtain ⟨g, c, h1, h0, h2, h3, h4⟩ := hx i hi
    have hg := h4.av hT (by simp)
    exact ⟨g, c, h1, h0, h2.chgT hc hg, h3, h4.keep hc hg⟩
theorem RowsC.keep0 {w w' : World} {base : Nat} {v : Value} {l : List (List UInt8)} (h : RowsC w base v l) (hc : Chg [] w w') : RowsC w' base v l := h.keep hc (Av.nil _ _) (fun g _ => by simp)
theorem RowsC.push {w w' : World} {base g gb cb cap : Nat} {v : Value} {l : List (List UInt8)} {b : List UInt8} {xs : List Value} (hx : ∀ i (h : i < l.length), ∃ g c, xs[i]? = some (.slice (some ⟨g, 0, none⟩) 64 c) ∧ 64 ≤ c ∧ Bs w (some ⟨g, 0, none⟩) l[i] ∧ l[i].length = 64 ∧ Bt w g)
    (hl : xs.length = l.length) (hv : ∀ g, v.ownBlock = some g → ∃ cs, w.heap[g]? = some (.cells cs 34 (0, 0))) (ho : w'.ownsRow base 34 1 (.slice (some ⟨g, 0, none⟩) (l.length + 1) cap) (l.length + 1) (xs ++ [.slice (some ⟨gb, 0, none⟩) 64 cb])) (hc : Chg v.ownBlock.toList w w')
    (hb : Bs w (some ⟨gb, 0, none⟩) b) (hb4 : b.length = 64) (hbt : Bt w gb) (h64 : 64 ≤ cb) : RowsC w' base (.slice (some ⟨g, 0, none⟩) (l.length + 1) cap) (l ++ [b]) := by
  have hne : ∀ {k}, Bt w k → k ∉ v.ownBlock.toList := by
    intro k hk hm
    have hm' : v.ownBlock = some k := by simpa using hm
    obtain ⟨cs, h1⟩ := hv k hm'
    obtain ⟨cs2, h2⟩ := hk
    rw [h1] at h2
    cases h2
  refine ⟨xs ++ [.slice (some ⟨gb, 0, none⟩) 64 cb], by rw [List.length_append]; exact ho, fun i hi => ?_⟩
  by_cases h : i < l.length
  · obtain ⟨g, c, h1, h0, h2, h3, h4⟩ := hx i h
    rw [List.getElem_append_left h]
    exact ⟨g, c, by rw [List.getElem?_append_left (by omega)]; exact h1, h0, h2.chgT hc (hne h4), h3, h4.keep hc (hne h4)⟩
  · have hi2 : i = l.length := by simp at hi; omega
    subst hi2
    refine ⟨gb, cb, by rw [← hl]; simp, h64, ?_, ?_, hbt.keep hc (hne hbt)⟩
    · rw [List.getElem_append_right (Nat.le_refl _)]
      simpa using hb.chgT hc (hne hbt)
    · rw [List.getElem_append_right (Nat.le_refl _)]
      simpa using hb4
/-- a device's own block. -/
def hdrK (A c : Nat) (ops rds : Int) : Obj := .cells #[.int .i64 8, .int .i64 96, .slice (some ⟨A, 0, none⟩) 8 c, .int .i64 ops, .int .i64 rds, .bool false, .int .i64 0, .bool false] 93 (0, 0)
theorem DevK.turn {w wr : World} {base N A c : Nat} {ops rds ops' rds' : Int} {Z : List Nat} {vs : Nat → Value} {gs : Nat → Nat} {zs : Nat → List (List UInt8)} (h : DevK w base N A c ops rds Z vs gs zs) (hc : Chg [N] w wr) (hh : wr.heap[N]? = some (hdrK A c ops' rds')) : DevK wr base N A c ops' rds' Z vs gs zs := by
  have hne : ∀ {g : Nat} {cs : Array Value} {t : TypeId}, w.heap[g]? = some (.cells cs t (0, 0)) → t ≠ 93 → g ∉ [N] := by
    intro g cs t hg ht hm
    rw [List.mem_singleton] at hm
    subst hm
    rw [h.hdr] at hg
    cases hg
    exact ht rfl
  obtain ⟨cA, hA⟩ := h.tA
  refine ⟨hh, h.cap, h.len, ⟨cA, hc.heap hA (hne hA (by decide))⟩, fun j hj => hc.cell (h.ptr j hj) (hne hA (by decide)), fun j hj => hc.heap (h.zone j hj) (hne (h.zone j hj) (by decide)), fun j hj => (h.rows j hj).keep hc (Av.row h.hdr (by simp)) (fun g hg => ?_), h.apart, h.nodup⟩
  obtain ⟨cs, hb⟩ := (h.rows j hj).block g hg
  exact hne hb (by decide)
/-- some bytes are put behind the rows of an own row. -/
theorem wpList_append_bk {ops : Array Oper} {rest : List Oper} {o : Oper} {a : Act} {w : World} {Q : Exit → Act → World → Prop} (hgd : o.guard = none) (s x : Operand)
    (ho : o.op = .call { callee := .builtin .append, args := #[s, x], argTypes := #[95, 95] }) (base : Nat) (v : Value) (n : Nat) (xs : List Value) (hs : a.eval s = v) (hown : w.ownsRow base 34 1 v n xs) (b c : Nat) (u0 : Value)
    (hx : a.eval x = .slice (some ⟨b, 0, none⟩) 1 c) (c0 : w.cell? ⟨b, 0, none⟩ = some u0) (h1 : u0.oneCell' = true) (hn : n ≤ 1000000) (hbase : base ≤ w.heap.size)
    (h : ∀ g cap w', w'.ownsRow base 34 1 (.slice (some ⟨g, 0, none⟩) (n + 1) cap) (n + 1) (xs ++ [u0]) → Chg v.ownBlock.toList w w' → (v.ownBlock = some g ∨ g = w.heap.size) → wpList Tryz.prog ops Q rest (a.put o.dst (.slice (some ⟨g, 0, none⟩) (n + 1) cap)) w') :
    wpList Tryz.prog ops Q (o :: rest) a w := by
  obtain ⟨i, hi0, hz, hz1, hz2⟩ := info_parts inf23
  refine wpList_append_lies w hgd s x 95 ho base 34 i _ 1 24 ty132 hi0 hz hz1 hz2 rfl (by decide) v n xs hs hown ⟨b, 0, none⟩ 1 c [u0] hx rfl ?_ ?_ (by decide) (by unfold maxLen; omega) (by omega) hbase _ rfl ?_
  · intro j u hu
    rw [add_lit, Nat.zero_add]
    match j with
    | 0 => cases hu; exact c0
    | j + 1 => simp at hu
  · intro u hu
    simp at hu
    rcases hu with rfl
    exact h1
  · intro g cap w' h2 h3 h4 _
    refine h g cap w' h2 ?_ h4
    cases hv : v.ownBlock with
    | none => rw [hv] at h3; exact Chg.of_grown0 h3
    | some k => rw [hv] at h3; exact Chg.of_grown h3
/-- what the log hands back. -/
def LogR (w : World) (base N A c : Nat) (ops rds : Int) (Z : List Nat) (vs : Nat → Value) (gs : Nat → Nat) (zs : Nat → List (List UInt8)) (e : Ending) (w' : World) : Prop :=
  ∃ v, e = .returned (.tuple #[v, .slice none 0 0]) ∧ Chg [N] w w' ∧ DevK w' base N A c ops (rds + (zs 6).length) Z vs gs zs ∧ RowsC w' w.heap.size v (zs 6)
set_option maxRecDepth 100000 in
set_option maxHeartbeats 4000000 in
theorem klog (w : World) {base P N S A c : Nat} {m : Option Addr} {ops rds : Int} {Z : List Nat} {vs : Nat → Value} {gs : Nat → Nat} {zs : Nat → List (List UInt8)} (h : StoreAt w P N S m) (hD : DevK w base N A c ops rds Z vs gs zs) (he7 : zs 7 = []) (h96 : (zs 6).length < 96) (ho0 : 0 ≤ rds) (ho1 : rds ≤ 1000000) :
    Calls Tryz.prog 37 #[.pointer (some ⟨P, 0, none⟩)] w (LogR w base N A c ops rds Z vs gs zs) := by
  obtain ⟨c0, -⟩ := store_cells h
  have hfs := field_size
  have hl := hD.len
  have h6 : 6 < Z.length := by omega
  have h7 : 7 < Z.length := by omega
  have HD := Lib.hid hD
  have HS := Lib.hid h
  have hPN : P ∉ [N] := by rw [List.mem_singleton]; exact heap_ne h hD.hdr (by simp)
  have HPN := Lib.hid hPN
  have hHdr : w.heap[N]? = some (hdrK A c ops rds) := hD.hdr
  clear hl
  go_enter Tryz.func37, Tryz.ntmps37
  go_wp2_with fail
  refine (kgeometry w hD).mono ?_
  rintro e w1 ⟨rfl, hc1⟩
  have kk1 : Chg [N] w w1 := hc1.mono (fun x hx _ => by cases hx)
  have hd1 : w1.heap[N]? = some (hdrK A c ops rds) := hc1.heap hHdr (by simp)
  have hS1 := h.keep hc1 (by simp)
  have hlen : (zs 6).length < 96 := h96
  clear hc1 h hD hHdr hPN c0
  obtain ⟨c0, -, -, c3, c4, -⟩ := store_cells hS1
  go_wp2_with fail
  go_loopw [2, 3, 5, 6] (fun a b g z wr => b = .slice none 0 0 ∧ Chg [N] w wr ∧ ((z = .int .i64 6 ∧ a = .slice none 0 0 ∧ g = .bool false ∧ wr = w1) ∨ ((z = .int .i64 7 ∧ g = .bool true ∨ z = .int .i64 8) ∧ wr.heap[N]? = some (hdrK A c ops (rds + (zs 6).length)) ∧ RowsC wr w.heap.size a (zs 6)))) (fun _ _ _ z _ => 8 - (intOf z).toNat)
  case atStart => exact ⟨rfl, kk1, Or.inl ⟨rfl, rfl, rfl, rfl⟩⟩
  case round =>
    obtain ⟨rfl, kr, ⟨rfl, rfl, rfl, rfl⟩ | ⟨hz, hdr, hrw⟩⟩ := hrel
    · have h6c := Lib.hid (kpointer wr ((HD.out.turn kr hd1)) 6 h6)
      go_wp2_with fail
      go_step3
      go_wp2_with fail
      refine h6c.out.mono ?_
      rintro e w2 ⟨rfl, rfl⟩
      go_wp2_with fail
      go_step3
      go_wp2_with fail
      go_loopw [2, 3, 42] (fun a b k wx => ∃ j : Nat, j ≤ (zs 6).length ∧ k = .int .i64 j ∧ b = .slice none 0 0 ∧ Chg [N] w wx ∧ wx.heap[N]? = some (hdrK A c ops (rds + j)) ∧ RowsC wx w.heap.size a ((zs 6).take j)) (fun _ _ k _ => (zs 6).length - (intOf k).toNat)
      case atStart => exact ⟨0, by omega, rfl, rfl, kr, by simpa using hd1, by simpa using RowsC.nil _ _⟩
      case round =>
        obtain ⟨j, hj, rfl, rfl, kx, hx, hrx⟩ := hrel
        by_cases hlt : j < (zs 6).length
        · have n1 : decide ((j : Int) < ((zs 6).length : Int)) = true := decide_eq_true (by omega)
          have q0 := (store_cells (HS.out.keep kx HPN.out)).1
          have HRd := Lib.hid (kread wr (HD.out.turn kx hx) (by omega) (by omega) 6 h6 j hlt)
          have HX := Lib.hid (And.intro kx (And.intro hx hrx))
          clear kx hx hrx
          go_wp2_with fail
          refine HRd.out.mono ?_
          rintro e w2 ⟨g, c', rfl, k2, d2, b2, l2, t2, c64⟩
          obtain ⟨kx, hx, hrx⟩ := HX.out
          have hr2 := hrx.keep k2 (Av.row hx (by simp)) (fun g' hg' hm => by
            rw [List.mem_singleton] at hm
            subst hm
            obtain ⟨xs, ho, -⟩ := hrx
            obtain ⟨-, cur, hh⟩ := own_elem ho hg'
            rw [show wr.heap[_]? = _ from hx] at hh
            cases hh)
          obtain ⟨xs, ho, hxs⟩ := hr2
          have hjl : ((zs 6).take j).length = j := by simp; omega
          rw [hjl] at ho
          obtain ⟨pa, cv, rfl, -⟩ := own_form ho
          have ka : Chg [] w2 (w2.alloc (.cells #[.slice (some ⟨g, 0, none⟩) 64 c'] 34)) := Chg.alloc w2 _
          have ya := heap_new w2 (.cells #[.slice (some ⟨g, 0, none⟩) 64 c'] 34)
          have oa := own_keep ho ka.below0
          have hk2 := k2.size
          have hkx := kx.size
          have hba : w.heap.size ≤ (w2.alloc (.cells #[.slice (some ⟨g, 0, none⟩) 64 c'] 34)).heap.size := by have := ka.size; omega
          have hdx : w2.heap[N]? = some (hdrK A c ops (rds + (j + 1 : Nat))) := by
            have := d2.hdr
            rwa [show rds + (j : Int) + 1 = rds + ((j + 1 : Nat) : Int) from by push_cast; omega] at this
          have H2 := Lib.hid (And.intro (kx.then k2) (And.intro hdx (And.intro b2 (And.intro l2 (And.intro t2 (And.intro c64 (And.intro hxs ho)))))))
          clear kx hx hrx k2 d2 b2 l2 t2 c64 hxs ho hdx q0 HX HRd
          go_wp2_with (first | (at_builtin; refine wpList_append_bk rfl (.tmp 60) (.tmp 62) rfl w.heap.size (.slice pa j cv) j xs rfl oa w2.heap.size 1 _ rfl (cell_is ya 0 rfl) rfl (by omega) hba ?_; intro g5 c5 w5 o5 k5 i5))
          obtain ⟨k2, hdx, b2, l2, t2, c64, hxs, ho⟩ := H2.out
          have hfin : Chg [N] w w5 ∧ w5.heap[N]? = some (hdrK A c ops (rds + (j + 1 : Nat))) ∧ RowsC w5 w.heap.size (.slice (some ⟨g5, 0, none⟩) (j + 1) c5) ((zs 6).take (j + 1)) := by
            refine ⟨(k2.then (ka.mono (fun x hx _ => by cases hx))).trans k5 (fun x hx hl => ?_), k5.heap (ka.heap hdx (by simp)) (own_block_ne oa (ka.heap hdx (by simp)) (by decide)), ?_⟩
            · obtain ⟨hge, -⟩ := own_elem oa (show (Value.slice pa j cv).ownBlock = some x by simpa using hx)
              omega
            · rw [List.take_succ_eq_append_getElem hlt]
              have hp := RowsC.push (w := w2.alloc (.cells #[.slice (some ⟨g, 0, none⟩) 64 c'] 34)) (w' := w5) (base := w.heap.size) (g := g5) (gb := g) (cb := c') (cap := c5) (v := .slice pa j cv) (l := (zs 6).take j) (b := (zs 6)[j]) (xs := xs)
                (fun i hi => by obtain ⟨g', c'', e1, e2, e3, e4, e5⟩ := hxs i hi; exact ⟨g', c'', e1, e2, e3.chg ka, e4, e5.keep ka (by simp)⟩)
                (by rw [hjl]; have := ho.1; omega) (fun g' hg' => (own_elem oa hg').2) (by rw [hjl]; exact o5) k5 (b2.chg ka) ?_ (t2.keep ka (by simp)) c64
              · rw [hjl] at hp
                exact hp
              · obtain ⟨xs', -, hr⟩ := HD.out.rows 6 (by decide)
                obtain ⟨_, _, _, _, e, _⟩ := hr j hlt
                exact e
          have HF := Lib.hid hfin
          clear hfin k2 hdx b2 l2 t2 c64 hxs ho ka ya oa o5 k5 i5
          go_wp2_with fail
          go_roundw
          case rel => exact ⟨j + 1, hlt, by go_num, rfl, HF.out⟩
          case measure => simp [intOf]; omega
        · obtain rfl : j = (zs 6).length := by omega
          rw [List.take_length] at hrx
          have n2 : decide (((zs 6).length : Int) < 96) = true := decide_eq_true (by omega)
          have HX := Lib.hid (And.intro kx (And.intro hx hrx))
          clear kx hx hrx
          go_wp2_with fail
          simp only [Exit.noGoto]
          go_wp2_with fail
          exact ⟨⟨rfl, HX.out.1, Or.inr ⟨Or.inl ⟨rfl, rfl⟩, HX.out.2⟩⟩, by simp [intOf]⟩
    · rcases hz with ⟨rfl, rfl⟩ | rfl
      · have h7c := Lib.hid (kpointer wr (HD.out.turn kr hdr) 7 h7)
        rw [he7] at h7c
        obtain ⟨q0, -, -, q3, q4, -⟩ := store_cells (HS.out.keep kr HPN.out)
        have HX := Lib.hid (And.intro kr (And.intro hdr hrw))
        clear kr hdr hrw
        go_wp2_with fail
        go_step3
        go_wp2_with fail
        refine h7c.out.mono ?_
        rintro e w2 ⟨rfl, rfl⟩
        go_wp2_with fail
        go_step3
        go_wp2_with fail
        go_loop [2, 3, 42] (fun x y k => x = u2 ∧ y = .slice none 0 0 ∧ k = .int .i64 0) (fun _ _ _ => 0)
        case atStart => exact ⟨rfl, rfl, rfl⟩
        case round =>
          obtain ⟨rfl, rfl, rfl⟩ := hrel
          go_wp2_with fail
          exact ⟨⟨rfl, HX.out.1, Or.inr ⟨Or.inr rfl, HX.out.2⟩⟩, by simp [intOf]⟩
      · obtain ⟨q0, -, -, q3, q4, -⟩ := store_cells (HS.out.keep kr HPN.out)
        go_wp2_with fail
        go_ret2
        exact ⟨_, rfl, kr, HD.out.turn kr hdr, hrw⟩
end Go.Proofs.YtliicpedddcfiaaGreat
namespace Go.Proofs.YtliicpedddcfiaaGreat
open Go.RowKit Go.Lib

theorem RowsC.at_ {w : World} {base : Nat} {v : Value} {l : List (List UInt8)} (h : RowsC w base v l) : RowsAt w base v l := by
  obtain ⟨xs, ho, hx⟩ := h
  refine ⟨xs, ho, fun i hi => ?_⟩
  obtain ⟨g, c, h1, -, h2⟩ := hx i hi
  exact ⟨g, c, h1, h2⟩
set_option maxRecDepth 100000 in
set_option maxHeartbeats 4000000 in
theorem zown_ok (w : World) {lo c n : Nat} {pa : Option Addr} {l : List (List UInt8)} (h : RowsAt w lo (.slice pa n c) l) (hn : l.length = n) (hn1 : n ≤ 1000) : Calls Tryz.prog 59 #[.slice pa n c] w fun e w' => ∃ v, e = .returned v ∧ Chg [] w w' ∧ RowsC w' w.heap.size v l := by
  have HP := Lib.hid h
  clear h
  go_enter Tryz.func59, Tryz.ntmps59
  go_wp2_with fail
  go_loopw [2, 4, 7] (fun v _ i wr => ∃ j : Nat, j ≤ n ∧ i = .int .i64 j ∧ Chg [] w wr ∧ RowsC wr w.heap.size v (l.take j)) (fun _ _ i _ => n - (intOf i).toNat)
  case atStart => exact ⟨0, by omega, rfl, Chg.refl _ _, by simpa using RowsC.nil _ _⟩
  case round =>
    obtain ⟨j, hj, rfl, kr, hrx⟩ := hrel
    by_cases hlt : j < n
    · have hjl : j < l.length := by omega
      obtain ⟨ga, ca, gd, cd, hv, hca, r0, hb, h64, -, -⟩ := (HP.out.keep kr (Av.nil _ _) (fun _ _ => by simp)).at2 j hjl
      have hpa : pa = some ⟨ga, 0, none⟩ ∧ n ≤ c := by
        injection hv with e1 e2 e3
        exact ⟨e1, by omega⟩
      obtain ⟨rfl, hnc⟩ := hpa
      have HC := Lib.hid (clone_btc wr (D := gd) (o := 0) (c := cd) (m := 64) h64 (by decide) (by decide) hb)
      have HX := Lib.hid (And.intro kr hrx)
      have H64 := Lib.hid h64
      have hji : (j : Int) < n := by omega
      clear kr hrx hb h64 hv
      go_wp2_with fail
      refine HC.out.mono ?_
      rintro e w2 ⟨g, c', rfl, k2, b2, hg2, t2, c64⟩
      obtain ⟨kr, hrx⟩ := HX.out
      obtain ⟨xs, ho, hxs⟩ := hrx.keep0 k2
      have hjt : (l.take j).length = j := by simp; omega
      rw [hjt] at ho
      obtain ⟨pv, cv, rfl, -⟩ := own_form ho
      have ka : Chg [] w2 (w2.alloc (.cells #[.slice (some ⟨g, 0, none⟩) 64 c'] 34)) := Chg.alloc w2 _
      have ya := heap_new w2 (.cells #[.slice (some ⟨g, 0, none⟩) 64 c'] 34)
      have oa := own_keep ho ka.below0
      have hk2 := k2.size
      have hkr := kr.size
      have hba : w.heap.size ≤ (w2.alloc (.cells #[.slice (some ⟨g, 0, none⟩) 64 c'] 34)).heap.size := by have := ka.size; omega
      have H2 := Lib.hid (And.intro (kr.then k2) (And.intro b2 (And.intro t2 (And.intro c64 (And.intro hxs ho)))))
      clear kr hrx k2 b2 t2 c64 hxs ho HX HC
      go_wp2_with (first | (at_builtin; refine wpList_append_bk rfl (.tmp 11) (.tmp 14) rfl w.heap.size (.slice pv j cv) j xs rfl oa w2.heap.size 1 _ rfl (cell_is ya 0 rfl) rfl (by omega) hba ?_; intro g5 c5 w5 o5 k5 i5))
      obtain ⟨k2, b2, t2, c64, hxs, ho⟩ := H2.out
      have hfin : Chg [] w w5 ∧ RowsC w5 w.heap.size (.slice (some ⟨g5, 0, none⟩) (j + 1) c5) (l.take (j + 1)) := by
        refine ⟨(k2.then ka).trans k5 (fun x hx hl => ?_), ?_⟩
        · obtain ⟨hge, -⟩ := own_elem oa (show (Value.slice pv j cv).ownBlock = some x by simpa using hx)
          omega
        · rw [List.take_succ_eq_append_getElem hjl]
          have hp := RowsC.push (w := w2.alloc (.cells #[.slice (some ⟨g, 0, none⟩) 64 c'] 34)) (w' := w5) (base := w.heap.size) (g := g5) (gb := g) (cb := c') (cap := c5) (v := .slice pv j cv) (l := l.take j) (b := l[j]) (xs := xs)
            (fun i hi => by obtain ⟨g', c'', e1, e2, e3, e4, e5⟩ := hxs i hi; exact ⟨g', c'', e1, e2, e3.chg ka, e4, e5.keep ka (by simp)⟩)
            (by rw [hjt]; have := ho.1; omega) (fun g' hg' => (own_elem oa hg').2) (by rw [hjt]; exact o5) k5 (b2.chg ka) H64.out (t2.keep ka (by simp)) c64
          rw [hjt] at hp
          exact hp
      have HF := Lib.hid hfin
      clear hfin k2 b2 t2 c64 hxs ho ka ya oa o5 k5 i5
      go_wp2_with fail
      go_roundw
      case rel => exact ⟨j + 1, hlt, by go_num, HF.out⟩
      case measure => simp [intOf]; omega
    · obtain rfl : j = n := by omega
      rw [List.take_of_length_le (by omega)] at hrx
      go_wp2_with fail
      go_ret
      exact ⟨_, rfl, kr, hrx⟩
/-- what pick answers. -/
def PickOk (pv : Value) (w : World) : Prop := ∀ w2, Chg [] w w2 → ∀ k : Nat, k < 8 → Calls Tryz.prog 57 #[pv, .int .i64 k] w2 fun e w' => ∃ x b, e = .returned (.tuple #[.int .i64 x, .bool b]) ∧ w2 = w'
set_option maxRecDepth 100000 in
theorem pick_nil (w : World) : PickOk (.slice none 0 0) w := by
  intro w2 _ k _
  go_enter Tryz.func57, Tryz.ntmps57
  go_wp2_with fail
  go_ret2
  exact ⟨0, false, rfl, rfl⟩
set_option maxRecDepth 100000 in
theorem rest_one (w : World) (x : Int) : Calls Tryz.prog 58 #[.int .i64 x, .int .i64 1] w fun e w' => e = .returned (.int .i64 0) ∧ w = w' := by
  go_enter Tryz.func58, Tryz.ntmps58
  go_wp2_with fail
  go_ret
  exact ⟨rfl, rfl⟩
/-- a zone is laid anew. -/
theorem DevG.lay {w : World} {base N A c : Nat} {ops : Int} {Z : List Nat} {vs : Nat → Value} {gs : Nat → Nat} {zs : Nat → List (List UInt8)} (h : DevG w base N A c ops Z vs gs zs) {j : Nat} (hj : j < Z.length) {v' : Value} {l' : List (List UInt8)} (hr : RowsAt w base v' l')
    (hap : ∀ g, v'.ownBlock = some g → ∀ i, i < 8 → i ≠ j → (vs i).ownBlock ≠ some g) : DevG ((w.setCell ⟨Z[j], 0, none⟩ v').setCell ⟨Z[j], 1, none⟩ (.int .i64 (l'.length : Nat))) base N A c ops Z (upF vs j v') (upF gs j l'.length) (upF zs j l') := by
  have hc : Chg [Z[j]] w ((w.setCell ⟨Z[j], 0, none⟩ v').setCell ⟨Z[j], 1, none⟩ (.int .i64 (l'.length : Nat))) := (Chg.set w Z[j] 0 v').then (Chg.set _ Z[j] 1 _)
  have hzj := h.zone j hj
  have ht : ∀ {g : Nat} {cs : Array Value} {t : TypeId}, w.heap[g]? = some (.cells cs t (0, 0)) → t ≠ 97 → g ∉ [Z[j]] := by
    intro g cs t hg h1 hm
    rw [List.mem_singleton] at hm
    subst hm
    rw [hzj] at hg; cases hg; exact h1 rfl
  have keepR : ∀ {v l}, RowsAt w base v l → RowsAt ((w.setCell ⟨Z[j], 0, none⟩ v').setCell ⟨Z[j], 1, none⟩ (.int .i64 (l'.length : Nat))) base v l := fun {v l} hh => hh.keep hc (Av.row hzj (by simp)) (fun g hg => by
    obtain ⟨cs, hb⟩ := hh.block g hg
    exact ht hb (by decide))
  obtain ⟨cA, hA⟩ := h.tA
  refine ⟨hc.heap h.hdr (ht h.hdr (by decide)), h.cap, h.len, ⟨cA, hc.heap hA (ht hA (by decide))⟩, fun k hk => hc.cell (h.ptr k hk) (ht hA (by decide)), fun k hk => ?_, fun k hk => ?_, fun i k g hi hk hik hg => ?_, h.nodup⟩
  · by_cases hkj : k = j
    · subst hkj
      simpa [upF] using heap_set (heap_set hzj 0 v' rfl) 1 (.int .i64 (l'.length : Nat)) rfl
    · simpa [upF, hkj] using hc.heap (h.zone k hk) (by simpa using nodup_ne h.nodup hk hj hkj)
  · by_cases hkj : k = j
    · subst hkj
      simpa [upF] using keepR hr
    · simpa [upF, hkj] using keepR (h.rows k hk)
  · by_cases hij : i = j
    · subst hij
      rw [show upF vs i v' i = v' by simp [upF]] at hg
      rw [show upF vs i v' k = vs k by simp [upF, hik.symm]]
      exact hap g hg k hk hik.symm
    · rw [show upF vs j v' i = vs i by simp [upF, hij]] at hg
      by_cases hkj : k = j
      · subst hkj
        rw [show upF vs k v' k = v' by simp [upF]]
        intro e
        exact hap g e i hi hij hg
      · rw [show upF vs j v' k = vs k by simp [upF, hkj]]
        exact h.apart i k g hi hk hik hg
/-- the first j zones. -/
def cutZ (zs : Nat → List (List UInt8)) (j : Nat) : Nat → List (List UInt8) := fun i => if i < j then zs i else []
theorem cutZ_succ (zs : Nat → List (List UInt8)) (j : Nat) : upF (cutZ zs j) j (zs j) = cutZ zs (j + 1) := by
  funext k
  unfold upF cutZ
  by_cases h : k = j
  · subst h; simp
  · rw [if_neg h]
    by_cases h2 : k < j
    · rw [if_pos h2, if_pos (by omega)]
    · rw [if_neg h2, if_neg (by omega)]
theorem cutG_succ (zs : Nat → List (List UInt8)) (j : Nat) : upF (fun i => (cutZ zs j i).length) j (zs j).length = fun i => (cutZ zs (j + 1) i).length := by
  funext k
  rw [← cutZ_succ]
  unfold upF
  split <;> rfl
/-- what a crash hands back. -/
def CrashR (w : World) (zs : Nat → List (List UInt8)) (e : Ending) (w' : World) : Prop :=
  ∃ N A c Z vs, e = .returned (.pointer (some ⟨N, 0, none⟩)) ∧ Chg [] w w' ∧ DevG w' w.heap.size N A c 0 Z vs (fun i => (cutZ zs 8 i).length) (cutZ zs 8) ∧ w.heap.size ≤ N ∧ w.heap.size ≤ A ∧ (∀ z ∈ Z, w.heap.size ≤ z)
set_option maxRecDepth 100000 in
set_option maxHeartbeats 8000000 in
theorem crash_ok (w : World) {base N A c : Nat} {ops rds : Int} {Z : List Nat} {vs : Nat → Value} {gs : Nat → Nat} {zs : Nat → List (List UInt8)} (hD : DevK w base N A c ops rds Z vs gs zs) (hg : ∀ j, j < 8 → gs j = (zs j).length) (hlen : ∀ j, j < 8 → (zs j).length ≤ 96) {pv tv : Value} (hp : PickOk pv w) (ht : PickOk tv w) :
    Calls Tryz.prog 27 #[.pointer (some ⟨N, 0, none⟩), pv, tv] w (CrashR w zs) := by
  have HG := Lib.hid (kgone w hD)
  have n0 : w.cell? ⟨N, 0, none⟩ = some (.int .i64 8) := cell_is hD.hdr 0 rfl
  have n1 : w.cell? ⟨N, 1, none⟩ = some (.int .i64 96) := cell_is hD.hdr 1 rfl
  have HD := Lib.hid hD
  have HP := Lib.hid hp
  have HT := Lib.hid ht
  have HE := Lib.hid hg
  have HL := Lib.hid hlen
  clear hD hp ht hg hlen
  go_enter Tryz.func27, Tryz.ntmps27
  go_wp2_with fail
  refine HG.out.mono ?_
  rintro e w1 ⟨rfl, rfl⟩
  go_wp2_with fail
  refine (new_any2 w).mono ?_
  rintro e w1 ⟨N', A', c', Z', rfl, k1, hD1, hO, lN, lA, lZ, hAx, hZn⟩
  have hG0 : DevG w1 w.heap.size N' A' c' 0 Z' (fun _ => .slice none 0 0) (fun i => (cutZ zs 0 i).length) (cutZ zs 0) := by
    have e : cutZ zs 0 = fun _ => [] := by funext i; simp [cutZ]
    rw [e]
    exact ⟨hD1.1, hD1.2.1, hD1.2.2.1, hAx, hD1.2.2.2.1, hD1.2.2.2.2, fun _ _ => RowsAt.nil w1 _, fun _ _ _ _ _ _ e => by simp [Value.ownBlock] at e, hZn⟩
  have m2' : w.cell? ⟨N, 2, none⟩ = some (.slice (some ⟨A, 0, none⟩) 8 c) := cell_is HD.out.hdr 2 rfl
  have m2 := k1.cell m2' (by simp)
  have HI := Lib.hid (And.intro lN (And.intro lA lZ))
  have hcap : (8 : Int) ≤ c := by have := HD.out.cap; omega
  clear hD1 hO hAx hZn lN lA lZ n0 n1 HG
  go_wp2_with fail
  go_loopw [33] (fun i wr => ∃ j : Nat, ∃ vs', i = .int .i64 j ∧ j ≤ 8 ∧ Chg [] w wr ∧ DevG wr w.heap.size N' A' c' 0 Z' vs' (fun i => (cutZ zs j i).length) (cutZ zs j)) (fun i _ => 8 - (intOf i).toNat)
  case atStart => exact ⟨0, _, rfl, by omega, k1, hG0⟩
  case round =>
    obtain ⟨j, vs', rfl, hj, kr, hG⟩ := hrel
    by_cases hlt : j < 8
    · have hDr := HD.out.keep kr (Av.nil _ _)
      have hjz : j < Z.length := by have := hDr.len; omega
      have hjz' : j < Z'.length := by have := hG.len; omega
      have a0 := hDr.ptr j hjz
      have k0 := hDr.zone j hjz
      have hrows := hDr.rows j hlt
      obtain ⟨pa, cc, hv, hcc⟩ : ∃ pa cc, vs j = .slice pa (zs j).length cc ∧ (zs j).length ≤ cc := by
        obtain ⟨xs, ho, -⟩ := hDr.rows j hlt
        exact own_form ho
      rw [hv] at k0 hrows
      have b0 : wr.cell? ⟨Z[j], 0, none⟩ = some (.slice pa (zs j).length cc) := cell_is k0 0 rfl
      have b1 : wr.cell? ⟨Z[j], 1, none⟩ = some (.int .i64 (zs j).length) := by
        have := cell_is k0 1 (v := .int .i64 (gs j : Nat)) rfl
        rwa [HE.out j hlt] at this
      have HO := Lib.hid (fun wx (kx : Chg [] wr wx) => zown_ok wx (hrows.keep kx (Av.nil _ _) (fun _ _ => by simp)) rfl (by have := HL.out j hlt; omega))
      have h96 : (zs j).length ≤ 96 := HL.out j hlt
      have hji : (j : Int) < 8 := by omega
      have HGr := Lib.hid (And.intro kr hG)
      have kd : Chg [] wr wr.drew := (Chg.refl [] wr).drew
      have b0d : wr.drew.cell? ⟨Z[j], 0, none⟩ = some (.slice pa (zs j).length cc) := b0
      have b1d : wr.drew.cell? ⟨Z[j], 1, none⟩ = some (.int .i64 (zs j).length) := b1
      have krd := kr.then kd
      have m2r := kr.cell m2' (by simp)
      clear hDr hrows k0 hv kr hG
      generalize hZZ : Z[j] = z at *
      go_upto_region 7 with fail
      go_region_law (fail)
      all_goals
        have HKd := Lib.hid (And.intro kd krd)
        clear kd krd
        go_wp2_with fail
        refine (HP.out _ HKd.out.2 j hlt).mono ?_
        rintro e w2 ⟨x, b, rfl, rfl⟩
        cases b
        all_goals
          go_wp2_with (first | (go_at_call 58; refine (rest_one _ x).mono ?_; rintro e w2 ⟨rfl, rfl⟩))
          refine (HO.out _ HKd.out.1).mono ?_
          rintro e w3 ⟨v3, rfl, k3, r3⟩
          obtain ⟨xs3, ho3, -⟩ := id r3
          obtain ⟨p3, c3, rfl, -⟩ := own_form ho3
          have kk3 := HKd.out.1.then k3
          have hG3 := HGr.out.2.keep kk3 (Av.nil _ _)
          obtain ⟨pz, cz, hvz⟩ := (hG3.rows j hlt).len
          have hz3 := hG3.zone j hjz'
          rw [hvz] at hz3
          have n2 : w3.cell? ⟨N', 2, none⟩ = some (.slice (some ⟨A', 0, none⟩) 8 c') := cell_is hG3.hdr 2 rfl
          have na := hG3.ptr j hjz'
          have hc8 := hG3.cap
          have z0 := cell_is hz3 0 rfl
          have z1 := cell_is hz3 1 rfl
          have f0 := unfrozen hz3 0
          have f1 := unfrozen hz3 1
          have hlay := hG3.lay hjz' (v' := .slice p3 (zs j).length c3) (l' := zs j) (r3.at_.base HGr.out.1.size) (fun g hg i hi hij e => by
            obtain ⟨h1, -⟩ := own_elem ho3 hg
            obtain ⟨cs, h2⟩ := (HGr.out.2.rows i hi).block g e
            have h3 := heap_lt h2
            have h4 := HKd.out.1.size
            omega)
          rw [cutG_succ, cutZ_succ] at hlay
          have hfin := ((HGr.out.1.then kk3).new_set (HI.out.2.2 _ (List.getElem_mem hjz')) 0 (.slice p3 (zs j).length c3)).new_set (HI.out.2.2 _ (List.getElem_mem hjz')) 1 (.int .i64 (zs j).length)
          have HF := Lib.hid (And.intro hfin hlay)
          have HTk := Lib.hid (HT.out _ (HGr.out.1.then kk3) j hlt)
          clear hlay hfin hz3 hG3 hvz k3 r3 ho3 kk3
          generalize hZ2 : Z'[j] = z2 at *
          go_wp2_with fail
          refine HTk.out.mono ?_
          rintro e w4 ⟨x2, b2, rfl, rfl⟩
          cases b2
          all_goals
            go_wp2_with fail
            go_roundw
            case rel => exact ⟨j + 1, _, by go_num, by omega, HF.out.1, HF.out.2⟩
            case measure => simp [intOf]; omega
    · obtain rfl : j = 8 := by omega
      go_wp2_with fail
      go_ret
      exact ⟨N', A', c', Z', vs', rfl, kr, hG, HI.out.1, HI.out.2.1, HI.out.2.2⟩
end Go.Proofs.YtliicpedddcfiaaGreat
namespace Go.Proofs.YtliicpedddcfiaaGreat
open Go.RowKit Go.Lib

set_option maxRecDepth 100000 in
set_option maxHeartbeats 4000000 in
theorem zown2 (w : World) {lo c n : Nat} {pa : Option Addr} {l : List (List UInt8)} (h : RowsAt w lo (.slice pa n c) l) (hn : l.length = n) (hn1 : n ≤ 1000) : Calls Tryz.prog 59 #[.slice pa n c] w fun e w' => ∃ v, e = .returned v ∧ Chg [] w w' ∧ RowsC w' w.heap.size v l ∧ (l = [] → v = .slice none 0 0) := by
  have HP := Lib.hid h
  clear h
  go_enter Tryz.func59, Tryz.ntmps59
  go_wp2_with fail
  go_loopw [2, 4, 7] (fun v _ i wr => ∃ j : Nat, j ≤ n ∧ i = .int .i64 j ∧ Chg [] w wr ∧ RowsC wr w.heap.size v (l.take j) ∧ (j = 0 → v = .slice none 0 0)) (fun _ _ i _ => n - (intOf i).toNat)
  case atStart => exact ⟨0, by omega, rfl, Chg.refl _ _, by simpa using RowsC.nil _ _, fun _ => rfl⟩
  case round =>
    obtain ⟨j, hj, rfl, kr, hrx, hz0⟩ := hrel
    by_cases hlt : j < n
    · have hjl : j < l.length := by omega
      obtain ⟨ga, ca, gd, cd, hv, hca, r0, hb, h64, -, -⟩ := (HP.out.keep kr (Av.nil _ _) (fun _ _ => by simp)).at2 j hjl
      have hpa : pa = some ⟨ga, 0, none⟩ ∧ n ≤ c := by
        injection hv with e1 e2 e3
        exact ⟨e1, by omega⟩
      obtain ⟨rfl, hnc⟩ := hpa
      have HC := Lib.hid (clone_btc wr (D := gd) (o := 0) (c := cd) (m := 64) h64 (by decide) (by decide) hb)
      have HX := Lib.hid (And.intro kr hrx)
      have H64 := Lib.hid h64
      have hji : (j : Int) < n := by omega
      clear kr hrx hb h64 hv hz0
      go_wp2_with fail
      refine HC.out.mono ?_
      rintro e w2 ⟨g, c', rfl, k2, b2, hg2, t2, c64⟩
      obtain ⟨kr, hrx⟩ := HX.out
      obtain ⟨xs, ho, hxs⟩ := hrx.keep0 k2
      have hjt : (l.take j).length = j := by simp; omega
      rw [hjt] at ho
      obtain ⟨pv, cv, rfl, -⟩ := own_form ho
      have ka : Chg [] w2 (w2.alloc (.cells #[.slice (some ⟨g, 0, none⟩) 64 c'] 34)) := Chg.alloc w2 _
      have ya := heap_new w2 (.cells #[.slice (some ⟨g, 0, none⟩) 64 c'] 34)
      have oa := own_keep ho ka.below0
      have hk2 := k2.size
      have hkr := kr.size
      have hba : w.heap.size ≤ (w2.alloc (.cells #[.slice (some ⟨g, 0, none⟩) 64 c'] 34)).heap.size := by have := ka.size; omega
      have H2 := Lib.hid (And.intro (kr.then k2) (And.intro b2 (And.intro t2 (And.intro c64 (And.intro hxs ho)))))
      clear kr hrx k2 b2 t2 c64 hxs ho HX HC
      go_wp2_with (first | (at_builtin; refine wpList_append_bk rfl (.tmp 11) (.tmp 14) rfl w.heap.size (.slice pv j cv) j xs rfl oa w2.heap.size 1 _ rfl (cell_is ya 0 rfl) rfl (by omega) hba ?_; intro g5 c5 w5 o5 k5 i5))
      obtain ⟨k2, b2, t2, c64, hxs, ho⟩ := H2.out
      have hfin : Chg [] w w5 ∧ RowsC w5 w.heap.size (.slice (some ⟨g5, 0, none⟩) (j + 1) c5) (l.take (j + 1)) := by
        refine ⟨(k2.then ka).trans k5 (fun x hx hl => ?_), ?_⟩
        · obtain ⟨hge, -⟩ := own_elem oa (show (Value.slice pv j cv).ownBlock = some x by simpa using hx)
          omega
        · rw [List.take_succ_eq_append_getElem hjl]
          have hp := RowsC.push (w := w2.alloc (.cells #[.slice (some ⟨g, 0, none⟩) 64 c'] 34)) (w' := w5) (base := w.heap.size) (g := g5) (gb := g) (cb := c') (cap := c5) (v := .slice pv j cv) (l := l.take j) (b := l[j]) (xs := xs)
            (fun i hi => by obtain ⟨g', c'', e1, e2, e3, e4, e5⟩ := hxs i hi; exact ⟨g', c'', e1, e2, e3.chg ka, e4, e5.keep ka (by simp)⟩)
            (by rw [hjt]; have := ho.1; omega) (fun g' hg' => (own_elem oa hg').2) (by rw [hjt]; exact o5) k5 (b2.chg ka) H64.out (t2.keep ka (by simp)) c64
          rw [hjt] at hp
          exact hp
      have HF := Lib.hid hfin
      clear hfin k2 b2 t2 c64 hxs ho ka ya oa o5 k5 i5
      go_wp2_with fail
      go_roundw
      case rel => exact ⟨j + 1, hlt, by go_num, HF.out.1, HF.out.2, fun e => absurd e (Nat.succ_ne_zero j)⟩
      case measure => simp [intOf]; omega
    · obtain rfl : j = n := by omega
      rw [List.take_of_length_le (by omega)] at hrx
      go_wp2_with fail
      go_ret
      exact ⟨_, rfl, kr, hrx, fun e => hz0 (by subst e; simpa using hn.symm)⟩
/-- what a crash hands back. -/
def CrashE (w : World) (zs : Nat → List (List UInt8)) (e : Ending) (w' : World) : Prop :=
  ∃ N A c Z vs, e = .returned (.pointer (some ⟨N, 0, none⟩)) ∧ Chg [] w w' ∧ DevG w' w.heap.size N A c 0 Z vs (fun i => (cutZ zs 8 i).length) (cutZ zs 8) ∧ w.heap.size ≤ N ∧ w.heap.size ≤ A ∧ (∀ z ∈ Z, w.heap.size ≤ z) ∧ ∀ i, zs i = [] → vs i = .slice none 0 0
set_option maxRecDepth 100000 in
set_option maxHeartbeats 8000000 in
theorem crash2 (w : World) {base N A c : Nat} {ops rds : Int} {Z : List Nat} {vs : Nat → Value} {gs : Nat → Nat} {zs : Nat → List (List UInt8)} (hD : DevK w base N A c ops rds Z vs gs zs) (hg : ∀ j, j < 8 → gs j = (zs j).length) (hlen : ∀ j, j < 8 → (zs j).length ≤ 96) {pv tv : Value} (hp : PickOk pv w) (ht : PickOk tv w) :
    Calls Tryz.prog 27 #[.pointer (some ⟨N, 0, none⟩), pv, tv] w (CrashE w zs) := by
  have HG := Lib.hid (kgone w hD)
  have n0 : w.cell? ⟨N, 0, none⟩ = some (.int .i64 8) := cell_is hD.hdr 0 rfl
  have n1 : w.cell? ⟨N, 1, none⟩ = some (.int .i64 96) := cell_is hD.hdr 1 rfl
  have HD := Lib.hid hD
  have HP := Lib.hid hp
  have HT := Lib.hid ht
  have HE := Lib.hid hg
  have HL := Lib.hid hlen
  clear hD hp ht hg hlen
  go_enter Tryz.func27, Tryz.ntmps27
  go_wp2_with fail
  refine HG.out.mono ?_
  rintro e w1 ⟨rfl, rfl⟩
  go_wp2_with fail
  refine (new_any2 w).mono ?_
  rintro e w1 ⟨N', A', c', Z', rfl, k1, hD1, hO, lN, lA, lZ, hAx, hZn⟩
  have hG0 : DevG w1 w.heap.size N' A' c' 0 Z' (fun _ => .slice none 0 0) (fun i => (cutZ zs 0 i).length) (cutZ zs 0) := by
    have e : cutZ zs 0 = fun _ => [] := by funext i; simp [cutZ]
    rw [e]
    exact ⟨hD1.1, hD1.2.1, hD1.2.2.1, hAx, hD1.2.2.2.1, hD1.2.2.2.2, fun _ _ => RowsAt.nil w1 _, fun _ _ _ _ _ _ e => by simp [Value.ownBlock] at e, hZn⟩
  have m2' : w.cell? ⟨N, 2, none⟩ = some (.slice (some ⟨A, 0, none⟩) 8 c) := cell_is HD.out.hdr 2 rfl
  have m2 := k1.cell m2' (by simp)
  have HI := Lib.hid (And.intro lN (And.intro lA lZ))
  have hcap : (8 : Int) ≤ c := by have := HD.out.cap; omega
  clear hD1 hO hAx hZn lN lA lZ n0 n1 HG
  go_wp2_with fail
  go_loopw [33] (fun i wr => ∃ j : Nat, ∃ vs', i = .int .i64 j ∧ j ≤ 8 ∧ Chg [] w wr ∧ DevG wr w.heap.size N' A' c' 0 Z' vs' (fun i => (cutZ zs j i).length) (cutZ zs j) ∧ ∀ i, zs i = [] → vs' i = .slice none 0 0) (fun i _ => 8 - (intOf i).toNat)
  case atStart => exact ⟨0, _, rfl, by omega, k1, hG0, fun _ _ => rfl⟩
  case round =>
    obtain ⟨j, vs', rfl, hj, kr, hG, hem⟩ := hrel
    have HM := Lib.hid hem
    clear hem
    by_cases hlt : j < 8
    · have hDr := HD.out.keep kr (Av.nil _ _)
      have hjz : j < Z.length := by have := hDr.len; omega
      have hjz' : j < Z'.length := by have := hG.len; omega
      have a0 := hDr.ptr j hjz
      have k0 := hDr.zone j hjz
      have hrows := hDr.rows j hlt
      obtain ⟨pa, cc, hv, hcc⟩ : ∃ pa cc, vs j = .slice pa (zs j).length cc ∧ (zs j).length ≤ cc := by
        obtain ⟨xs, ho, -⟩ := hDr.rows j hlt
        exact own_form ho
      rw [hv] at k0 hrows
      have b0 : wr.cell? ⟨Z[j], 0, none⟩ = some (.slice pa (zs j).length cc) := cell_is k0 0 rfl
      have b1 : wr.cell? ⟨Z[j], 1, none⟩ = some (.int .i64 (zs j).length) := by
        have := cell_is k0 1 (v := .int .i64 (gs j : Nat)) rfl
        rwa [HE.out j hlt] at this
      have HO := Lib.hid (fun wx (kx : Chg [] wr wx) => zown2 wx (hrows.keep kx (Av.nil _ _) (fun _ _ => by simp)) rfl (by have := HL.out j hlt; omega))
      have h96 : (zs j).length ≤ 96 := HL.out j hlt
      have hji : (j : Int) < 8 := by omega
      have HGr := Lib.hid (And.intro kr hG)
      have kd : Chg [] wr wr.drew := (Chg.refl [] wr).drew
      have b0d : wr.drew.cell? ⟨Z[j], 0, none⟩ = some (.slice pa (zs j).length cc) := b0
      have b1d : wr.drew.cell? ⟨Z[j], 1, none⟩ = some (.int .i64 (zs j).length) := b1
      have krd := kr.then kd
      have m2r := kr.cell m2' (by simp)
      clear hDr hrows k0 hv kr hG
      generalize hZZ : Z[j] = z at *
      go_upto_region 7 with fail
      go_region_law (fail)
      all_goals
        have HKd := Lib.hid (And.intro kd krd)
        clear kd krd
        go_wp2_with fail
        refine (HP.out _ HKd.out.2 j hlt).mono ?_
        rintro e w2 ⟨x, b, rfl, rfl⟩
        cases b
        all_goals
          go_wp2_with (first | (go_at_call 58; refine (rest_one _ x).mono ?_; rintro e w2 ⟨rfl, rfl⟩))
          refine (HO.out _ HKd.out.1).mono ?_
          rintro e w3 ⟨v3, rfl, k3, r3, r3n⟩
          obtain ⟨xs3, ho3, -⟩ := id r3
          obtain ⟨p3, c3, rfl, -⟩ := own_form ho3
          have kk3 := HKd.out.1.then k3
          have hG3 := HGr.out.2.keep kk3 (Av.nil _ _)
          obtain ⟨pz, cz, hvz⟩ := (hG3.rows j hlt).len
          have hz3 := hG3.zone j hjz'
          rw [hvz] at hz3
          have n2 : w3.cell? ⟨N', 2, none⟩ = some (.slice (some ⟨A', 0, none⟩) 8 c') := cell_is hG3.hdr 2 rfl
          have na := hG3.ptr j hjz'
          have hc8 := hG3.cap
          have z0 := cell_is hz3 0 rfl
          have z1 := cell_is hz3 1 rfl
          have f0 := unfrozen hz3 0
          have f1 := unfrozen hz3 1
          have hlay := hG3.lay hjz' (v' := .slice p3 (zs j).length c3) (l' := zs j) (r3.at_.base HGr.out.1.size) (fun g hg i hi hij e => by
            obtain ⟨h1, -⟩ := own_elem ho3 hg
            obtain ⟨cs, h2⟩ := (HGr.out.2.rows i hi).block g e
            have h3 := heap_lt h2
            have h4 := HKd.out.1.size
            omega)
          rw [cutG_succ, cutZ_succ] at hlay
          have hfin := ((HGr.out.1.then kk3).new_set (HI.out.2.2 _ (List.getElem_mem hjz')) 0 (.slice p3 (zs j).length c3)).new_set (HI.out.2.2 _ (List.getElem_mem hjz')) 1 (.int .i64 (zs j).length)
          have hnn : ∀ i, zs i = [] → upF vs' j (.slice p3 (zs j).length c3) i = .slice none 0 0 := fun i hi => by
            by_cases e : i = j
            · subst e
              rw [show upF vs' i (.slice p3 (zs i).length c3) i = .slice p3 (zs i).length c3 by simp [upF]]
              exact r3n hi
            · rw [show upF vs' j (.slice p3 (zs j).length c3) i = vs' i by simp [upF, e]]
              exact HM.out i hi
          have HF := Lib.hid (And.intro hfin (And.intro hlay hnn))
          have HTk := Lib.hid (HT.out _ (HGr.out.1.then kk3) j hlt)
          clear hlay hfin hnn r3n hz3 hG3 hvz k3 r3 ho3 kk3
          generalize hZ2 : Z'[j] = z2 at *
          go_wp2_with fail
          refine HTk.out.mono ?_
          rintro e w4 ⟨x2, b2, rfl, rfl⟩
          cases b2
          all_goals
            go_wp2_with fail
            go_roundw
            case rel => exact ⟨j + 1, _, by go_num, by omega, HF.out.1, HF.out.2.1, HF.out.2.2⟩
            case measure => simp [intOf]; omega
    · obtain rfl : j = 8 := by omega
      go_wp2_with fail
      go_ret
      exact ⟨N', A', c', Z', vs', rfl, kr, hG, HI.out.1, HI.out.2.1, HI.out.2.2, HM.out⟩
end Go.Proofs.YtliicpedddcfiaaGreat
namespace Go.Proofs.YtliicpedddcfiaaGreat
open Go.RowKit Go.Lib

/-- a device that lies at b or behind it, and on which nothing stands. -/
def Dv0 (w : World) (b N : Nat) : Prop :=
  ∃ A c Z, DevAt w N A c 0 Z ∧ DevOk N A Z ∧ b ≤ N ∧ b ≤ A ∧ (∀ z ∈ Z, b ≤ z) ∧ (∃ cs, w.heap[A]? = some (.cells cs 94 (0, 0))) ∧ Z.Nodup
theorem crash0 (w : World) {lw : Nat} {d : Ids} {s : Gs} {ops : Int} (h : Sto w lw d s (g00 lw ops)) : Calls Tryz.prog 27 #[.pointer (some ⟨d.N, 0, none⟩), .slice none 0 0, .slice none 0 0] w fun e w' =>
    ∃ N', e = .returned (.pointer (some ⟨N', 0, none⟩)) ∧ Chg [] w w' ∧ Dv0 w' w.heap.size N' := by
  refine (crash2 w h.dev.k (fun j _ => rfl) (fun j _ => (by decide : ([] : List (List UInt8)).length ≤ 96)) (pick_nil w) (pick_nil w)).mono ?_
  rintro e w' ⟨N', A', c', Z', vs', rfl, k1, hD, lN, lA, lZ, hem⟩
  have hz : ∀ i, (g00 lw ops).zs i = [] := fun i => rfl
  have hc0 : ∀ i, cutZ (g00 lw ops).zs 8 i = [] := fun i => by unfold cutZ; split; exact hz i; rfl
  have hv : ∀ i, vs' i = .slice none 0 0 := fun i => hem i (hz i)
  obtain ⟨cA, hA⟩ := hD.tA
  refine ⟨N', rfl, k1, A', c', Z', ⟨hD.hdr, hD.cap, hD.len, hD.ptr, fun j hj => ?_⟩, ⟨?_, ?_, ?_⟩, lN, lA, lZ, hD.tA, hD.nodup⟩
  · have hz1 : w'.heap[Z'[j]]? = some (.cells #[vs' j, .int .i64 ((cutZ (g00 lw ops).zs 8 j).length : Nat)] 97 (0, 0)) := hD.zone j hj
    rw [hv, hc0] at hz1
    exact hz1
  · exact heap_ne hA hD.hdr (by simp)
  · intro hm
    obtain ⟨j, hj, e⟩ := List.getElem_of_mem hm
    exact heap_ne (hD.zone j hj) hD.hdr (by simp) e
  · intro hm
    obtain ⟨j, hj, e⟩ := List.getElem_of_mem hm
    exact heap_ne (hD.zone j hj) hA (by simp) e
/-- what a mount of such a device leaves. -/
def Mt0 (w0 : World) (b N : Nat) (e : Ending) (w' : World) : Prop :=
  ∃ d ops, e = .returned (.tuple #[.pointer (some ⟨d.P, 0, none⟩), .int .i64 0]) ∧ d.N = N ∧ Sto w' b d (s00 b) (g00 b ops) ∧ (0 ≤ ops ∧ ops ≤ 2) ∧ Chg [] w0 w'
set_option maxHeartbeats 1000000 in
theorem mount0 (w : World) {w0 : World} {b N : Nat} (h : Dv0 w b N) (k0 : Chg [] w0 w) (hb : w0.heap.size ≤ b) (hb2 : b ≤ w.heap.size) : Calls Tryz.prog 18 #[.pointer (some ⟨N, 0, none⟩)] w (Mt0 w0 b N) := by
  obtain ⟨A, c, Z, hD, hO, lN, lA, lZ, hAx, hZn⟩ := h
  have hAl := hD.A_lt
  have hNl := heap_lt hD.1
  have hZl : ∀ z ∈ Z, z < w.heap.size := fun z hz => by
    obtain ⟨j, hj, e⟩ := List.getElem_of_mem hz
    rw [← e]
    exact heap_lt (hD.2.2.2.2 j hj)
  refine (mount_any w hD hO hZl (by omega) (by omega)).mono ?_
  rintro e w2 ⟨P, S, M, X, rx, B, rb, r, rfl, hM, lP, lS, lM, lX, lrx, lB, lrb, lr, n1, n2, n3⟩
  have k2 := hM.1
  have hX2 : ExAt w2 S N A Z := by
    obtain ⟨cs, hAx⟩ := hAx
    exact ⟨hM.2.2.2.1, ⟨cs, k2.heap hAx (by intro hm; rcases List.mem_cons.1 hm with e | hm; exact hO.1 e; exact hO.2.2 hm)⟩, hZn⟩
  have hs0 := k0.size
  have hs2 := k2.size
  have hSt := hM.sto (lw := b) hX2 n1 n2 n3 (by omega) (fun z hz => lZ z hz) (by omega)
  refine ⟨d00 N A c Z P S M X rx B rb r, _, rfl, rfl, hSt, by omega, k0.trans k2 (fun x hx hlt => ?_)⟩
  rcases List.mem_cons.1 hx with e | hx
  · omega
  · have := lZ x hx; omega
end Go.Proofs.YtliicpedddcfiaaGreat
