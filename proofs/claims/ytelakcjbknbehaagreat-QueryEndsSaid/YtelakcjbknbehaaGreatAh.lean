/- Lemmas and walks: Walks: reads of one block, and which blocks they change exactly. Walks: a block is put behind a zone's blocks; a device is flushed. Walks: a buffer's set; a transaction is checked against nothing. Walks: a transaction is checked against no versions and no queue. Walks: may a transaction be committed? Where nothing was written and nothing waits: yes. Walks: Commit of a store; the transaction that waits. Walks: the next batch, of one transaction. Walks: a batch of one transaction may be. Walks: a batch of one transaction is checked. Walks: a batch of one transaction is turned into frames. Walks: cells are got and set in an open transaction, whatever was committed before. -/
import Derived.Laws.IdiomRangeMap
import Derived.StillTailTactics
import Derived.BigQuiet
import Derived.Test.YtelakcjbknbehaaGreatAe
import Derived.Test.YtelakcjbknbehaaGreatAf
import Derived.Test.YtelakcjbknbehaaGreatAg
namespace Go.Proofs.YtelakcjbknbehaaGreat
open Go.RowKit Go.Lib

/-- what a read changes: the view Q, its set V, and the row of reads; the new row lies in the old one's block or in a new one. -/
def RdX (w w' : World) (Q V : Nat) (T : List Nat) : Prop := ∃ s s', w.cell? ⟨Q, 4, none⟩ = some s ∧ w'.cell? ⟨Q, 4, none⟩ = some s' ∧ (∀ x ∈ T, x = V ∨ x = Q ∨ s.ownBlock = some x) ∧ ∀ g, s'.ownBlock = some g → s.ownBlock = some g ∨ w.heap.size ≤ g
/-- .. of a transaction of ids d. -/
def RdW (base : Nat) (d : Ids) (w w' : World) : Prop := ∃ T, Chg T w w' ∧ (∀ x ∈ T, base ≤ x ∧ ∀ cs t fr, w.heap[x]? = some (.cells cs t fr) → t = 274 ∨ t = 305 ∨ t = 255) ∧ RdX w w' d.Q d.V T
theorem RdW.ow {base : Nat} {d : Ids} {w w' : World} (h : RdW base d w w') : Ow base w w' := by obtain ⟨T, h1, h2, -⟩ := h; exact ⟨T, h1, h2⟩
theorem RdW.ahead {base : Nat} {d : Ids} {w w1 w' : World} (h : RdW base d w1 w') (k : Chg [] w w1) (hq : d.Q < w.heap.size) : RdW base d w w' := by
  obtain ⟨T, h1, h2, s, s', e1, e2, e3, e4⟩ := h
  refine ⟨T, (k.mono (fun x hx _ => by cases hx)).then h1, fun x hx => ⟨(h2 x hx).1, fun cs t fr hh => (h2 x hx).2 cs t fr (k.heap hh (by simp))⟩, s, s', ?_, e2, e3, fun g hg => ?_⟩
  · have hb := k.block d.Q hq (by simp)
    rw [← e1]
    unfold World.cell?
    rw [hb]
  · rcases e4 g hg with h | h
    · exact Or.inl h
    · exact Or.inr (Nat.le_trans k.size h)
theorem RdW.mk {base n : Nat} {d : Ids} {w w1 w1d w6 : World} {t : Int} {T : List Nat} (k0 : Chg [] w w1d) (k6 : Chg T w1d w6) (hT : Rt w1d base T) (hX : RdX w1d w6 d.Q d.V T) (_ : VwT w1 base d.Q d.X d.W d.V t n) (_ : Chg [] w1 w1d) (hq : d.Q < w.heap.size) : RdW base d w w6 := by
  refine RdW.ahead ⟨T, k6, fun x hx => ⟨(hT x hx).1, fun cs t fr hh => ?_⟩, hX⟩ k0 hq
  obtain ⟨_, cs', t', fr', h1, h2⟩ := hT x hx
  rw [hh] at h1
  cases h1
  exact h2
/-- one read is put behind reads of an own row, as a step of a region that draws. -/
theorem step_append_rx {ops : Array Oper} {o : Oper} {a : Act} {w : World} {K : Act → World → Prop} {Q : Exit → Act → World → Prop} {E : Prop} (hgd : o.guard = none) (s x : Operand)
    (ho : o.op = .call { callee := .builtin .append, args := #[s, x], argTypes := #[178, 178] }) (base : Nat) (v : Value) (n : Nat) (xs : List Value) (hs : a.eval s = v) (hown : w.ownsRow base 255 3 v n xs) (b c : Nat) (u0 u1 u2 : Value)
    (hx : a.eval x = .slice (some ⟨b, 0, none⟩) 1 c) (c0 : w.cell? ⟨b, 0, none⟩ = some u0) (c1 : w.cell? ⟨b, 1, none⟩ = some u1) (c2 : w.cell? ⟨b, 2, none⟩ = some u2) (h1 : u0.oneCell' = true ∧ u1.oneCell' = true ∧ u2.oneCell' = true) (hn : n ≤ 1000000) (hbase : base ≤ w.heap.size)
    (h : ∀ g cap w', w'.ownsRow base 255 3 (.slice (some ⟨g, 0, none⟩) (n + 1) cap) (n + 1) (xs ++ [u0, u1, u2]) → Chg v.ownBlock.toList w w' → (v.ownBlock = some g ∨ g = w.heap.size) → K (a.put o.dst (.slice (some ⟨g, 0, none⟩) (n + 1) cap)) w') :
    if Region.wanted o (yielded ops a.tmps) = true then Oper.wp Tryz.prog o a w K Q else E := by
  obtain ⟨i, hi0, hz, hz1, hz2⟩ := info_parts inf285
  refine step_append_lies w hgd s x 178 ho base 255 i _ 3 40 ty68 hi0 hz hz1 hz2 rfl (by decide) v n xs hs hown ⟨b, 0, none⟩ 1 c [u0, u1, u2] hx rfl ?_ ?_ (by decide) (by unfold maxLen; omega) (by omega) hbase _ rfl ?_
  · intro j u hu
    rw [add_lit, Nat.zero_add]
    match j with
    | 0 => cases hu; exact c0
    | 1 => cases hu; exact c1
    | 2 => cases hu; exact c2
    | j + 3 => simp at hu
  · intro u hu
    simp at hu
    rcases hu with rfl | rfl | rfl
    · exact h1.1
    · exact h1.2.1
    · exact h1.2.2
  · intro g cap w' h2 h3 h4 _
    refine h g cap w' h2 ?_ h4
    cases hv : v.ownBlock with
    | none => rw [hv] at h3; exact Chg.of_grown0 h3
    | some k => rw [hv] at h3; exact Chg.of_grown h3
/-- what stands behind a Read's last store. -/
theorem gread_endx {w wb wc w5 : World} {base Q X W V n m g g5 cp5 : Nat} {t : Int} {s : Value} {xs : List Value} {ys : List Value} {l : List UInt8} {Cb : Array Value} (HRt : Rt w base (V :: Q :: s.ownBlock.toList)) (k9 : Chg [V] w wb) (ky : Chg [] wb wc) (hm : m ≤ 17 * n + 100000) (hB : Bs wb (some ⟨g, 0, none⟩) l)
    (gy : wc.heap[g]? = some (.cells Cb 5 (0, 0))) (hgn : g ∉ s.ownBlock.toList) (hgQ : Q ∉ [g]) (oy : wc.ownsRow base 255 3 s m xs) (qy : ViewT wc Q X W V t s) (hQn : Q ∉ s.ownBlock.toList) (sb : SpV wc base V (n + 1))
    (o5 : w5.ownsRow base 255 3 (.slice (some ⟨g5, 0, none⟩) (m + 1) cp5) (m + 1) ys) (k5 : Chg s.ownBlock.toList wc w5) (l5 : s.ownBlock = some g5 ∨ g5 = wc.heap.size) (s0 : w.cell? ⟨Q, 4, none⟩ = some s) :
    ∃ T, Chg T w (w5.setCell ⟨Q, 4, none⟩ (.slice (some ⟨g5, 0, none⟩) (m + 1) cp5)) ∧ Rt w base T ∧ RdX w (w5.setCell ⟨Q, 4, none⟩ (.slice (some ⟨g5, 0, none⟩) (m + 1) cp5)) Q V T ∧ Bs (w5.setCell ⟨Q, 4, none⟩ (.slice (some ⟨g5, 0, none⟩) (m + 1) cp5)) (some ⟨g, 0, none⟩) l ∧ VwT (w5.setCell ⟨Q, 4, none⟩ (.slice (some ⟨g5, 0, none⟩) (m + 1) cp5)) base Q X W V t (n + 1) ∧ SpV (w5.setCell ⟨Q, 4, none⟩ (.slice (some ⟨g5, 0, none⟩) (m + 1) cp5)) base V (n + 1) := by
  have q5 := k5.heap qy hQn
  have g5h := k5.heap gy hgn
  have kS := Chg.set w5 Q 4 (.slice (some ⟨g5, 0, none⟩) (m + 1) cp5)
  have hgQ' : g ∉ [Q] := by simpa using (fun e => hgQ (by simp [e]))
  have hav : Av wc s.ownBlock.toList [79, 305] := by
    intro x hx cs t fr hh
    rcases oy.2 with ⟨rfl, _⟩ | ⟨k, cap, cur, rfl, hb, hk, rest⟩
    · simp [Value.ownBlock] at hx
    · simp [Value.ownBlock] at hx
      subst hx
      rw [hk] at hh
      cases hh
      simp
  have hq1 : Av w5 [Q] [79, 305] := fun x hx cs t fr hh => by
    rw [List.mem_singleton] at hx; subst hx; rw [q5] at hh; cases hh; simp
  have hq2 : Av w5 [Q] [255] := fun x hx cs t fr hh => by
    rw [List.mem_singleton] at hx; subst hx; rw [q5] at hh; cases hh; simp
  refine ⟨V :: Q :: s.ownBlock.toList, ?_, HRt, ⟨s, _, s0, cell_is (heap_set q5 4 _ rfl) 4 rfl, fun x hx => by simpa using hx, fun x hx => ?_⟩, ((hB.chg ky).chgT k5 hgn).chgT kS hgQ', ⟨_, m + 1, ys, heap_set q5 4 _ rfl, by omega, ownsRow_av o5 kS hq2⟩, (sb.keep k5 hav).keep kS hq1⟩
  rotate_left
  · have e1 : g5 = x := by simpa [Value.ownBlock] using hx
    rcases l5 with h | h
    · exact Or.inl (by rw [h, e1])
    · have h1 := k9.size
      have h2 := ky.size
      exact Or.inr (by omega)
  refine (((k9.mono ?_).then (ky.mono ?_)).then (k5.mono ?_)).then (kS.mono ?_)
  · intro x hx _; simp at hx; simp [hx]
  · intro x hx _; cases hx
  · intro x hx _; simp only [List.mem_cons]; exact Or.inr (Or.inr hx)
  · intro x hx _; simp at hx; simp [hx]
set_option maxRecDepth 100000 in
set_option maxHeartbeats 20000000 in
theorem gread_x (w : World) {base Q X rx W rw V n lo : Nat} {last t : Int} {Lv : List (Int × Value)} {vs : Int → List (Int × List UInt8)} {L : List (Int × Value)} {b : Int} {l : List UInt8} (hX : VerG w lo X rx last Lv vs) (hW : BufAt w W rw L) (hB : BlkT w L (vs b) t b l) (hV : VwT w base Q X W V t n) (hS : SpV w base V n) (hn : n ≤ 60) (hbase : base ≤ Q ∧ base ≤ V) (h0 : 0 ≤ b) (h1 : b < 258) :
    Calls Tryz.prog 170 #[.pointer (some ⟨Q, 0, none⟩), .agg #[.int .i64 b, .int .i64 1]] w fun e w' =>
    ∃ g c' T, e = .returned (.tuple #[.slice (some ⟨g, 0, none⟩) 40 c', .int .i64 0]) ∧ 40 ≤ c' ∧ Chg T w w' ∧ Rt w base T ∧ RdX w w' Q V T ∧ w.heap.size ≤ g ∧ Bs w' (some ⟨g, 0, none⟩) l ∧ VwT w' base Q X W V t (n + 1) ∧ SpV w' base V (n + 1) := by
  have k0 : Chg [] w (w.alloc (.cells #[.int .i64 b, .int .i64 1] 79)) := Chg.alloc w _
  have K0 := heap_new w (.cells #[.int .i64 b, .int .i64 1] 79)
  have hX1 := hX.keep k0
  have hW1 := hW.keep k0 (by simp) (by simp)
  have hB1 := hB.keep k0
  obtain ⟨s, m, xs, qw, hm, how⟩ := hV
  have q := k0.heap qw (by simp)
  have ho := ownsRow_chg how k0
  have hS1 := hS.keep0 k0
  have HRt : Rt w base (V :: Q :: s.ownBlock.toList) := by
    intro x hx
    simp only [List.mem_cons] at hx
    rcases hx with rfl | rfl | hx
    · exact ⟨hbase.2, _, _, _, hS.choose_spec.choose_spec.1, by simp⟩
    · exact ⟨hbase.1, _, _, _, qw, by simp⟩
    · rcases how.2 with ⟨rfl, _⟩ | ⟨k, cap, cur, rfl, hb, hk, rest⟩
      · simp [Value.ownBlock] at hx
      · simp [Value.ownBlock] at hx
        subst hx
        exact ⟨hb, _, _, _, hk, by simp⟩
  have HS0 : Hid (w.cell? ⟨Q, 4, none⟩ = some s) := Lib.hid (cell_is qw 4 rfl)
  clear qw how
  have q0 : (w.alloc (.cells #[.int .i64 b, .int .i64 1] 79)).cell? ⟨Q, 0, none⟩ = some (.pointer (some ⟨X, 0, none⟩)) := cell_is q 0 rfl
  have q1 : (w.alloc (.cells #[.int .i64 b, .int .i64 1] 79)).cell? ⟨Q, 1, none⟩ = some (.pointer (some ⟨W, 0, none⟩)) := cell_is q 1 rfl
  have q2 : (w.alloc (.cells #[.int .i64 b, .int .i64 1] 79)).cell? ⟨Q, 2, none⟩ = some (.int .i64 t) := cell_is q 2 rfl
  have q3 : (w.alloc (.cells #[.int .i64 b, .int .i64 1] 79)).cell? ⟨Q, 3, none⟩ = some (.pointer (some ⟨V, 0, none⟩)) := cell_is q 3 rfl
  have a0 : (w.alloc (.cells #[.int .i64 b, .int .i64 1] 79)).cell? ⟨w.heap.size, 0, none⟩ = some (.int .i64 b) := cell_is K0 0 rfl
  have a1 : (w.alloc (.cells #[.int .i64 b, .int .i64 1] 79)).cell? ⟨w.heap.size, 1, none⟩ = some (.int .i64 1) := cell_is K0 1 rfl
  go_enter Tryz.func170, Tryz.ntmps170
  go_wp2_with fail
  go_step3
  go_wp2_with fail
  generalize w.alloc (.cells #[.int .i64 b, .int .i64 1] 79) = w1 at *
  generalize hK : w.heap.size = K at *
  go_region_held3 (fun wx => wx.cell? ⟨Q, 0, none⟩ = some (.pointer (some ⟨X, 0, none⟩)) ∧ wx.cell? ⟨Q, 2, none⟩ = some (.int .i64 t) ∧ wx.cell? ⟨K, 0, none⟩ = some (.int .i64 b) ∧ wx.cell? ⟨K, 1, none⟩ = some (.int .i64 1))
    (first | (exact ⟨q0, q2, a0, a1⟩) | (exact ⟨k2.cell q0 (by simp), k2.cell q2 (by simp), k2.cell a0 (by simp), k2.cell a1 (by simp)⟩))
    (first | (go_at_call 215; refine (grange_one w1.drew (t := t) (hX1.keep (Chg.refl [] w1).drew) h0 h1).mono ?_; rintro e w2 ⟨g, c', rfl, hc', k2, o2, hy40⟩))
  have HY := Lib.hid hy40
  clear hy40
  have kk2 := (Chg.refl [] w1).drew.then k2
  have q := kk2.heap q (by simp)
  have K0 := kk2.heap K0 (by simp)
  have ho := ownsRow_chg ho kk2
  have hW2 := hW1.keep kk2 (by simp) (by simp)
  have hB2 := hB1.keep kk2
  have hS2 := hS1.keep0 kk2
  have hK2 : K ≤ w2.heap.size := by have := k0.size; have := kk2.size; omega
  have ho2 : w2.ownsRow K 5 1 (.slice (some ⟨g, 0, none⟩) 40 c') 40 (Lib.byteCells (bytT (vs b) t)) := ownsRow_base o2 (by have := k0.size; show K ≤ w1.heap.size; omega)
  have kk := k0.then kk2
  clear q0 q1 q2 q3 a0 a1 hX1 hW1 hB1 hS1 o2 k0 k2 kk2
  have q3 : w2.cell? ⟨Q, 3, none⟩ = some (.pointer (some ⟨V, 0, none⟩)) := cell_is q 3 rfl
  have a0 : w2.cell? ⟨K, 0, none⟩ = some (.int .i64 b) := cell_is K0 0 rfl
  have a1 : w2.cell? ⟨K, 1, none⟩ = some (.int .i64 1) := cell_is K0 1 rfl
  go_wp2_with fail
  have kx : Chg [] w2 (w2.drew.alloc (.cells #[.int .i64 b, .int .i64 1] 79)) := (Chg.refl [] w2).drew.then_alloc _
  have kx0 := heap_new w2.drew (.cells #[.int .i64 b, .int .i64 1] 79)
  have hVK : V ≠ K := by obtain ⟨_, _, hh, _⟩ := hS2; exact heap_ne hh K0 (by simp)
  have hVQ : V ≠ Q := by obtain ⟨_, _, hh, _⟩ := hS2; exact heap_ne hh q (by simp)
  have hbw : base ≤ (w2.drew.alloc (.cells #[.int .i64 b, .int .i64 1] 79)).heap.size := by have := heap_lt q; have := kx.size; omega
  have kx2 : Chg [V] w2 (w2.drew.alloc (.cells #[.int .i64 b, .int .i64 1] 79)) := kx.mono (fun x hx _ => by cases hx)
  go_region_held3 (fun wx => wx.cell? ⟨Q, 3, none⟩ = some (.pointer (some ⟨V, 0, none⟩)) ∧ wx.cell? ⟨K, 0, none⟩ = some (.int .i64 b) ∧ wx.cell? ⟨K, 1, none⟩ = some (.int .i64 1))
    (first | (exact ⟨q3, a0, a1⟩) | (exact ⟨kx.cell q3 (by simp), kx.cell a0 (by simp), kx.cell a1 (by simp)⟩) | (exact ⟨(kx2.then k3).cell q3 (by simpa using hVQ.symm), (kx2.then k3).cell a0 (by simpa using hVK.symm), (kx2.then k3).cell a1 (by simpa using hVK.symm)⟩))
    (first | (go_at_call 216; refine (iadd_one (w2.drew.alloc (.cells #[.int .i64 b, .int .i64 1] 79)) (base := base) (V := V) (n := n) (E := w2.drew.heap.size) (hS2.keep0 kx) hn hbw h0 h1 (cell_is kx0 0 rfl) (cell_is kx0 1 rfl)).mono ?_; rintro e w3 ⟨rfl, k3, hS3⟩))
  have k4 := kx2.then k3
  have hR4 : Rt w2 base [V] := fun x hx => by
    rw [List.mem_singleton] at hx
    subst hx
    obtain ⟨_, _, hh, _⟩ := hS2
    exact ⟨hbase.2, _, _, _, hh, by simp⟩
  have q := k4.heap q (by simpa using hVQ.symm)
  have K0 := k4.heap K0 (by simpa using hVK.symm)
  have hW3 := hW2.keep k4 (hR4.cells hW2.1 (by simp)) (hR4.map hW2.2)
  have hB3 := hB2.keepT k4 hR4
  have hz : Bs w2 (some ⟨g, 0, none⟩) (bytT (vs b) t) ∧ Bt w2 g ∧ K ≤ g := by
    rcases ho2.2 with ⟨e, h0⟩ | ⟨g', cap, cur, e, hA, hgt, _⟩
    · cases h0
    · cases e; exact ⟨Bs.own ho2, ⟨_, hgt⟩, hA⟩
  have hgV : g ∉ [V] := hR4.cells hz.2.1.choose_spec (by simp)
  have kw3 : Chg [V] w w3 := (kk.mono (fun x hx _ => by cases hx)).then k4
  have hRw : Rt w base [V] := fun x hx => by
    rw [List.mem_singleton] at hx
    subst hx
    obtain ⟨_, _, hh, _⟩ := hS
    exact ⟨hbase.2, _, _, _, hh, by simp⟩
  have ho3 := ownsRow_chgV ho k4 hS2.choose_spec.choose_spec.1
  obtain ⟨cur, hg3, hcur⟩ : ∃ cur, w3.heap[g]? = some (.cells cur 5 (0, 0)) ∧ cur.size = c' * 1 ∧ cur.toList.take (40 * 1) = Lib.byteCells (bytT (vs b) t) := by
    rcases ho2.2 with ⟨e, h0⟩ | ⟨g', cap, cur, e, hA, hgt, _, _, hsz, htk⟩
    · cases h0
    · cases e; exact ⟨cur, k4.heap hgt hgV, hsz, htk⟩
  have HC := Lib.hid hcur
  clear hcur
  have hgK := hz.2.2
  clear q3 a0 a1 hW2 hB2 hS2 hz ho2 kx kx2 kx0 k3 k4 hR4 hgV hX hW hS kk hbw hB
  clear ho
  have a0 : w3.cell? ⟨K, 0, none⟩ = some (.int .i64 b) := cell_is K0 0 rfl
  have a1 : w3.cell? ⟨K, 1, none⟩ = some (.int .i64 1) := cell_is K0 1 rfl
  have q1 : w3.cell? ⟨Q, 1, none⟩ = some (.pointer (some ⟨W, 0, none⟩)) := cell_is q 1 rfl
  have q4 : w3.cell? ⟨Q, 4, none⟩ = some s := cell_is q 4 rfl
  go_wp2_with fail
  go_step3
  go_wp2_with fail
  have hb0 : IntKind.i64.wrap b = b := by rw [IntKind.wrap_i64]; omega
  go_loopw [55] (fun i wr => (i = .int .i64 0 ∧ wr = w3) ∨ (i = .int .i64 1 ∧ ∃ T, Chg T w wr ∧ Rt w base T ∧ RdX w wr Q V T ∧ Bs wr (some ⟨g, 0, none⟩) l ∧ VwT wr base Q X W V t (n + 1) ∧ SpV wr base V (n + 1))) (fun i _ => 1 - (intOf i).toNat)
  case atStart => exact Or.inl ⟨rfl, rfl⟩
  case round =>
    rcases hrel with ⟨rfl, rfl⟩ | ⟨rfl, T, kT, hT, hX9, hBs, hVw, hSp⟩
    · rcases hB3 with ⟨hg0, rfl⟩ | ⟨gb, cb, hg1, hbs, hl40, hbt⟩
      · go_wp2_with fail
        go_region_held3 (fun wx => wx.cell? ⟨Q, 1, none⟩ = some (.pointer (some ⟨W, 0, none⟩)) ∧ wx.cell? ⟨K, 0, none⟩ = some (.int .i64 b)) (first | (exact ⟨q1, a0⟩))
          (first | (go_at_call 217; refine (bget_none wr.drew (hW3.keep (Chg.refl [] wr).drew (by simp) (by simp)) hg0).mono ?_; rintro e wa ⟨rfl, rfl⟩))
        have k7 : Chg [] wr wr.drew := (Chg.refl [] wr).drew
        have hgb : wr.drew.heap[g]? = some (.cells cur 5 (0, 0)) := hg3
        have qb : ViewT wr.drew Q X W V t s := q
        have Kb : wr.drew.heap[K]? = some (.cells #[.int .i64 b, .int .i64 1] 79 (0, 0)) := K0
        have ob := ownsRow_chg ho3 k7
        have sb := hS3.keep0 k7
        have k9 : Chg [V] w wr.drew := kw3.drew
        have hBb : Bs wr.drew (some ⟨g, 0, none⟩) (bytT (vs b) t) := Bs.block hgb (by have := HC.out.2; rw [HY.out]; simpa using this)
        have hKQ : K ≠ Q := heap_ne Kb qb (by simp)
        have hgQ : Q ∉ [g] := by simpa using heap_ne qb hgb (by simp)
        clear hg3 q K0 ho3 hS3 kw3 k7 hW3 q1 a0 a1 q4
        generalize wr.drew = wb at *
        have a0 : wb.cell? ⟨K, 0, none⟩ = some (.int .i64 b) := cell_is Kb 0 rfl
        have q4 : wb.cell? ⟨Q, 4, none⟩ = some s := cell_is qb 4 rfl
        have a0d : wb.drew.cell? ⟨K, 0, none⟩ = some (.int .i64 b) := a0
        have q4d : wb.drew.cell? ⟨Q, 4, none⟩ = some s := q4
        have HBb := Lib.hid hBb
        go_wp2_with fail
        go_region_law
          (first
            | (go_simp; go_at_call 126; refine (clone_bs wb.drew (l := bytT (vs b) t) (m := 40) HY.out (by decide) (by decide) (HBb.out.chg (Chg.refl [] wb).drew)).mono ?_; rintro e w6 ⟨g2, c2, rfl, k6, _, _⟩; have a06 := k6.cell a0d (by simp); have q46 := k6.cell q4d (by simp); have ky : Chg [] wb (w6.alloc (.cells #[.int .i64 b, .slice (some ⟨g2, 0, none⟩) 40 c2, .bool false] 255)) := ((Chg.refl [] wb).drew.then k6).then_alloc _; have y0 := heap_new w6 (.cells #[.int .i64 b, .slice (some ⟨g2, 0, none⟩) 40 c2, .bool false] 255); have oy := ownsRow_chg ob ky; have qy := ky.heap qb (by simp); have q4y := cell_is qy 4 rfl; have a0y := cell_is (ky.heap Kb (by simp)) 0 rfl; have hQn := own_block_ne oy qy (by decide); have hby : base ≤ (w6.alloc (.cells #[.int .i64 b, .slice (some ⟨g2, 0, none⟩) 40 c2, .bool false] 255)).heap.size := (by have := heap_lt qy; omega); have gy := ky.heap hgb (by simp); have hgn := own_block_ne oy gy (by decide))
            | (refine step_append_rx rfl (.tmp 100) (.tmp 108) rfl base _ m xs rfl oy w6.heap.size 1 _ _ _ rfl (cell_is y0 0 rfl) (cell_is y0 1 rfl) (cell_is y0 2 rfl) ⟨rfl, rfl, rfl⟩ (by omega) hby ?_; intro g5 cp5 w5 o5 k5 l5; have q5 := k5.heap qy hQn; have q45 := cell_is q5 4 rfl; have f45 := unfrozen q5 4))
        all_goals
          have HZ := Lib.hid (gread_endx HRt k9 ky hm HBb.out gy hgn hgQ oy qy hQn (sb.keep0 ky) (g5 := g5) (cp5 := cp5) (w5 := w5) o5 k5 l5 HS0.out)
          clear HBb gy hgn sb o5 k5 q5 f45 q45 hBb
          go_wp2_with fail
          go_roundw
          case rel => exact Or.inr ⟨rfl, HZ.out⟩
          case measure => decide
      · have HG := Lib.hid hg1
        have HL := Lib.hid hl40
        have HB := Lib.hid hbs
        clear hg1 hl40 hbs
        go_wp2_with fail
        go_region_held3 (fun wx => wx.cell? ⟨Q, 1, none⟩ = some (.pointer (some ⟨W, 0, none⟩)) ∧ wx.cell? ⟨K, 0, none⟩ = some (.int .i64 b)) (first | (exact ⟨q1, a0⟩) | (exact ⟨k6.cell q1 (by simp), k6.cell a0 (by simp)⟩))
          (first | (go_at_call 217; refine (bget_some wr.drew (hW3.keep (Chg.refl [] wr).drew (by simp) (by simp)) HG.out HB.out HL.out).mono ?_; rintro e wa ⟨g2, c2, rfl, k6, hbs6, l6⟩))
        have k7 := (Chg.refl [] wr).drew.then k6
        have hga := k7.heap hg3 (by simp)
        have hqa := k7.heap q (by simp)
        have hKa := k7.heap K0 (by simp)
        have hoa := ownsRow_chg ho3 k7
        have hSa := hS3.keep0 k7
        have k8 := kw3.then (k7.mono (T := [V]) (fun x hx _ => by cases hx))
        have hsrc : ∀ j v, (Lib.byteCells l)[j]? = some v → wa.cell? ((⟨g2, 0, none⟩ : Addr).add j) = some v := hbs6.cells_at
        have hlc : (Lib.byteCells l).length = 40 := by simpa [Lib.byteCells] using HL.out
        have H1 := Lib.hid hsrc
        have H2 := Lib.hid hlc
        have hfit : 0 + (Lib.byteCells l).length ≤ cur.size := by have := HC.out.1; omega
        have H3 := Lib.hid hfit
        clear hsrc hlc hfit
        go_wp2_with (refine wpList_copy_own rfl (.tmp 78) (.tmp 79) 47 47 rfl 5 ty23 (by kernel_rfl) g 0 40 c' ⟨g2, 0, none⟩ 40 c2 rfl rfl cur 5 hga (Lib.byteCells l) H2.out H1.out H3.out (fun v hv => byteCells_one l v hv) ?_)
        have kb : Chg [g] wa (wa.setRow g (List.take 0 cur.toList ++ (Lib.byteCells l ++ List.drop (0 + (Lib.byteCells l).length) cur.toList)).toArray) := chg_setRow _ _ _
        have hgb := setRow_heap wa g cur (List.take 0 cur.toList ++ (Lib.byteCells l ++ List.drop (0 + (Lib.byteCells l).length) cur.toList)).toArray 5 (0, 0) hga
        have hBb : Bs (wa.setRow g (List.take 0 cur.toList ++ (Lib.byteCells l ++ List.drop (0 + (Lib.byteCells l).length) cur.toList)).toArray) (some ⟨g, 0, none⟩) l := Bs.block hgb (by rw [HL.out, List.take_zero, List.nil_append, List.toList_toArray]; rw [show (40 : Nat) = (Lib.byteCells l).length from H2.out.symm]; exact List.take_left)
        generalize hwb : (wa.setRow g (List.take 0 cur.toList ++ (Lib.byteCells l ++ List.drop (0 + (Lib.byteCells l).length) cur.toList)).toArray) = wb at *
        clear hwb
        generalize (List.take 0 cur.toList ++ (Lib.byteCells l ++ List.drop (0 + (Lib.byteCells l).length) cur.toList)).toArray = Cb at hgb
        simp only [Act.put, List.setIfInBounds_toArray, List.set_cons_zero, List.set_cons_succ]
        have hgQ : Q ∉ [g] := by simpa using heap_ne hqa hga (by simp)
        have hgK2 : K ∉ [g] := by simpa using heap_ne hKa hga (by simp)
        have qb := kb.heap hqa hgQ
        have Kb := kb.heap hKa hgK2
        have ob := ownsRow_chg2 hoa kb hga
        have sb := hSa.keep kb (fun x hx cs t fr hh => by rw [List.mem_singleton] at hx; subst hx; rw [hga] at hh; cases hh; simp)
        have k9 : Chg [V] w wb := k8.trans kb (fun x hx hlt => by rw [List.mem_singleton] at hx; omega)
        have hKQ : K ≠ Q := heap_ne Kb qb (by simp)
        clear hga hqa hKa hoa hSa k7 k8 kb H1 H2 H3 hbs6 k6
        have a0 : wb.cell? ⟨K, 0, none⟩ = some (.int .i64 b) := cell_is Kb 0 rfl
        have q4 : wb.cell? ⟨Q, 4, none⟩ = some s := cell_is qb 4 rfl
        have ky : Chg [] wb (wb.drew.alloc (.cells #[.int .i64 b, .slice (some ⟨g2, 0, none⟩) 40 c2, .bool true] 255)) := (Chg.refl [] wb).drew.then_alloc _
        have y0 := heap_new wb.drew (.cells #[.int .i64 b, .slice (some ⟨g2, 0, none⟩) 40 c2, .bool true] 255)
        have oy := ownsRow_chg ob ky
        have qy := ky.heap qb (by simp)
        have Ky := ky.heap Kb (by simp)
        have q4y := cell_is qy 4 rfl
        have a0y := cell_is Ky 0 rfl
        have hQn := own_block_ne oy qy (by decide)
        have hKn := own_block_ne oy Ky (by decide)
        have hby : base ≤ (wb.drew.alloc (.cells #[.int .i64 b, .slice (some ⟨g2, 0, none⟩) 40 c2, .bool true] 255)).heap.size := by have := heap_lt qy; omega
        have q4d : wb.drew.cell? ⟨Q, 4, none⟩ = some s := q4
        have q4e : (wb.alloc (.cells #[.int .i64 b, .slice (some ⟨g2, 0, none⟩) 40 c2, .bool true] 255)).cell? ⟨Q, 4, none⟩ = some s := q4y
        have a0e : (wb.alloc (.cells #[.int .i64 b, .slice (some ⟨g2, 0, none⟩) 40 c2, .bool true] 255)).cell? ⟨K, 0, none⟩ = some (.int .i64 b) := a0y
        have a0d : wb.drew.cell? ⟨K, 0, none⟩ = some (.int .i64 b) := a0
        have gy := ky.heap hgb (by simp)
        have hgn := own_block_ne oy gy (by decide)
        have HF := Lib.hid (fun (g5 cp5 : Nat) (w5 : World) (o5 : w5.ownsRow base 255 3 (.slice (some ⟨g5, 0, none⟩) (m + 1) cp5) (m + 1) (xs ++ [.int .i64 b, .slice (some ⟨g2, 0, none⟩) 40 c2, .bool true])) (k5 : Chg s.ownBlock.toList (wb.drew.alloc (.cells #[.int .i64 b, .slice (some ⟨g2, 0, none⟩) 40 c2, .bool true] 255)) w5) (l5 : s.ownBlock = some g5 ∨ g5 = (wb.drew.alloc (.cells #[.int .i64 b, .slice (some ⟨g2, 0, none⟩) 40 c2, .bool true] 255)).heap.size) =>
          gread_endx HRt k9 ky hm hBb gy hgn hgQ oy qy hQn (sb.keep0 ky) o5 k5 l5 HS0.out)
        clear hBb gy hgn sb
        go_region_law
          (first | (refine step_append_rx rfl (.tmp 85) (.tmp 92) rfl base _ m xs rfl oy wb.drew.heap.size 1 _ _ _ rfl (cell_is y0 0 rfl) (cell_is y0 1 rfl) (cell_is y0 2 rfl) ⟨rfl, rfl, rfl⟩ (by omega) hby ?_; intro g5 cp5 w5 o5 k5 l5; have q5 := k5.heap qy hQn; have q45 := cell_is q5 4 rfl; have f45 := unfrozen q5 4; have a05 := k5.cell a0y hKn))
        all_goals
          have HZ := Lib.hid (HF.out g5 cp5 w5 o5 k5 l5)
          clear HF o5 k5 q5 f45 q45
          go_wp2_with fail
          go_roundw
          case rel => exact Or.inr ⟨rfl, HZ.out⟩
          case measure => decide
    · have hgw : w.heap.size ≤ g := by omega
      go_wp2_with fail
      simp only [Exit.noGoto]
      go_ret2
      exact ⟨g, c', T, rfl, hc', kT, hT, hX9, hgw, hBs, hVw, hSp⟩
section
variable {base : Nat} {d : Ids} {p : Par} {F : World → Prop}
set_option maxRecDepth 100000 in
set_option maxHeartbeats 2000000 in
theorem tread_x (w : World) {q : Int → List UInt8} {L : List (Int × Value)} {n : Nat} {b : Int} (hf : Fr base d p F) (h : Su w base d p F q L n) (hn : n ≤ 60) (h0 : 0 ≤ b) (h1 : b < 258) :
    Calls Tryz.prog 99 #[.pointer (some ⟨d.M, 0, none⟩), .int .i64 p.h, .agg #[.int .i64 b, .int .i64 1]] w fun e w' =>
    ∃ g c', e = .returned (.tuple #[.slice (some ⟨g, 0, none⟩) 40 c', .int .i64 0]) ∧ 40 ≤ c' ∧ RdW base d w w' ∧ Su w' base d p F q L (n + 1) ∧ w.heap.size ≤ g ∧ Bs w' (some ⟨g, 0, none⟩) (q b) := by
  have k0 : Chg [] w (w.alloc (.cells #[.int .i64 b, .int .i64 1] 79)) := Chg.alloc w _
  have K0 := heap_new w (.cells #[.int .i64 b, .int .i64 1] 79)
  have hlt : d.Q < w.heap.size := (by obtain ⟨_, _, _, hq, -, -⟩ := h.vw; exact heap_lt hq)
  have h2 := h.keep hf k0
  have HO := Lib.hid (topen_gen _ (hf.need _ h2.env) h2.tx)
  clear h
  go_enter Tryz.func99, Tryz.ntmps99
  go_wp2_with fail
  generalize w.alloc (.cells #[.int .i64 b, .int .i64 1] 79) = w1 at *
  generalize hK : w.heap.size = K at *
  refine HO.out.mono ?_
  rintro e w2 ⟨rfl, rfl⟩
  have t5 : w1.cell? ⟨d.T, 5, none⟩ = some (.pointer (some ⟨d.Q, 0, none⟩)) := cell_is h2.tx 5 rfl
  have a0 : w1.cell? ⟨K, 0, none⟩ = some (.int .i64 b) := cell_is K0 0 rfl
  have a1 : w1.cell? ⟨K, 1, none⟩ = some (.int .i64 1) := cell_is K0 1 rfl
  go_wp2_with fail
  have hbuf := h2.buf
  have hq := h2.blk
  have h3 := h2.keep hf (Chg.refl [] w1).drew
  go_region_held3 (fun wx => wx.cell? ⟨d.T, 5, none⟩ = some (.pointer (some ⟨d.Q, 0, none⟩)) ∧ wx.cell? ⟨K, 0, none⟩ = some (.int .i64 b) ∧ wx.cell? ⟨K, 1, none⟩ = some (.int .i64 1))
    (first | (exact ⟨t5, a0, a1⟩) | (exact ⟨cell_is t6 5 rfl, cell_is K6 0 rfl, cell_is K6 1 rfl⟩))
    (first | (go_at_call 170; refine (gread_x w1.drew (hf.need _ h3.env).ver (hbuf.keep (Chg.refl [] w1).drew (by simp) (by simp)) (hq b h0 h1) h3.vw h3.sp hn ⟨h3.high.1, h3.high.2.1⟩ h0 h1).mono ?_; rintro e w6 ⟨g, c', T, rfl, hc', k6, hT, hX9, hg, hB6, hV6, hS6⟩; have t6 := k6.heap h3.tx (hT.cells h3.tx (by simp)); have K6 := k6.heap K0 (hT.cells K0 (by simp))))
  have hlow : ∀ x ∈ T, base ≤ x := fun x hx => (hT x hx).1
  have how0 : Ow base w1.drew w6 := ow_rt k6 hT
  have hfin : Su w6 base d p F q L (n + 1) := ⟨hf.keep _ _ how0 h3.env, t6, (hbuf.keep (Chg.refl [] w1).drew (by simp) (by simp)).keep k6 (hT.cells hbuf.1 (by simp)) (hT.map hbuf.2), h2.keys, fun x hx hx' => ((hq x hx hx').keep (Chg.refl [] w1).drew).keepT k6 hT, hV6, hS6, h3.high⟩
  have how : RdW base d w w6 := RdW.mk k0.drew k6 hT hX9 h2.vw (Chg.refl [] w1).drew (by omega)
  have hsz : w.heap.size ≤ g := by have := k0.size; have h9 : w1.drew.heap.size = w1.heap.size := rfl; omega
  clear hq hbuf h2 h3 hV6 hS6 k6 hT t6 K6 how0
  go_wp2_with fail
  go_ret2
  exact ⟨g, c', rfl, hc', how, hfin, hsz, hB6⟩
set_option maxRecDepth 100000 in
set_option maxHeartbeats 2000000 in
theorem sread_x (w : World) {q : Int → List UInt8} {L : List (Int × Value)} {n : Nat} {b : Int} (hf : Fr base d p F) (h : Su w base d p F q L n) (hn : n ≤ 60) (h0 : 0 ≤ b) (h1 : b < 258) :
    Calls Tryz.prog 39 #[.pointer (some ⟨d.P, 0, none⟩), .int .i64 p.h, .agg #[.int .i64 b, .int .i64 1]] w fun e w' =>
    ∃ g c', e = .returned (.tuple #[.slice (some ⟨g, 0, none⟩) 40 c', .int .i64 0]) ∧ 40 ≤ c' ∧ RdW base d w w' ∧ Su w' base d p F q L (n + 1) ∧ w.heap.size ≤ g ∧ Bs w' (some ⟨g, 0, none⟩) (q b) := by
  have k0 : Chg [] w (w.alloc (.cells #[.int .i64 b, .int .i64 1] 79)) := Chg.alloc w _
  have K0 := heap_new w (.cells #[.int .i64 b, .int .i64 1] 79)
  have hlt : d.Q < w.heap.size := (by obtain ⟨_, _, _, hq, -, -⟩ := h.vw; exact heap_lt hq)
  have h2 := h.keep hf k0
  have HO := Lib.hid (dead_gen _ (hf.need _ h2.env))
  clear h
  go_enter Tryz.func39, Tryz.ntmps39
  go_wp2_with fail
  generalize w.alloc (.cells #[.int .i64 b, .int .i64 1] 79) = w1 at *
  generalize hK : w.heap.size = K at *
  refine HO.out.mono ?_
  rintro e w2 ⟨rfl, rfl⟩
  have t5 : w1.cell? ⟨d.P, 5, none⟩ = some (.pointer (some ⟨d.M, 0, none⟩)) := (hf.need _ h2.env).p5
  have a0 : w1.cell? ⟨K, 0, none⟩ = some (.int .i64 b) := cell_is K0 0 rfl
  have a1 : w1.cell? ⟨K, 1, none⟩ = some (.int .i64 1) := cell_is K0 1 rfl
  go_wp2_with fail
  have h3 := h2.keep hf (Chg.refl [] w1).drew
  go_region_held3 (fun wx => wx.cell? ⟨d.P, 5, none⟩ = some (.pointer (some ⟨d.M, 0, none⟩)) ∧ wx.cell? ⟨K, 0, none⟩ = some (.int .i64 b) ∧ wx.cell? ⟨K, 1, none⟩ = some (.int .i64 1))
    (first | (exact ⟨t5, a0, a1⟩) | (exact ⟨t6, cell_is K6 0 rfl, cell_is K6 1 rfl⟩))
    (first | (go_at_call 99; refine (tread_x w1.drew hf h3 hn h0 h1).mono ?_; rintro e w6 ⟨g, c', rfl, hc', k6, h6, hg, hB6⟩; have t6 := (hf.need _ h6.env).p5; have K6 := k6.ow.heap K0 (by simp)))
  have hQ4 : d.Q < w.heap.size := (by omega)
  have hsz : w.heap.size ≤ g := by have := k0.size; have h9 : w1.drew.heap.size = w1.heap.size := rfl; omega
  have how := k6.ahead k0.drew hQ4
  clear h2 h3 t6 K6 k6
  go_wp2_with fail
  go_ret2
  exact ⟨g, c', rfl, hc', how, h6, hsz, hB6⟩
end
end Go.Proofs.YtelakcjbknbehaaGreat
namespace Go.Proofs.YtelakcjbknbehaaGreat
open Go.RowKit Go.Lib

theorem nodup_ne {Z : List Nat} (h : Z.Nodup) {i j : Nat} (hi : i < Z.length) (hj : j < Z.length) (hij : i ≠ j) : Z[i] ≠ Z[j] := by
  have h2 := List.pairwise_iff_getElem.1 h
  rcases Nat.lt_or_gt_of_ne hij with h3 | h3
  · exact h2 i j hi hj h3
  · exact (h2 j i hj hi h3).symm
/-- a family with one member turned. -/
def upF {α : Type} (f : Nat → α) (j : Nat) (x : α) : Nat → α := fun k => if k = j then x else f k
theorem DevG.put {w w' : World} {base N A c : Nat} {ops : Int} {Z : List Nat} {vs : Nat → Value} {gs : Nat → Nat} {zs : Nat → List (List UInt8)} (h : DevG w base N A c ops Z vs gs zs) {j : Nat} (hj : j < Z.length) {v' : Value} {l' : List (List UInt8)}
    (hc : Chg (Z[j] :: (vs j).ownBlock.toList) w w') (hz : w'.heap[Z[j]]? = some (.cells #[v', .int .i64 (gs j : Nat)] 132 (0, 0))) (hr : RowsAt w' base v' l') (hb : ∀ g, v'.ownBlock = some g → (vs j).ownBlock = some g ∨ w.heap.size ≤ g) :
    DevG w' base N A c ops Z (upF vs j v') gs (upF zs j l') := by
  have hj8 : j < 8 := by have := h.len; omega
  have hzj := h.zone j hj
  have ht : ∀ {g : Nat} {cs : Array Value} {t : TypeId}, w.heap[g]? = some (.cells cs t (0, 0)) → t ≠ 132 → t ≠ 47 → g ∉ Z[j] :: (vs j).ownBlock.toList := by
    intro g cs t hg h1 h2 hm
    rcases List.mem_cons.1 hm with rfl | hm
    · rw [hzj] at hg; cases hg; exact h1 rfl
    · obtain ⟨cs2, hb2⟩ := (h.rows j hj8).block g (by simpa using hm)
      rw [hg] at hb2; cases hb2; exact h2 rfl
  have hzk : ∀ k (hk : k < Z.length), k ≠ j → Z[k] ∉ Z[j] :: (vs j).ownBlock.toList := by
    intro k hk hkj hm
    rcases List.mem_cons.1 hm with e | hm
    · exact nodup_ne h.nodup hk hj hkj e
    · obtain ⟨cs2, hb2⟩ := (h.rows j hj8).block _ (by simpa using hm)
      rw [h.zone k hk] at hb2; cases hb2
  have hvk : ∀ k g, k < 8 → k ≠ j → (vs k).ownBlock = some g → g ∉ Z[j] :: (vs j).ownBlock.toList := by
    intro k g hk hkj hg hm
    rcases List.mem_cons.1 hm with e | hm
    · obtain ⟨cs2, hb2⟩ := (h.rows k hk).block g hg
      rw [e, hzj] at hb2; cases hb2
    · exact h.apart k j g hk hj8 hkj hg (by simpa using hm)
  obtain ⟨cA, hA⟩ := h.tA
  have av5 : Av w (Z[j] :: (vs j).ownBlock.toList) [5] := fun x hx cs t fr hh h5 => by
    simp at h5
    subst h5
    rcases List.mem_cons.1 hx with rfl | hm
    · rw [hzj] at hh; cases hh
    · obtain ⟨cs2, hb2⟩ := (h.rows j hj8).block x (by simpa using hm)
      rw [hh] at hb2; cases hb2
  refine ⟨hc.heap h.hdr (ht h.hdr (by decide) (by decide)), h.cap, h.len, ⟨cA, hc.heap hA (ht hA (by decide) (by decide))⟩, fun k hk => hc.cell (h.ptr k hk) (ht hA (by decide) (by decide)), fun k hk => ?_, fun k hk => ?_, fun a b g ha hb8 hab hg => ?_, h.nodup⟩
  · by_cases hkj : k = j
    · subst hkj
      simpa [upF] using hz
    · simpa [upF, hkj] using hc.heap (h.zone k hk) (hzk k hk hkj)
  · by_cases hkj : k = j
    · subst hkj
      simpa [upF] using hr
    · simpa [upF, hkj] using (h.rows k hk).keep hc av5 (fun g hg => hvk k g hk hkj hg)
  · by_cases haj : a = j
    · have hbj : b ≠ j := fun e => hab (haj.trans e.symm)
      simp only [upF, if_pos haj] at hg
      simp only [upF, if_neg hbj]
      intro hg2
      rcases hb g hg with h1 | h1
      · exact h.apart j b g hj8 hb8 (fun e => hbj e.symm) h1 hg2
      · obtain ⟨cs2, hb2⟩ := (h.rows b hb8).block g hg2
        have := heap_lt hb2
        omega
    · simp only [upF, if_neg haj] at hg
      by_cases hbj : b = j
      · simp only [upF, if_pos hbj]
        intro hg2
        rcases hb g hg2 with h1 | h1
        · exact h.apart a j g ha hj8 haj hg h1
        · obtain ⟨cs2, hb2⟩ := (h.rows a ha).block g hg
          have := heap_lt hb2
          omega
      · simp only [upF, if_neg hbj]
        exact h.apart a b g ha hb8 hab hg
theorem DevG.appended {wy w5 : World} {base N A c : Nat} {ops : Int} {Z : List Nat} {vs : Nat → Value} {gs : Nat → Nat} {zs : Nat → List (List UInt8)} (dy : DevG wy base N A c ops Z vs gs zs) {j : Nat} (hj : j < Z.length)
    {pa : Option Addr} {cv g2 c2 g5 cp5 : Nat} {xs : List Value} {l : List UInt8} (hv : vs j = .slice pa (zs j).length cv) (hx : ∀ i (h : i < (zs j).length), ∃ g c, xs[i]? = some (.slice (some ⟨g, 0, none⟩) 64 c) ∧ Bs wy (some ⟨g, 0, none⟩) (zs j)[i] ∧ (zs j)[i].length = 64 ∧ Bt wy g)
    (hxl : xs.length = (zs j).length) (o5 : w5.ownsRow base 47 1 (.slice (some ⟨g5, 0, none⟩) ((zs j).length + 1) cp5) ((zs j).length + 1) (xs ++ [.slice (some ⟨g2, 0, none⟩) 64 c2])) (k5 : Chg (Value.slice pa (zs j).length cv).ownBlock.toList wy w5)
    (i5 : (Value.slice pa (zs j).length cv).ownBlock = some g5 ∨ g5 = wy.heap.size) (b2 : Bs wy (some ⟨g2, 0, none⟩) l) (hl : l.length = 64) (t2 : Bt wy g2) :
    Chg (Z[j] :: (vs j).ownBlock.toList) wy (w5.setCell ⟨Z[j], 0, none⟩ (.slice (some ⟨g5, 0, none⟩) ((zs j).length + 1) cp5)) ∧
    DevG (w5.setCell ⟨Z[j], 0, none⟩ (.slice (some ⟨g5, 0, none⟩) ((zs j).length + 1) cp5)) base N A c ops Z (upF vs j (.slice (some ⟨g5, 0, none⟩) ((zs j).length + 1) cp5)) gs (upF zs j (zs j ++ [l])) := by
  have hj8 : j < 8 := by have := dy.len; omega
  have hb23 := (dy.rows j hj8).block
  have hzj := dy.zone j hj
  have hzn : Z[j] ∉ (vs j).ownBlock.toList := by
    intro hm
    obtain ⟨cs, h1⟩ := hb23 _ (by simpa using hm)
    rw [hzj] at h1
    cases h1
  have Z5 := k5.heap hzj (by rw [← hv]; exact hzn)
  rw [hv] at Z5
  have r5 : RowsAt w5 base (.slice (some ⟨g5, 0, none⟩) ((zs j).length + 1) cp5) (zs j ++ [l]) := RowsAt.push (v := .slice pa (zs j).length cv) hx hxl (by rw [← hv]; exact hb23) o5 k5 b2 hl t2
  have hset := Chg.set w5 Z[j] 0 (.slice (some ⟨g5, 0, none⟩) ((zs j).length + 1) cp5)
  have rF := r5.keep hset (Av.row Z5 (by simp)) (by
    intro g hg hm
    rw [List.mem_singleton] at hm
    obtain ⟨cs, h1⟩ := r5.block g hg
    rw [hm, Z5] at h1
    cases h1)
  have kF : Chg (Z[j] :: (vs j).ownBlock.toList) wy (w5.setCell ⟨Z[j], 0, none⟩ (.slice (some ⟨g5, 0, none⟩) ((zs j).length + 1) cp5)) := by
    rw [hv]
    exact (k5.mono (fun x hx _ => List.mem_cons_of_mem _ hx)).then (hset.mono (fun x hx _ => by rw [List.mem_singleton] at hx; subst hx; exact List.mem_cons_self))
  refine ⟨kF, dy.put hj kF (heap_set Z5 0 _ rfl) rF (fun g hg => ?_)⟩
  have e : g5 = g := by simpa [Value.ownBlock] using hg
  subst e
  rw [hv]
  rcases i5 with h | h
  · exact Or.inl h
  · exact Or.inr (Nat.le_of_eq h.symm)
set_option maxRecDepth 100000 in
set_option maxHeartbeats 2000000 in
theorem dappend_any (w : World) {base N A c : Nat} {ops : Int} {Z : List Nat} {vs : Nat → Value} {gs : Nat → Nat} {zs : Nat → List (List UInt8)} (h : DevG w base N A c ops Z vs gs zs) (h0 : 0 ≤ ops) (h1 : ops ≤ 1000000) (j : Nat) (hj : j < Z.length) (hroom : (zs j).length < 96)
    {D o cd : Nat} {l : List UInt8} (hb : Bs w (some ⟨D, o, none⟩) l) (hl : l.length = 64) (hD : ∀ g, D = g → g ≠ N) (hlow : base ≤ N) :
    Calls Tryz.prog 136 #[.pointer (some ⟨N, 0, none⟩), .int .i64 j, .slice (some ⟨D, o, none⟩) 64 cd] w fun e w' => ∃ v', e = .returned (.tuple #[.int .i64 ((zs j).length : Nat), .int .i64 0]) ∧ Chg (N :: Z[j] :: (vs j).ownBlock.toList) w w' ∧ DevG w' base N A c (ops + 1) Z (upF vs j v') gs (upF zs j (zs j ++ [l])) ∧ (∀ g, v'.ownBlock = some g → (vs j).ownBlock = some g ∨ w.heap.size ≤ g) := by
  have hj8 : j < 8 := by have := h.len; omega
  have HA := Lib.hid (dat_any w h j hj)
  have HB := Lib.hid (dbegin_any w h h0 h1)
  have hbN : Bs w (some ⟨D, o, none⟩) l := hb
  have HD := Lib.hid (hD D rfl)
  clear hb hD
  go_enter Tryz.func136, Tryz.ntmps136
  go_wp2_with fail
  refine HA.out.mono ?_
  rintro e w1 ⟨rfl, rfl⟩
  go_wp2_with fail
  refine HB.out.mono ?_
  rintro e w1 ⟨rfl, k1, d1⟩
  have hb1 : Bs w1 (some ⟨D, o, none⟩) l := hbN.chgT k1 (by simpa using HD.out)
  obtain ⟨xs, ho, hx⟩ := d1.rows j hj8
  obtain ⟨pa, cv, hv, hcv⟩ := own_form ho
  have hz1 := d1.zone j hj
  have hb23 := (d1.rows j hj8).block
  have hN1 := heap_lt d1.hdr
  rw [hv] at hz1 ho hb23
  have z0 : w1.cell? ⟨Z[j], 0, none⟩ = some (.slice pa (zs j).length cv) := cell_is hz1 0 rfl
  have s1 : w1.cell? ⟨N, 1, none⟩ = some (.int .i64 96) := cell_is d1.hdr 1 rfl
  have hnl : ¬ (((zs j).length : Int) ≥ 96) := by omega
  have HX := Lib.hid hx
  have HO := Lib.hid ho
  have H1 := Lib.hid d1
  have H23 := Lib.hid hb23
  have HZ := Lib.hid hz1
  have HR := Lib.hid hroom
  clear hx ho d1 HA HB h hb23 hroom hz1
  generalize hzz : Z[j] = z at *
  go_wp2_with fail
  go_quiet (fail)
  have z0d : (w1.drewN nq).cell? ⟨z, 0, none⟩ = some (.slice pa (zs j).length cv) := z0
  have k2 : Chg [N] w (w1.drewN nq) := k1.drewN nq
  have hN2 : N < (w1.drewN nq).heap.size := hN1
  have hb2 : Bs (w1.drewN nq) (some ⟨D, o, none⟩) l := hb1
  have H2 := Lib.hid (H1.out.keep ((Chg.refl [] w1).drewN nq) (Av.nil _ _))
  have HX2 : Hid (∀ (i : Nat) (h : i < (zs j).length), ∃ g c, xs[i]? = some (.slice (some ⟨g, 0, none⟩) 64 c) ∧ Bs (w1.drewN nq) (some ⟨g, 0, none⟩) (zs j)[i] ∧ (zs j)[i].length = 64 ∧ Bt (w1.drewN nq) g) := HX
  have HO2 : Hid ((w1.drewN nq).ownsRow base 47 1 (.slice pa (zs j).length cv) (zs j).length xs) := HO
  have HZ2 : Hid ((w1.drewN nq).heap[z]? = some (.cells #[.slice pa (zs j).length cv, .int .i64 (gs j : Nat)] 132 (0, 0))) := HZ
  clear z0 k1 hN1 hb1 H1 HX HO HZ s1
  generalize w1.drewN nq = w2 at *
  go_wp2_with fail
  have z0e : w2.drew.cell? ⟨z, 0, none⟩ = some (.slice pa (zs j).length cv) := z0d
  go_region_law
    (first
      | (go_simp; go_at_call 126; refine (clone_bt w2.drew (l := l) (m := 64) hl (by decide) (by decide) (hb2.chg (Chg.refl [] w2).drew)).mono ?_; rintro e w6 ⟨g2, c2, rfl, k6, bs6, l6, bt6⟩; have z6 := k6.cell z0e (by simp); have ky : Chg [] w2 (w6.alloc (.cells #[.slice (some ⟨g2, 0, none⟩) 64 c2] 47)) := ((Chg.refl [] w2).drew.then k6).then_alloc _; have y0 := heap_new w6 (.cells #[.slice (some ⟨g2, 0, none⟩) 64 c2] 47); have zy := ky.cell z0d (by simp); have oy := ownsRow_av HO2.out ky (Av.nil _ _); have Zy := ky.heap HZ2.out (by simp); have hby : base ≤ (w6.alloc (.cells #[.slice (some ⟨g2, 0, none⟩) 64 c2] 47)).heap.size := (by have := ky.size; omega))
      | (refine step_append_bk rfl (.tmp 39) (.tmp 42) rfl base _ (zs j).length xs rfl oy w6.heap.size 1 _ rfl (cell_is y0 0 rfl) rfl (by have := HR.out; omega) hby ?_; intro g5 cp5 w5 o5 k5 i5; have Z5 := k5.heap Zy (own_block_ne oy Zy (by decide)); have z5 := cell_is Z5 0 rfl; have f5 := unfrozen Z5 0))
  all_goals
    have dy := H2.out.keep ky (Av.nil _ _)
    have hxl : xs.length = (zs j).length := by have := oy.1; omega
    obtain ⟨kF, dF⟩ := dy.appended hj hv (fun i hi => by
      obtain ⟨g, c, h1, h2, h3, h4⟩ := HX2.out i hi
      exact ⟨g, c, h1, h2.chg ky, h3, h4.keep ky (by simp)⟩) hxl o5 k5 i5 (bs6.chg (Chg.alloc _ _)) hl (bt6.keep (Chg.alloc (S := []) _ _) (by simp))
    have kT : Chg (N :: Z[j] :: (vs j).ownBlock.toList) w (w5.setCell ⟨Z[j], 0, none⟩ (.slice (some ⟨g5, 0, none⟩) ((zs j).length + 1) cp5)) := ((k2.mono (fun x hx _ => by rw [List.mem_singleton] at hx; subst hx; exact List.mem_cons_self)).then (ky.mono (fun x hx _ => by cases hx))).then (kF.mono (fun x hx _ => List.mem_cons_of_mem _ hx))
    have KT := Lib.hid kT
    have DF := Lib.hid dF
    have HI : Hid (∀ g, (Value.slice (some ⟨g5, 0, none⟩) ((zs j).length + 1) cp5).ownBlock = some g → (vs j).ownBlock = some g ∨ w.heap.size ≤ g) := Lib.hid (fun g hg => by
      have hg' : g5 = g := Option.some.inj hg
      subst hg'
      rw [hv]
      rcases i5 with i | i
      · exact Or.inl i
      · have := k2.size
        have := ky.size
        exact Or.inr (by omega))
    rw [hzz] at KT DF
    clear kT dF kF dy oy o5 k5 i5 bs6 bt6 ky y0 zy Zy z6 k6 H23
    have hsub : wrap64 (((zs j).length : Int) + 1 - 1) = ((zs j).length : Nat) := by have := HR.out; unfold wrap64; omega
    go_wp2_with fail
    go_ret2
    have hC := KT.out
    have hD := DF.out
    rw [← hzz] at hD ⊢
    exact ⟨_, rfl, by rw [hzz]; exact hC, hD, HI.out⟩
/-- .. when what is for good of a zone is turned. -/
theorem DevG.setGood {w : World} {base N A c : Nat} {ops : Int} {Z : List Nat} {vs : Nat → Value} {gs : Nat → Nat} {zs : Nat → List (List UInt8)} (h : DevG w base N A c ops Z vs gs zs) {j : Nat} (hj : j < Z.length) (n : Nat) :
    DevG (w.setCell ⟨Z[j], 1, none⟩ (.int .i64 n)) base N A c ops Z vs (upF gs j n) zs := by
  have hc := Chg.set w Z[j] 1 (.int .i64 n)
  have hzj := h.zone j hj
  have ht : ∀ {g : Nat} {cs : Array Value} {t : TypeId}, w.heap[g]? = some (.cells cs t (0, 0)) → t ≠ 132 → g ∉ [Z[j]] := by
    intro g cs t hg h1 hm
    rw [List.mem_singleton] at hm
    subst hm
    rw [hzj] at hg; cases hg; exact h1 rfl
  obtain ⟨cA, hA⟩ := h.tA
  refine ⟨hc.heap h.hdr (ht h.hdr (by decide)), h.cap, h.len, ⟨cA, hc.heap hA (ht hA (by decide))⟩, fun k hk => hc.cell (h.ptr k hk) (ht hA (by decide)), fun k hk => ?_, fun k hk => (h.rows k hk).keep hc (Av.row hzj (by simp)) (fun g hg => ?_), h.apart, h.nodup⟩
  · by_cases hkj : k = j
    · subst hkj
      simpa [upF] using heap_set hzj 1 (.int .i64 n) rfl
    · simpa [upF, hkj] using hc.heap (h.zone k hk) (by simpa using nodup_ne h.nodup hk hj hkj)
  · obtain ⟨cs, hb⟩ := (h.rows k hk).block g hg
    exact ht hb (by decide)
/-- the first j zones' blocks are for good. -/
def goodF (gs : Nat → Nat) (zs : Nat → List (List UInt8)) (j : Nat) : Nat → Nat := fun k => if k < j then (zs k).length else gs k
theorem goodF_succ (gs : Nat → Nat) (zs : Nat → List (List UInt8)) (j : Nat) : upF (goodF gs zs j) j (zs j).length = goodF gs zs (j + 1) := by
  funext k
  unfold upF goodF
  by_cases h : k = j
  · subst h; simp
  · rw [if_neg h]
    by_cases h2 : k < j
    · rw [if_pos h2, if_pos (by omega)]
    · rw [if_neg h2, if_neg (by omega)]
set_option maxRecDepth 100000 in
set_option maxHeartbeats 1000000 in
theorem dflush_any (w : World) {base N A c : Nat} {ops : Int} {Z : List Nat} {vs : Nat → Value} {gs : Nat → Nat} {zs : Nat → List (List UInt8)} (h : DevG w base N A c ops Z vs gs zs) (h0 : 0 ≤ ops) (h1 : ops ≤ 1000000) : Calls Tryz.prog 137 #[.pointer (some ⟨N, 0, none⟩)] w fun e w' =>
    e = .returned (.int .i64 0) ∧ Chg (N :: Z) w w' ∧ DevG w' base N A c (ops + 1) Z vs (goodF gs zs 8) zs := by
  have HG := Lib.hid (dgone_any w h)
  have HB := Lib.hid (dbegin_any w h h0 h1)
  clear h
  go_enter Tryz.func137, Tryz.ntmps137
  go_wp2_with fail
  refine HG.out.mono ?_
  rintro e w1 ⟨rfl, rfl⟩
  go_wp2_with fail
  refine HB.out.mono ?_
  rintro e w1 ⟨rfl, hc1, h2⟩
  have hC1 : Chg (N :: Z) w w1 := hc1.mono (fun x hx _ => by rw [List.mem_singleton] at hx; simp [hx])
  have e2 : w1.cell? ⟨N, 2, none⟩ = some (.slice (some ⟨A, 0, none⟩) 8 c) := cell_is h2.hdr 2 rfl
  have hc8 := h2.cap
  have hg0 : goodF gs zs 0 = gs := by funext k; simp [goodF]
  rw [← hg0] at h2
  clear hc1 HG HB
  go_wp2_with fail
  go_loopw [17] (fun i wr => ∃ j : Nat, i = .int .i64 j ∧ j ≤ 8 ∧ DevG wr base N A c (ops + 1) Z vs (goodF gs zs j) zs ∧ Chg (N :: Z) w wr) (fun i _ => 8 - (intOf i).toNat)
  case atStart => exact ⟨0, rfl, by omega, h2, hC1⟩
  case round =>
    obtain ⟨j, rfl, hj, hD, hC⟩ := hrel
    by_cases hlt : j < 8
    · have hjz : j < Z.length := by have := hD.len; omega
      have hm : Z[j] ∈ Z := List.getElem_mem hjz
      obtain ⟨xs, ho, -⟩ := hD.rows j hlt
      obtain ⟨pa, cv, hv, -⟩ := own_form ho
      have hfin : ∀ w', w' = wr.setCell ⟨Z[j], 1, none⟩ (.int .i64 (zs j).length) → DevG w' base N A c (ops + 1) Z vs (goodF gs zs (j + 1)) zs ∧ Chg (N :: Z) w w' := by
        rintro w' rfl
        exact ⟨goodF_succ gs zs j ▸ hD.setGood hjz _, hC.then_set (fun _ => List.mem_cons_of_mem _ hm) _ _⟩
      have a0 := hD.ptr j hjz
      have k0 := hD.zone j hjz
      rw [hv] at k0
      have b0 : wr.cell? ⟨Z[j], 0, none⟩ = some (.slice pa (zs j).length cv) := cell_is k0 0 rfl
      have b1 : wr.cell? ⟨Z[j], 1, none⟩ = some (.int .i64 (goodF gs zs j j : Nat)) := cell_is k0 1 rfl
      have f1 := unfrozen k0 1
      have HF := Lib.hid hfin
      clear hfin hD hC k0 h2 hC1 e2 hm ho hv
      generalize Z[j] = z at *
      go_wp2_with fail
      go_roundw
      case rel => exact ⟨j + 1, by go_num, by omega, HF.out _ rfl⟩
      case measure => simp [intOf]; omega
    · obtain rfl : j = 8 := by omega
      go_wp2_with fail
      go_ret
      exact ⟨rfl, hC, hD⟩
end Go.Proofs.YtelakcjbknbehaaGreat
namespace Go.Proofs.YtelakcjbknbehaaGreat
open Go.RowKit Go.Lib

set_option maxRecDepth 100000 in
theorem blen_any (w : World) {W rw : Nat} {L : List (Int × Value)} {D : Int → List UInt8} (h : BufAt w W rw L) (hD : BufD w L D) (hk : ∀ x ∈ L, 0 ≤ x.1 ∧ x.1 < 258) (hl : L.length ≤ 1000) : Calls Tryz.prog 120 #[.pointer (some ⟨W, 0, none⟩)] w fun e w' => e = .returned (.int .i64 L.length) ∧ Chg [] w w' := by
  have HP := Lib.hid (bputs_any w h hD hk hl)
  clear h hD hk
  go_enter Tryz.func120, Tryz.ntmps120
  go_wp2_with fail
  refine HP.out.mono ?_
  rintro e w1 ⟨v, rfl, k, xs, ho, -⟩
  obtain ⟨pa, c, rfl, -⟩ := own_form ho
  go_wp2_with fail
  go_ret
  exact ⟨by rw [← putsL_length L D]; rfl, k⟩
/-- one put, at its place. -/
theorem PutsAt.get {w : World} {lo : Nat} {v : Value} {l : List (Int × List UInt8)} (h : PutsAt w lo v l) (k : Nat) (hk : k < l.length) : ∃ g cap gd cd, v = .slice (some ⟨g, 0, none⟩) l.length cap ∧ l.length ≤ cap ∧
    w.cell? ⟨g, k * 2, none⟩ = some (.int .i64 l[k].1) ∧ w.cell? ⟨g, k * 2 + 1, none⟩ = some (.slice (some ⟨gd, 0, none⟩) 40 cd) ∧ Bs w (some ⟨gd, 0, none⟩) l[k].2 ∧ l[k].2.length = 40 ∧ Bt w gd := by
  obtain ⟨xs, ho, hx⟩ := h
  obtain ⟨h0, gd, cd, h1, h2, h3, h4⟩ := hx k hk
  rcases ho.2 with ⟨_, e⟩ | ⟨g, cap, cur, rfl, hA, hg, hc1, hc2, hc3, ht⟩
  · omega
  · refine ⟨g, cap, gd, cd, rfl, hc1, cell_is hg _ ?_, cell_is hg _ ?_, h2, h3, h4⟩
    · rw [← ht, List.getElem?_take_of_lt (by omega), Array.getElem?_toList] at h0
      exact h0
    · rw [← ht, List.getElem?_take_of_lt (by omega), Array.getElem?_toList] at h1
      exact h1
set_option maxRecDepth 100000 in
set_option maxHeartbeats 2000000 in
theorem bset_any (w : World) {W rw : Nat} {L : List (Int × Value)} {D : Int → List UInt8} (h : BufAt w W rw L) (hD : BufD w L D) (hk : ∀ x ∈ L, 0 ≤ x.1 ∧ x.1 < 258) (hl : L.length ≤ 16) : Calls Tryz.prog 190 #[.pointer (some ⟨W, 0, none⟩)] w fun e w' =>
    ∃ U lo most, e = .returned (.pointer (some ⟨U, 0, none⟩)) ∧ Chg [] w w' ∧ SpW w' lo U most 16 ∧ w.heap.size ≤ U := by
  have HP := Lib.hid (bputs_any w h hD hk (by omega))
  clear h hD hk
  go_enter Tryz.func190, Tryz.ntmps190
  go_wp2_with fail
  refine HP.out.mono ?_
  rintro e w1 ⟨v, rfl, k1, hp⟩
  obtain ⟨pa, c, rfl, hcap⟩ := own_form hp.choose_spec.1
  have hpl : (putsL L D).length ≤ 16 := by rw [putsL_length]; exact hl
  have HPt := Lib.hid hp
  clear hp
  generalize putsL L D = l at *
  go_wp2_with fail
  refine (inewm_any w1 l.length).mono ?_
  rintro e w2 ⟨U, rfl, k2, hU, lU⟩
  have HPt2 := Lib.hid (HPt.out.keep0 k2)
  go_wp2_with fail
  go_loopw [6, 14] (fun _ i wr => ∃ j : Nat, j ≤ l.length ∧ i = .int .i64 j ∧ Chg [U] w2 wr ∧ SpW wr w1.heap.size U l.length j) (fun _ i _ => l.length - (intOf i).toNat)
  case atStart => exact ⟨0, by omega, rfl, Chg.refl _ _, hU⟩
  case round =>
    obtain ⟨j, hj, rfl, kr, hs⟩ := hrel
    by_cases hlt : j < l.length
    · obtain ⟨g, cap, gd, cd, hv, -, d0, d1, -, -, -⟩ := HPt2.out.get j hlt
      cases hv
      have hU312 : ∃ v0, w2.heap[U]? = some (.cells #[.int .i64 l.length, v0] 305 (0, 0)) := ⟨_, hU.choose_spec.choose_spec.1⟩
      have hg92 : ∃ cs, w2.heap[g]? = some (.cells cs 50 (0, 0)) := (HPt2.out.block g rfl).2
      have hgU : g ∉ [U] := by
        obtain ⟨v0, h1⟩ := hU312
        obtain ⟨cs, h2⟩ := hg92
        intro hm
        rw [List.mem_singleton] at hm
        rw [hm, h1] at h2
        cases h2
      have e0 := kr.cell d0 hgU
      have e1 := kr.cell d1 hgU
      have hS := Lib.hid hs
      clear hs hU hU312 hg92 d0 d1
      generalize (l[j]).1 = b at *
      go_wp2_with fail
      have kA : Chg [] wr ((wr.alloc (.cells #[.int .i64 b, .slice (some ⟨gd, 0, none⟩) 40 cd] 50)).alloc (.cells #[.int .i64 b, .int .i64 1] 79)) := chg_two wr _ _
      have hE := (two_new wr (.cells #[.int .i64 b, .slice (some ⟨gd, 0, none⟩) 40 cd] 50) (.cells #[.int .i64 b, .int .i64 1] 79)).2
      have hSpQ : SpQ ((wr.alloc (.cells #[.int .i64 b, .slice (some ⟨gd, 0, none⟩) 40 cd] 50)).alloc (.cells #[.int .i64 b, .int .i64 1] 79)) (some ⟨wr.heap.size + 1, 0, none⟩) [(b, 1)] := Or.inr ⟨_, 0, rfl, fun i u hu => by
        rw [Nat.zero_add]
        match i with
        | 0 => cases hu; exact cell_is hE 0 rfl
        | 1 => cases hu; exact cell_is hE 1 rfl
        | i + 2 => simp [spCells] at hu⟩
      refine (iadd_any _ (n := j) (m := 1) (hS.out.keep0 kA) (by omega) (by have := kA.size; have := k2.size; have := kr.size; omega) rfl hSpQ).mono ?_
      rintro e w3 ⟨r, rfl, k3, hs3⟩
      have kk : Chg [U] w2 w3 := (kr.then (kA.mono (fun x hx _ => by cases hx))).then k3
      clear hSpQ hE kA e0 e1
      go_wp2_with fail
      go_roundw
      case rel => exact ⟨j + 1, by omega, by simp, kk, hs3⟩
      case measure => simp [intOf]; omega
    · obtain rfl : j = l.length := by omega
      go_wp2_with fail
      go_ret
      obtain ⟨v, l3, h1, h2, h3⟩ := hs
      exact ⟨U, _, _, rfl, (k1.then k2).trans kr (fun x hx hlt => by rw [List.mem_singleton] at hx; have := k1.size; omega), ⟨v, l3, h1, by omega, h3⟩, by have := k1.size; omega⟩
set_option maxRecDepth 100000 in
theorem xgone_any (w : World) {X : Nat} (h : w.cell? ⟨X, 0, none⟩ = some (.int .i64 258)) : Calls Tryz.prog 196 #[.pointer (some ⟨X, 0, none⟩)] w fun e w' => e = .returned (.bool false) ∧ w = w' := by
  go_enter Tryz.func196, Tryz.ntmps196
  go_wp2_with fail
  go_ret
  exact ⟨rfl, rfl⟩
end Go.Proofs.YtelakcjbknbehaaGreat
namespace Go.Proofs.YtelakcjbknbehaaGreat
open Go.RowKit Go.Lib

end Go.Proofs.YtelakcjbknbehaaGreat
namespace Go.Proofs.YtelakcjbknbehaaGreat
open Go.RowKit Go.Lib

/-- block M is a manager. -/
def MgrG (w : World) (M X B r : Nat) (qv : Value) (out num bas last given : Int) (rd : Bool) : Prop :=
  w.heap[M]? = some (.cells #[.pointer (some ⟨X, 0, none⟩), .pointer (some ⟨B, 0, none⟩), .map (some r), qv, .int .i64 out, .int .i64 num, .int .i64 bas, .int .i64 last, .int .i64 given, .bool rd] 195 (0, 0))
set_option maxRecDepth 100000 in
theorem waiting_none (w : World) {M X B r cq : Nat} {pq : Option Addr} {out num bas last given : Int} {rd : Bool} (h : MgrG w M X B r (.slice pq 0 cq) out num bas last given rd) : Calls Tryz.prog 133 #[.pointer (some ⟨M, 0, none⟩)] w fun e w' => e = .returned (.slice none 0 0) ∧ w = w' := by
  have m3 : w.cell? ⟨M, 3, none⟩ = some (.slice pq 0 cq) := cell_is h 3 rfl
  clear h
  go_enter Tryz.func133, Tryz.ntmps133
  go_wp2_with fail
  go_loopw [2, 4, 5, 11] (fun v _ _ i wr => i = .int .i64 0 ∧ w = wr ∧ v = .slice none 0 0) (fun _ _ _ _ _ => 0)
  case atStart => exact ⟨rfl, rfl, rfl⟩
  case round =>
    obtain ⟨rfl, rfl, rfl⟩ := hrel
    go_wp2_with fail
    go_ret
    exact ⟨rfl, rfl⟩
theorem own_some {w : World} {base e size n : Nat} {v : Value} {xs : List Value} (h : w.ownsRow base e size v n xs) (hn : 0 < n) : ∃ g c, v = .slice (some ⟨g, 0, none⟩) n c := by
  rcases h.2 with ⟨_, h0⟩ | ⟨g, cap, cur, rfl, _⟩
  · omega
  · exact ⟨g, cap, rfl⟩
/-- block T is a transaction that waits: its time k. -/
def TxW (w : World) (T W Q : Nat) (k t : Int) : Prop := w.heap[T]? = some (.cells #[.int .i64 2, .int .i64 k, .int .i64 0, .int .i64 t, .pointer (some ⟨W, 0, none⟩), .pointer (some ⟨Q, 0, none⟩)] 203 (0, 0))
end Go.Proofs.YtelakcjbknbehaaGreat
namespace Go.Proofs.YtelakcjbknbehaaGreat
open Go.RowKit Go.Lib

set_option maxRecDepth 100000 in
theorem scommit_one (w : World) {d : Ids} {p : Par} {P : World → Prop} (hN : Need w d p) (hC : Calls Tryz.prog 56 #[.pointer (some ⟨d.M, 0, none⟩), .int .i64 p.h] w fun e w' => e = .returned (.int .i64 0) ∧ P w') :
    Calls Tryz.prog 19 #[.pointer (some ⟨d.P, 0, none⟩), .int .i64 p.h] w fun e w' => e = .returned (.int .i64 0) ∧ P w' := by
  have c5 := hN.p5
  have HO := Lib.hid (dead_gen w hN)
  have HC := Lib.hid hC
  clear hN hC
  go_enter Tryz.func19, Tryz.ntmps19
  go_wp2_with fail
  refine HO.out.mono ?_
  rintro e w1 ⟨rfl, rfl⟩
  go_wp2_with fail
  refine HC.out.mono ?_
  rintro e w1 ⟨rfl, hp⟩
  have HPp := Lib.hid hp
  clear hp
  go_wp2_with fail
  go_ret
  exact ⟨rfl, HPp.out⟩
theorem ty100 : Tryz.prog.underlying 106 = some (.slice 185) := by kernel_rfl
theorem inf189 : (Tryz.prog.info? 185).map (fun i => (i.zero, i.size, i.bytes)) = some (some (.agg #[.int .i64 0, .slice none 0 0]), 2, 32) := by kernel_rfl
/-- a transaction's part is put behind none, as a step of a region that draws. -/
theorem step_append_tx {ops : Array Oper} {o : Oper} {a : Act} {w : World} {K : Act → World → Prop} {Q : Exit → Act → World → Prop} {E : Prop} (hgd : o.guard = none) (s x : Operand)
    (ho : o.op = .call { callee := .builtin .append, args := #[s, x], argTypes := #[106, 106] }) (b c : Nat) (u0 u1 : Value) (hs : a.eval s = .slice none 0 0)
    (hx : a.eval x = .slice (some ⟨b, 0, none⟩) 1 c) (c0 : w.cell? ⟨b, 0, none⟩ = some u0) (c1 : w.cell? ⟨b, 1, none⟩ = some u1) (h1 : u0.oneCell' = true ∧ u1.oneCell' = true)
    (h : ∀ g cap w', w'.ownsRow w.heap.size 185 2 (.slice (some ⟨g, 0, none⟩) 1 cap) 1 [u0, u1] → Chg [] w w' → K (a.put o.dst (.slice (some ⟨g, 0, none⟩) 1 cap)) w') :
    if Region.wanted o (yielded ops a.tmps) = true then Oper.wp Tryz.prog o a w K Q else E := by
  obtain ⟨i, hi0, hz, hz1, hz2⟩ := info_parts inf189
  refine step_append_lies w hgd s x 106 ho w.heap.size 185 i _ 2 32 ty100 hi0 hz hz1 hz2 rfl (by decide) _ 0 [] hs (World.ownsRow_nil _ _ _ _) ⟨b, 0, none⟩ 1 c [u0, u1] hx rfl ?_ ?_ (by decide) (by unfold maxLen; omega) (by omega) (Nat.le_refl _) _ rfl ?_
  · intro j u hu
    rw [add_lit, Nat.zero_add]
    match j with
    | 0 => cases hu; exact c0
    | 1 => cases hu; exact c1
    | j + 2 => simp at hu
  · intro u hu
    simp at hu
    rcases hu with rfl | rfl
    · exact h1.1
    · exact h1.2
  · intro g cap w' h2 h3 _ _
    exact h g cap w' h2 (Chg.of_grown0 h3)
/-- one transaction's part: its time k, its puts l. -/
def TxOne (w : World) (lo : Nat) (v : Value) (k : Int) (l : List (Int × List UInt8)) : Prop :=
  ∃ g c cs pv, v = .slice (some ⟨g, 0, none⟩) 1 c ∧ 1 ≤ c ∧ lo ≤ g ∧ w.heap[g]? = some (.cells cs 185 (0, 0)) ∧ cs[0]? = some (.int .i64 k) ∧ cs[1]? = some pv ∧ PutsAt w lo pv l
theorem TxOne.keep {w w' : World} {lo : Nat} {v : Value} {k : Int} {l : List (Int × List UInt8)} (h : TxOne w lo v k l) (hc : Chg [] w w') : TxOne w' lo v k l := by
  obtain ⟨g, c, cs, pv, h1, h2, h3, h4, h5, h6, h7⟩ := h
  exact ⟨g, c, cs, pv, h1, h2, h3, hc.heap h4 (by simp), h5, h6, h7.keep0 hc⟩
theorem tx_of_own {w : World} {b lo g c : Nat} {k : Int} {pv : Value} {l : List (Int × List UInt8)} (ho : w.ownsRow b 185 2 (.slice (some ⟨g, 0, none⟩) 1 c) 1 [.int .i64 k, pv]) (hb : lo ≤ b) (hp : PutsAt w lo pv l) : TxOne w lo (.slice (some ⟨g, 0, none⟩) 1 c) k l := by
  rcases ho.2 with ⟨e, _⟩ | ⟨g', cap, cur, e, hA, hg, hc1, hc2, hc3, ht⟩
  · cases e
  · cases e
    have h0 : cur[0]? = some (.int .i64 k) := by
      have : (cur.toList.take (1 * 2))[0]? = some (.int .i64 k) := by rw [ht]; rfl
      rwa [List.getElem?_take_of_lt (by omega), Array.getElem?_toList] at this
    have h1 : cur[1]? = some pv := by
      have : (cur.toList.take (1 * 2))[1]? = some pv := by rw [ht]; rfl
      rwa [List.getElem?_take_of_lt (by omega), Array.getElem?_toList] at this
    exact ⟨g, c, cur, pv, rfl, hc1, by omega, hg, h0, h1, hp⟩
set_option maxRecDepth 100000 in
set_option maxHeartbeats 4000000 in
theorem waiting_one (w : World) {M X B r cq gq T W rw Q : Nat} {out num bas last given k t h : Int} {rd : Bool} {Lr L : List (Int × Value)} {D : Int → List UInt8} (hM : MgrG w M X B r (.slice (some ⟨gq, 0, none⟩) 1 cq) out num bas last given rd)
    (hq : w.cell? ⟨gq, 0, none⟩ = some (.int .i64 h)) (hr : MapAt w r Lr) (hg : getL Lr h = some (.pointer (some ⟨T, 0, none⟩))) (hT : TxW w T W Q k t) (hb : BufAt w W rw L) (hD : BufD w L D) (hk : ∀ x ∈ L, 0 ≤ x.1 ∧ x.1 < 258) (hl : L.length ≤ 1000) :
    Calls Tryz.prog 133 #[.pointer (some ⟨M, 0, none⟩)] w fun e w' => ∃ v, e = .returned v ∧ Chg [] w w' ∧ TxOne w' w.heap.size v k (putsL L D) := by
  have m3 : w.cell? ⟨M, 3, none⟩ = some (.slice (some ⟨gq, 0, none⟩) 1 cq) := cell_is hM 3 rfl
  have m2 : w.cell? ⟨M, 2, none⟩ = some (.map (some r)) := cell_is hM 2 rfl
  have t1 : w.cell? ⟨T, 1, none⟩ = some (.int .i64 k) := cell_is hT 1 rfl
  have t4 : w.cell? ⟨T, 4, none⟩ = some (.pointer (some ⟨W, 0, none⟩)) := cell_is hT 4 rfl
  have hlook : (Instr.lookup 193 (.map (some r)) (.int .i64 h) false).run Tryz.prog w = .ok (.pointer (some ⟨T, 0, none⟩)) w := by
    have := lookup178 hr h false
    rw [hg] at this
    exact this
  have kd : Chg [] w w.drew := (Chg.refl [] w).drew
  have HP := Lib.hid (bputs_any w.drew (hb.keep kd (by simp) (by simp)) (hD.keep kd) hk hl)
  have t1d : w.drew.cell? ⟨T, 1, none⟩ = some (.int .i64 k) := t1
  have t4d : w.drew.cell? ⟨T, 4, none⟩ = some (.pointer (some ⟨W, 0, none⟩)) := t4
  clear hM hr hg hT hb hD hk
  go_enter Tryz.func133, Tryz.ntmps133
  go_wp2_with fail
  go_loopw [2, 4, 5, 11] (fun v _ _ i wr => (i = .int .i64 0 ∧ w = wr ∧ v = .slice none 0 0) ∨ (i = .int .i64 1 ∧ Chg [] w wr ∧ TxOne wr w.heap.size v k (putsL L D))) (fun _ _ _ i _ => 1 - (intOf i).toNat)
  case atStart => exact Or.inl ⟨rfl, rfl, rfl⟩
  case round =>
    rcases hrel with ⟨rfl, rfl, rfl⟩ | ⟨rfl, kr, hv⟩
    · go_wp2_with fail
      go_region_law
        (first
          | (go_simp; go_at_call 186; refine HP.out.mono ?_; rintro e w6 ⟨pv, rfl, k6, hp6⟩; obtain ⟨pb, cb, rfl, hcb⟩ := own_form hp6.choose_spec.1; have t16 := k6.cell t1d (by simp); have kA : Chg [] w (w6.alloc (.cells #[.int .i64 k, (.slice pb (putsL L D).length cb)] 185)) := (kd.then k6).then_alloc _; have y0 := heap_new w6 (.cells #[.int .i64 k, (.slice pb (putsL L D).length cb)] 185); have hp7 := hp6.keep0 (Chg.alloc (S := []) w6 (.cells #[.int .i64 k, (.slice pb (putsL L D).length cb)] 185)))
          | (refine step_append_tx rfl (.tmp 21) (.tmp 32) rfl w6.heap.size 1 _ _ rfl rfl (cell_is y0 0 rfl) (cell_is y0 1 rfl) ⟨rfl, rfl⟩ ?_; intro g5 cp5 w5 o5 k5))
      all_goals
        have HF := Lib.hid (show Chg [] w w5 ∧ TxOne w5 w.heap.size (.slice (some ⟨g5, 0, none⟩) 1 cp5) k (putsL L D) from by
          refine ⟨kA.then k5, tx_of_own o5 kA.size ?_⟩
          obtain ⟨xs, ho, hx⟩ := hp7.keep0 k5
          exact ⟨xs, own_base ho (kd.size), hx⟩)
        clear kA y0 hp6 hp7 o5 k5 k6
        go_wp2_with fail
        go_roundw
        case rel => exact Or.inr ⟨rfl, HF.out⟩
        case measure => decide
    · go_wp2_with fail
      go_ret
      exact ⟨_, rfl, kr, hv⟩
end Go.Proofs.YtelakcjbknbehaaGreat
namespace Go.Proofs.YtelakcjbknbehaaGreat
open Go.RowKit Go.Lib

theorem TxOne.keepA {w w' : World} {T : List Nat} {lo : Nat} {v : Value} {k : Int} {l : List (Int × List UInt8)} (h : TxOne w lo v k l) (hc : Chg T w w') (hT : Av w T [185, 50, 5]) : TxOne w' lo v k l := by
  obtain ⟨g, c, cs, pv, h1, h2, h3, h4, h5, h6, h7⟩ := h
  refine ⟨g, c, cs, pv, h1, h2, h3, hc.heap h4 (hT.ne h4 (by simp)), h5, h6, h7.keep hc (fun x hx cs t fr hh ht => hT x hx cs t fr hh (by simp at ht; simp [ht])) (fun g hg => ?_)⟩
  obtain ⟨_, cs, hb⟩ := h7.block g hg
  exact hT.ne hb (by simp)
theorem TxOne.low {w : World} {lo lo' : Nat} {v : Value} {k : Int} {l : List (Int × List UInt8)} (h : TxOne w lo v k l) (hl : lo' ≤ lo) : TxOne w lo' v k l := by
  obtain ⟨g, c, cs, pv, h1, h2, h3, h4, h5, h6, xs, ho, hx⟩ := h
  exact ⟨g, c, cs, pv, h1, h2, by omega, h4, h5, h6, xs, own_base ho hl, hx⟩
/-- .. opened: the cells of a transaction's part. -/
theorem TxOne.open_ {w : World} {lo : Nat} {v : Value} {k : Int} {l : List (Int × List UInt8)} (h : TxOne w lo v k l) : ∃ g c pb cb, v = .slice (some ⟨g, 0, none⟩) 1 c ∧ 1 ≤ c ∧ lo ≤ g ∧ g < w.heap.size ∧ w.cell? ⟨g, 0, none⟩ = some (.int .i64 k) ∧ w.cell? ⟨g, 1, none⟩ = some (.slice pb l.length cb) ∧ l.length ≤ cb ∧ PutsAt w lo (.slice pb l.length cb) l := by
  obtain ⟨g, c, cs, pv, h1, h2, h3, h4, h5, h6, h7⟩ := h
  obtain ⟨pb, cb, rfl, hcb⟩ := own_form h7.choose_spec.1
  exact ⟨g, c, pb, cb, h1, h2, h3, heap_lt h4, cell_is h4 0 h5, cell_is h4 1 h6, hcb, h7⟩
set_option maxRecDepth 100000 in
set_option maxHeartbeats 1000000 in
theorem form_one (w : World) {lo : Nat} {v : Value} {k : Int} {l : List (Int × List UInt8)} (h : TxOne w lo v k l) (hl : l.length ≤ 32) : Calls Tryz.prog 134 #[v] w fun e w' => e = .returned (.int .i64 1) ∧ Chg [] w w' := by
  obtain ⟨g, c, pb, cb, rfl, -, -, -, c0, c1, hcb, -⟩ := h.open_
  clear h
  go_enter Tryz.func134, Tryz.ntmps134
  go_wp2_with fail
  go_loopw [2, 3, 5, 8] (fun n p _ i wr => (i = .int .i64 0 ∧ n = .int .i64 0 ∧ p = .int .i64 0 ∧ wr = w) ∨ (i = .int .i64 1 ∧ n = .int .i64 1 ∧ Chg [] w wr)) (fun _ _ _ i _ => 1 - (intOf i).toNat)
  case atStart => exact Or.inl ⟨rfl, rfl, rfl, rfl⟩
  case round =>
    rcases hrel with ⟨rfl, rfl, rfl, rfl⟩ | ⟨rfl, rfl, kr⟩
    · have ka : Chg [] wr (wr.alloc (.cells #[.int .i64 k, .slice pb l.length cb] 185)) := Chg.alloc wr _
      go_wp2_with fail
      go_roundw
      case rel => exact Or.inr ⟨rfl, rfl, ka⟩
      case measure => decide
    · go_wp2_with fail
      go_ret
      exact ⟨rfl, kr⟩
set_option maxRecDepth 100000 in
set_option maxHeartbeats 4000000 in
theorem tbatch_one (w : World) {M X B r cq gq : Nat} {num bas last given k : Int} {rd : Bool} {l : List (Int × List UInt8)} (hM : MgrG w M X B r (.slice (some ⟨gq, 0, none⟩) 1 cq) 0 num bas last given rd) (hl : l.length ≤ 32) (hn0 : 0 ≤ num) (hn1 : num ≤ 1000000000000)
    (hW : ∀ w1, Chg [] w w1 → Calls Tryz.prog 133 #[.pointer (some ⟨M, 0, none⟩)] w1 fun e w' => ∃ v, e = .returned v ∧ Chg [] w1 w' ∧ TxOne w' w1.heap.size v k l) :
    Calls Tryz.prog 61 #[.pointer (some ⟨M, 0, none⟩)] w fun e w' => ∃ g c, e = .returned (.tuple #[.agg #[.int .i64 (num + 1), .slice (some ⟨g, 0, none⟩) 1 c], .int .i64 0]) ∧ Chg [M] w w' ∧ MgrG w' M X B r (.slice (some ⟨gq, 0, none⟩) 1 cq) 1 num bas last given rd ∧ TxOne w' w.heap.size (.slice (some ⟨g, 0, none⟩) 1 c) k l := by
  have k0 : Chg [] w (w.alloc (.cells #[.int .i64 0, .slice none 0 0] 108)) := Chg.alloc w _
  have K0 := heap_new w (.cells #[.int .i64 0, .slice none 0 0] 108)
  have hM0 := k0.heap hM (by simp)
  have HW := Lib.hid (hW _ k0)
  have m0 : (w.alloc (.cells #[.int .i64 0, .slice none 0 0] 108)).cell? ⟨M, 0, none⟩ = some (.pointer (some ⟨X, 0, none⟩)) := cell_is hM0 0 rfl
  have m4 : (w.alloc (.cells #[.int .i64 0, .slice none 0 0] 108)).cell? ⟨M, 4, none⟩ = some (.int .i64 0) := cell_is hM0 4 rfl
  have m3 : (w.alloc (.cells #[.int .i64 0, .slice none 0 0] 108)).cell? ⟨M, 3, none⟩ = some (.slice (some ⟨gq, 0, none⟩) 1 cq) := cell_is hM0 3 rfl
  have hgone : ∀ w1 : World, w1.cell? ⟨M, 0, none⟩ = some (.pointer (some ⟨X, 0, none⟩)) → Calls Tryz.prog 113 #[.pointer (some ⟨M, 0, none⟩)] w1 fun e w' => e = .returned (.bool false) ∧ w1 = w' := by
    intro w1 c0
    clear hW HW hM hM0 m0 m4 m3 K0
    go_enter Tryz.func113, Tryz.ntmps113
    go_wp2_with fail
    go_ret
    exact ⟨rfl, rfl⟩
  have HG := Lib.hid (hgone _ m0)
  clear hW hM hgone
  go_enter Tryz.func61, Tryz.ntmps61
  go_wp2_with fail
  generalize w.alloc (.cells #[.int .i64 0, .slice none 0 0] 108) = w1 at *
  generalize hR : w.heap.size = R at *
  refine HG.out.mono ?_
  rintro e w2 ⟨rfl, rfl⟩
  go_wp2_with fail
  refine HW.out.mono ?_
  rintro e w2 ⟨v, rfl, k2, ht⟩
  have hM2 := k2.heap hM0 (by simp)
  have K2 := k2.heap K0 (by simp)
  have HF := Lib.hid (form_one w2 ht hl)
  have kk2 := k0.then k2
  obtain ⟨g, c, pb, cb, rfl, hc1, hlo, -, -, -, -, -⟩ := ht.open_
  have HT := Lib.hid ht
  clear m0 m4 m3 ht hM0 K0 HG HW
  go_wp2_with fail
  refine HF.out.mono ?_
  rintro e w3 ⟨rfl, k3⟩
  have hM3 := k3.heap hM2 (by simp)
  have K3 := k3.heap K2 (by simp)
  have HT3 := Lib.hid (HT.out.keep k3)
  have kk3 := kk2.then k3
  have m4 : w3.cell? ⟨M, 4, none⟩ = some (.int .i64 0) := cell_is hM3 4 rfl
  have f4 := unfrozen hM3 4
  clear hM2 K2 HF HT k3 kk2
  have hMR : M ≠ R := heap_ne hM3 K3 (by simp)
  have kS := Chg.set w3 M 4 (.int .i64 1)
  have hM4 : MgrG (w3.setCell ⟨M, 4, none⟩ (.int .i64 1)) M X B r (.slice (some ⟨gq, 0, none⟩) 1 cq) 1 num bas last given rd := heap_set hM3 4 _ rfl
  have K4 := heap_set_ne K3 hMR.symm 4 (.int .i64 1)
  have HT4 := Lib.hid (HT3.out.keepA kS (Av.row hM3 (by decide)))
  have kk4 : Chg [M] w (w3.setCell ⟨M, 4, none⟩ (.int .i64 1)) := (kk3.mono (fun x hx _ => by cases hx)).then kS
  go_upto_region 9 with fail
  clear kk3 K3 hM3 HT3 m4 f4 kS
  generalize w3.setCell ⟨M, 4, none⟩ (.int .i64 1) = w4 at *
  have n5 : w4.drew.cell? ⟨M, 5, none⟩ = some (.int .i64 num) := cell_is hM4 5 rfl
  have n4 : w4.drew.cell? ⟨M, 4, none⟩ = some (.int .i64 1) := cell_is hM4 4 rfl
  have r0 : w4.drew.cell? ⟨R, 0, none⟩ = some (.int .i64 0) := cell_is K4 0 rfl
  have r1 : w4.drew.cell? ⟨R, 1, none⟩ = some (.slice none 0 0) := cell_is K4 1 rfl
  have z0 : w4.drew.frozen? ⟨R, 0, none⟩ = false := unfrozen K4 0
  have z1 : w4.drew.frozen? ⟨R, 1, none⟩ = false := unfrozen K4 1
  have r0' : w4.cell? ⟨R, 0, none⟩ = some (.int .i64 0) := r0
  have r1' : w4.cell? ⟨R, 1, none⟩ = some (.slice none 0 0) := r1
  have z0' : w4.frozen? ⟨R, 0, none⟩ = false := z0
  have z1' : w4.frozen? ⟨R, 1, none⟩ = false := z1
  have hcl : (1 : Int) ≤ c := by omega
  have hnw : IntKind.i64.wrap (num + 1) = num + 1 := by rw [IntKind.wrap_i64]; omega
  have kR : ∀ a b, Chg [R] w4 ((w4.setCell ⟨R, 0, none⟩ a).setCell ⟨R, 1, none⟩ b).drew := fun a b => (((Chg.refl [R] w4).then_set (fun _ => by simp) 0 a).then_set (fun _ => by simp) 1 b).drew
  have fR : ∀ a b, ((w4.setCell ⟨R, 0, none⟩ a).setCell ⟨R, 1, none⟩ b).drew.cell? ⟨M, 5, none⟩ = some (.int .i64 num) ∧ ((w4.setCell ⟨R, 0, none⟩ a).setCell ⟨R, 1, none⟩ b).drew.cell? ⟨M, 4, none⟩ = some (.int .i64 1) := fun a b => ⟨(kR a b).cell n5 (by simpa using hMR), (kR a b).cell n4 (by simpa using hMR)⟩
  go_region_held3 (fun wx => wx.cell? ⟨M, 5, none⟩ = some (.int .i64 num) ∧ wx.cell? ⟨M, 4, none⟩ = some (.int .i64 1))
    (first | (with_reducible exact ⟨n5, n4⟩) | (with_reducible exact fR _ _))
    (first | (fail))
  all_goals
    have kF := kR (.int .i64 (num + 1)) (.slice (some ⟨g, 0, none⟩) 1 c)
    have K6 : ((w4.setCell ⟨R, 0, none⟩ (.int .i64 (num + 1))).setCell ⟨R, 1, none⟩ (.slice (some ⟨g, 0, none⟩) 1 c)).drew.heap[R]? = some (.cells #[.int .i64 (num + 1), .slice (some ⟨g, 0, none⟩) 1 c] 108 (0, 0)) := heap_set (heap_set K4 0 _ rfl) 1 _ rfl
    have hM6 := kF.heap hM4 (by simpa using hMR)
    have HT6 := Lib.hid (HT4.out.keepA kF (Av.row K4 (by decide)))
    have kk6 : Chg [M] w ((w4.setCell ⟨R, 0, none⟩ (.int .i64 (num + 1))).setCell ⟨R, 1, none⟩ (.slice (some ⟨g, 0, none⟩) 1 c)).drew := kk4.trans kF (fun x hx hlt => by rw [List.mem_singleton] at hx; omega)
    have c0 : ((w4.setCell ⟨R, 0, none⟩ (.int .i64 (num + 1))).setCell ⟨R, 1, none⟩ (.slice (some ⟨g, 0, none⟩) 1 c)).drew.cell? ⟨R, 0, none⟩ = some (.int .i64 (num + 1)) := cell_is K6 0 rfl
    have c1 : ((w4.setCell ⟨R, 0, none⟩ (.int .i64 (num + 1))).setCell ⟨R, 1, none⟩ (.slice (some ⟨g, 0, none⟩) 1 c)).drew.cell? ⟨R, 1, none⟩ = some (.slice (some ⟨g, 0, none⟩) 1 c) := cell_is K6 1 rfl
    clear kR fR HT4 r0 r1 z0 z1 r0' r1' z0' z1' n5 n4 K4
    go_wp2_with fail
    refine bodyPost_ret (v := .tuple #[.agg #[.int .i64 (num + 1), .slice (some ⟨g, 0, none⟩) 1 c], .int .i64 0]) (by simp [results, Tryz.results61, go_sem, c0, c1]) rfl ?_
    exact ⟨g, c, rfl, kk6, hM6, HT6.out.low (by rw [hR]; have := k0.size; omega)⟩
end Go.Proofs.YtelakcjbknbehaaGreat
namespace Go.Proofs.YtelakcjbknbehaaGreat
open Go.RowKit Go.Lib

/-- the numbers of puts rise. -/
def Rise (l : List (Int × List UInt8)) : Prop := ∀ i (h : i + 1 < l.length), l[i].1 < l[i + 1].1
set_option maxRecDepth 100000 in
set_option maxHeartbeats 4000000 in
theorem order_one (w : World) {lo : Nat} {v : Value} {k : Int} {l : List (Int × List UInt8)} (h : TxOne w lo v k l) (hk0 : 1 ≤ k) (hk1 : k ≤ 1099511627776) (hl0 : 0 < l.length) (hl : l.length ≤ 1000) (hr : Rise l) : Calls Tryz.prog 233 #[v] w fun e w' => e = .returned (.bool true) ∧ Chg [] w w' := by
  obtain ⟨g, c, pb, cb, rfl, -, -, -, c0, c1, hcb, hp⟩ := h.open_
  have HP := Lib.hid hp
  have HR := Lib.hid hr
  have n0 : decide (k ≤ 0) = false := decide_eq_false (by omega)
  have n1 : decide (1099511627776 < k) = false := decide_eq_false (by omega)
  have n2 : ((l.length : Int) == 0) = false := beq_eq_false_iff_ne.2 (by omega)
  have hcbi : (l.length : Int) ≤ cb := by omega
  clear h hp hr
  go_enter Tryz.func233, Tryz.ntmps233
  go_wp2_with fail
  go_loopw [3, 5, 6, 9] (fun s _ _ i wr => (i = .int .i64 0 ∧ s = .int .i64 0 ∧ wr = w) ∨ (i = .int .i64 1 ∧ Chg [] w wr)) (fun _ _ _ i _ => 1 - (intOf i).toNat)
  case atStart => exact Or.inl ⟨rfl, rfl, rfl⟩
  case round =>
    rcases hrel with ⟨rfl, rfl, rfl⟩ | ⟨rfl, kr⟩
    · have ka : Chg [] wr (wr.alloc (.cells #[.int .i64 k, .slice pb l.length cb] 185)) := Chg.alloc wr _
      have A0 := heap_new wr (.cells #[.int .i64 k, .slice pb l.length cb] 185)
      go_wp2_with fail
      generalize hzz : wr.heap.size = z at *
      generalize wr.alloc (.cells #[.int .i64 k, .slice pb l.length cb] 185) = w2 at *
      go_loopw [6] (fun i wz => ∃ j : Nat, 1 ≤ j ∧ j ≤ l.length ∧ i = .int .i64 j ∧ Chg [] w2 wz) (fun i _ => l.length - (intOf i).toNat)
      case atStart => exact ⟨1, by omega, by omega, rfl, Chg.refl _ _⟩
      case round =>
        obtain ⟨j, hj1, hj, rfl, kz⟩ := hrel
        rename World => wz
        have b1 : wz.cell? ⟨z, 1, none⟩ = some (.slice pb l.length cb) := cell_is (kz.heap A0 (by simp)) 1 rfl
        by_cases hlt : j < l.length
        · obtain ⟨q, rfl⟩ : ∃ q, j = q + 1 := ⟨j - 1, by omega⟩
          have hP2 := (HP.out.keep0 ka).keep0 kz
          obtain ⟨gp, cap, gd, cd, hv, -, d1, -, -, -, -⟩ := hP2.get (q + 1) hlt
          obtain ⟨gp', cap', gd', cd', hv', -, d0, -, -, -, -⟩ := hP2.get q (by omega)
          cases hv
          cases hv'
          have hlt2 := HR.out q hlt
          have hnle : decide ((l[q + 1]).1 ≤ (l[q]'(by omega)).1) = false := decide_eq_false (by omega)
          have hwq : IntKind.i64.wrap (((q + 1 : Nat) : Int) - 1) = q := by rw [IntKind.wrap_i64]; omega
          have hqi : (q : Int) < l.length := by omega
          have hqi2 : ((q + 1 : Nat) : Int) < l.length := by omega
          clear hP2 HP HR hlt2
          generalize (l[q + 1]).1 = x at *
          generalize (l[q]'(by omega)).1 = y at *
          go_wp2_with fail
          go_quiet (fail)
          go_wp2_with fail
          exact ⟨⟨q + 2, by omega, by omega, by go_num, kz.drewN nq⟩, by simp [intOf]; omega⟩
        · obtain rfl : j = l.length := by omega
          go_wp2_with fail
          exact ⟨Or.inr ⟨rfl, ka.then kz⟩, by decide⟩
    · go_wp2_with fail
      go_ret
      exact ⟨rfl, kr⟩
set_option maxRecDepth 100000 in
set_option maxHeartbeats 1000000 in
theorem blocks_one (w : World) {lo : Nat} {v : Value} {k num : Int} {l : List (Int × List UInt8)} (h : TxOne w lo v k l) (hl : l.length ≤ 1000) : Calls Tryz.prog 234 #[.agg #[.int .i64 num, v]] w fun e w' => e = .returned (.int .i64 ((1 + l.length : Nat) : Int)) ∧ Chg [] w w' := by
  have k0 : Chg [] w (w.alloc (.cells #[.int .i64 num, v] 108)) := Chg.alloc w _
  have K0 := heap_new w (.cells #[.int .i64 num, v] 108)
  obtain ⟨g, c, pb, cb, rfl, -, -, -, c0, c1, hcb, -⟩ := (h.keep k0).open_
  have b1 : (w.alloc (.cells #[.int .i64 num, .slice (some ⟨g, 0, none⟩) 1 c] 108)).cell? ⟨w.heap.size, 1, none⟩ = some (.slice (some ⟨g, 0, none⟩) 1 c) := cell_is K0 1 rfl
  clear h K0
  go_enter Tryz.func234, Tryz.ntmps234
  go_wp2_with fail
  generalize w.alloc (.cells #[.int .i64 num, .slice (some ⟨g, 0, none⟩) 1 c] 108) = w1 at *
  go_loopw [3, 5, 9] (fun n _ i wr => (i = .int .i64 0 ∧ n = .int .i64 1 ∧ wr = w1) ∨ (i = .int .i64 1 ∧ n = .int .i64 ((1 + l.length : Nat) : Int) ∧ Chg [] w1 wr)) (fun _ _ i _ => 1 - (intOf i).toNat)
  case atStart => exact Or.inl ⟨rfl, rfl, rfl⟩
  case round =>
    rcases hrel with ⟨rfl, rfl, rfl⟩ | ⟨rfl, rfl, kr⟩
    · have ka : Chg [] wr (wr.alloc (.cells #[.int .i64 k, .slice pb l.length cb] 185)) := Chg.alloc wr _
      go_wp2_with fail
      go_roundw
      case rel => exact Or.inr ⟨rfl, by go_num, ka⟩
      case measure => decide
    · go_wp2_with fail
      go_ret
      exact ⟨rfl, k0.then kr⟩
set_option maxRecDepth 100000 in
theorem bput_ok (w : World) {b : Int} {pd : Option Addr} {cd : Nat} (h0 : 0 ≤ b) (h1 : b < 258) : Calls Tryz.prog 236 #[.agg #[.int .i64 b, .slice pd 40 cd]] w fun e w' => e = .returned (.bool true) ∧ Chg [] w w' := by
  have kc : Chg [] w (w.alloc (.cells #[.int .i64 b, .slice pd 40 cd] 50)) := Chg.alloc w _
  have n0 : decide (0 ≤ b) = true := decide_eq_true h0
  have n1 : decide (b ≤ 1048576) = true := decide_eq_true (by omega)
  go_enter Tryz.func236, Tryz.ntmps236
  go_wp2_with fail
  go_ret
  exact ⟨rfl, kc⟩
set_option maxRecDepth 100000 in
theorem bcheck1_ok (w : World) {b : Int} {pd : Option Addr} {cd : Nat} (h0 : 0 ≤ b) (h1 : b < 258) : Calls Tryz.prog 235 #[.agg #[.int .i64 b, .slice pd 40 cd]] w fun e w' => e = .returned (.bool false) ∧ Chg [] w w' := by
  have kc : Chg [] w (w.alloc (.cells #[.int .i64 b, .slice pd 40 cd] 50)) := Chg.alloc w _
  go_enter Tryz.func235, Tryz.ntmps235
  go_wp2_with fail
  refine (bput_ok _ h0 h1).mono ?_
  rintro e w2 ⟨rfl, k2⟩
  go_wp2_with fail
  go_ret
  exact ⟨rfl, kc.then k2⟩
set_option maxRecDepth 100000 in
theorem apply1_ok (w : World) {b : Int} {pd : Option Addr} {cd : Nat} : Calls Tryz.prog 199 #[.agg #[.int .i64 b, .slice pd 40 cd]] w fun e w' => e = .returned (.bool false) ∧ Chg [] w w' := by
  have kc : Chg [] w (w.alloc (.cells #[.int .i64 b, .slice pd 40 cd] 50)) := Chg.alloc w _
  go_enter Tryz.func199, Tryz.ntmps199
  go_wp2_with fail
  go_ret
  exact ⟨rfl, kc⟩
set_option maxRecDepth 100000 in
set_option maxHeartbeats 1000000 in
/-- IndexFunc over puts, by a function that says no. -/
theorem idxputs_200 (w : World) {lo cb : Nat} {pb : Option Addr} {l : List (Int × List UInt8)} (hp : PutsAt w lo (.slice pb l.length cb) l) (hk : ∀ x ∈ l, 0 ≤ x.1 ∧ x.1 < 258) (hl : l.length ≤ 1000) : Calls Tryz.prog 223 #[.slice pb l.length cb, .func (.func 235) #[] #[]] w fun e w' => e = .returned (.int .i64 (-1)) ∧ Chg [] w w' := by
  have hG : ∀ (w1 : World) (b : Int) (pd : Option Addr) (cd : Nat), 0 ≤ b → b < 258 → Calls Tryz.prog 235 #[.agg #[.int .i64 b, .slice pd 40 cd]] w1 fun e w' => e = .returned (.bool false) ∧ Chg [] w1 w' := fun w1 b pd cd h0 h1 => bcheck1_ok w1 h0 h1
  have HG := Lib.hid hG
  have HP := Lib.hid hp
  have HK := Lib.hid hk
  have hcb : l.length ≤ cb := by obtain ⟨pa, c, e, h⟩ := own_form hp.choose_spec.1; cases e; exact h
  clear hG hp hk
  go_enter Tryz.func223, Tryz.ntmps223
  go_wp2_with fail
  go_loopw [5, 8] (fun _ i wr => ∃ j : Nat, j ≤ l.length ∧ i = .int .i64 j ∧ Chg [] w wr) (fun _ i _ => l.length - (intOf i).toNat)
  case atStart => exact ⟨0, by omega, rfl, Chg.refl _ _⟩
  case round =>
    obtain ⟨j, hj, rfl, kr⟩ := hrel
    by_cases hlt : j < l.length
    · obtain ⟨g, cap, gd, cd, hv, -, d0, d1, -, -, -⟩ := (HP.out.keep0 kr).get j hlt
      cases hv
      have hb := HK.out l[j] (List.getElem_mem hlt)
      have HB := Lib.hid (HG.out wr l[j].1 (some ⟨gd, 0, none⟩) cd hb.1 hb.2)
      clear hb
      generalize (l[j]).1 = x at *
      go_wp2_with fail
      refine HB.out.mono ?_
      rintro e w2 ⟨rfl, k2⟩
      go_wp2_with fail
      go_roundw
      case rel => exact ⟨j + 1, by omega, by simp, kr.then k2⟩
      case measure => simp [intOf]; omega
    · obtain rfl : j = l.length := by omega
      go_wp2_with fail
      go_ret
      exact ⟨rfl, kr⟩
set_option maxRecDepth 100000 in
theorem contputs_200 (w : World) {lo cb : Nat} {pb : Option Addr} {l : List (Int × List UInt8)} (hp : PutsAt w lo (.slice pb l.length cb) l) (hk : ∀ x ∈ l, 0 ≤ x.1 ∧ x.1 < 258) (hl : l.length ≤ 1000) : Calls Tryz.prog 182 #[.slice pb l.length cb, .func (.func 235) #[] #[]] w fun e w' => e = .returned (.bool false) ∧ Chg [] w w' := by
  have HI := Lib.hid (idxputs_200 w hp hk hl)
  clear hp hk
  go_enter Tryz.func182, Tryz.ntmps182
  go_wp2_with fail
  refine HI.out.mono ?_
  rintro e w2 ⟨rfl, k⟩
  go_wp2_with fail
  go_ret
  exact ⟨rfl, k⟩
set_option maxRecDepth 100000 in
set_option maxHeartbeats 1000000 in
/-- IndexFunc over puts, by a function that says no. -/
theorem idxputs_164 (w : World) {lo cb : Nat} {pb : Option Addr} {l : List (Int × List UInt8)} (hp : PutsAt w lo (.slice pb l.length cb) l) (hk : ∀ x ∈ l, 0 ≤ x.1 ∧ x.1 < 258) (hl : l.length ≤ 1000) : Calls Tryz.prog 223 #[.slice pb l.length cb, .func (.func 199) #[] #[]] w fun e w' => e = .returned (.int .i64 (-1)) ∧ Chg [] w w' := by
  have hG : ∀ (w1 : World) (b : Int) (pd : Option Addr) (cd : Nat), 0 ≤ b → b < 258 → Calls Tryz.prog 199 #[.agg #[.int .i64 b, .slice pd 40 cd]] w1 fun e w' => e = .returned (.bool false) ∧ Chg [] w1 w' := fun w1 _ _ _ _ _ => apply1_ok w1
  have HG := Lib.hid hG
  have HP := Lib.hid hp
  have HK := Lib.hid hk
  have hcb : l.length ≤ cb := by obtain ⟨pa, c, e, h⟩ := own_form hp.choose_spec.1; cases e; exact h
  clear hG hp hk
  go_enter Tryz.func223, Tryz.ntmps223
  go_wp2_with fail
  go_loopw [5, 8] (fun _ i wr => ∃ j : Nat, j ≤ l.length ∧ i = .int .i64 j ∧ Chg [] w wr) (fun _ i _ => l.length - (intOf i).toNat)
  case atStart => exact ⟨0, by omega, rfl, Chg.refl _ _⟩
  case round =>
    obtain ⟨j, hj, rfl, kr⟩ := hrel
    by_cases hlt : j < l.length
    · obtain ⟨g, cap, gd, cd, hv, -, d0, d1, -, -, -⟩ := (HP.out.keep0 kr).get j hlt
      cases hv
      have hb := HK.out l[j] (List.getElem_mem hlt)
      have HB := Lib.hid (HG.out wr l[j].1 (some ⟨gd, 0, none⟩) cd hb.1 hb.2)
      clear hb
      generalize (l[j]).1 = x at *
      go_wp2_with fail
      refine HB.out.mono ?_
      rintro e w2 ⟨rfl, k2⟩
      go_wp2_with fail
      go_roundw
      case rel => exact ⟨j + 1, by omega, by simp, kr.then k2⟩
      case measure => simp [intOf]; omega
    · obtain rfl : j = l.length := by omega
      go_wp2_with fail
      go_ret
      exact ⟨rfl, kr⟩
set_option maxRecDepth 100000 in
theorem contputs_164 (w : World) {lo cb : Nat} {pb : Option Addr} {l : List (Int × List UInt8)} (hp : PutsAt w lo (.slice pb l.length cb) l) (hk : ∀ x ∈ l, 0 ≤ x.1 ∧ x.1 < 258) (hl : l.length ≤ 1000) : Calls Tryz.prog 182 #[.slice pb l.length cb, .func (.func 199) #[] #[]] w fun e w' => e = .returned (.bool false) ∧ Chg [] w w' := by
  have HI := Lib.hid (idxputs_164 w hp hk hl)
  clear hp hk
  go_enter Tryz.func182, Tryz.ntmps182
  go_wp2_with fail
  refine HI.out.mono ?_
  rintro e w2 ⟨rfl, k⟩
  go_wp2_with fail
  go_ret
  exact ⟨rfl, k⟩
end Go.Proofs.YtelakcjbknbehaaGreat
namespace Go.Proofs.YtelakcjbknbehaaGreat
open Go.RowKit Go.Lib

theorem still_of_quiet {P : Program} {ops : Array Oper} {w : World} {Q : Act → Prop} : ∀ (l : List Oper) (a : Act), wpQuiet P ops (fun w' => w' = w) Q l a → wpStill P ops w Q l a
  | [], _, h => h
  | o :: l, a, h => by
    unfold wpQuiet at h
    unfold wpStill
    by_cases hw : Region.wanted o (yielded ops a.tmps) = true
    · rw [if_pos hw] at h ⊢
      obtain ⟨v, h1, h2⟩ := h
      have h3 := h1 w rfl
      unfold Oper.quietAt at h3
      unfold Oper.still
      generalize (execOp a.eval o).run P w = r at h3
      unfold Oper.quietUpon at h3
      unfold Oper.stillUpon
      split at h3
      · obtain ⟨rfl, rfl⟩ := h3; exact ⟨rfl, still_of_quiet l _ h2⟩
      · obtain ⟨rfl, rfl⟩ := h3; exact ⟨rfl, still_of_quiet l _ h2⟩
      · obtain ⟨rfl, h4⟩ := h3; exact ⟨rfl, v, h4, still_of_quiet l _ h2⟩
      · exact h3.elim
    · rw [if_neg hw] at h ⊢
      exact still_of_quiet l _ h
/-- a region that draws: operations that only read, guarded or not, then a tail in one order. -/
theorem region_tail {P : Program} {id : Nat} {Q : Exit → Act → World → Prop} {a : Act} {w : World} {l : List Oper} (n : Nat) (hm : P.follows .mixedOrders = true) (hB : Region.lexTailB .any l.toArray n = true)
    (h : wpQuiet P l.toArray (fun w' => w' = w.drew) (fun a' => wpList P l.toArray Q (l.drop n) a' w.drew) (l.take n) a) : (Code.region id l.toArray true).wp P Q a w :=
  wp_region_still_tail n hm hB (still_of_quiet _ _ h)

set_option maxRecDepth 100000 in
set_option maxHeartbeats 4000000 in
theorem bcheck_one (w : World) {lo : Nat} {v : Value} {k num : Int} {l : List (Int × List UInt8)} (h : TxOne w lo v k l) (hn0 : 1 ≤ num) (hn1 : num ≤ 1099511627776) (hk0 : 1 ≤ k) (hk1 : k ≤ 1099511627776) (hl0 : 0 < l.length) (hl : l.length ≤ 16) (hr : Rise l) (hk : ∀ x ∈ l, 0 ≤ x.1 ∧ x.1 < 258) :
    Calls Tryz.prog 195 #[.agg #[.int .i64 num, v]] w fun e w' => e = .returned (.int .i64 0) ∧ Chg [] w w' := by
  have k0 : Chg [] w (w.alloc (.cells #[.int .i64 num, v] 108)) := Chg.alloc w _
  have K0 := heap_new w (.cells #[.int .i64 num, v] 108)
  have h1 := h.keep k0
  obtain ⟨g, c, pb, cb, rfl, hc1, -, -, c0, c1, hcb, hp⟩ := h1.open_
  have b0 : (w.alloc (.cells #[.int .i64 num, .slice (some ⟨g, 0, none⟩) 1 c] 108)).cell? ⟨w.heap.size, 0, none⟩ = some (.int .i64 num) := cell_is K0 0 rfl
  have b1 : (w.alloc (.cells #[.int .i64 num, .slice (some ⟨g, 0, none⟩) 1 c] 108)).cell? ⟨w.heap.size, 1, none⟩ = some (.slice (some ⟨g, 0, none⟩) 1 c) := cell_is K0 1 rfl
  have n0 : decide (num < 1) = false := decide_eq_false (by omega)
  have n1 : decide (1099511627776 < num) = false := decide_eq_false (by omega)
  have n2 : decide (16 < (l.length : Int)) = false := decide_eq_false (by omega)
  have n3 : decide (33 < ((1 + l.length : Nat) : Int)) = false := decide_eq_false (by omega)
  have n3' : decide (33 < 1 + (l.length : Int)) = false := decide_eq_false (by omega)
  have HO := Lib.hid (order_one _ h1 hk0 hk1 hl0 (by omega) hr)
  have HB := Lib.hid (fun w1 (kk : Chg [] (w.alloc (.cells #[.int .i64 num, .slice (some ⟨g, 0, none⟩) 1 c] 108)) w1) => blocks_one w1 (num := num) (h1.keep kk) (by omega))
  have HC := Lib.hid (fun w1 (kk : Chg [] (w.alloc (.cells #[.int .i64 num, .slice (some ⟨g, 0, none⟩) 1 c] 108)) w1) => contputs_200 w1 (hp.keep0 kk) hk (by omega))
  clear h h1 hp hr hk
  go_enter Tryz.func195, Tryz.ntmps195
  go_wp2_with fail
  generalize w.alloc (.cells #[.int .i64 num, .slice (some ⟨g, 0, none⟩) 1 c] 108) = w1 at *
  generalize hz : w.heap.size = z at *
  refine HO.out.mono ?_
  rintro e w2 ⟨rfl, k2⟩
  have b02 := k2.cell b0 (by simp)
  have b12 := k2.cell b1 (by simp)
  go_wp2_with fail
  refine (HB.out w2 k2).mono ?_
  rintro e w3 ⟨rfl, k3⟩
  have k23 := k2.then k3
  have b13 := k23.cell b1 (by simp)
  have c03 := k23.cell c0 (by simp)
  have c13 := k23.cell c1 (by simp)
  clear HO HB
  go_wp2_with fail
  go_loopw [3, 4, 39] (fun _ _ i wr => (i = .int .i64 0 ∧ wr = w3) ∨ (i = .int .i64 1 ∧ Chg [] w1 wr)) (fun _ _ i _ => 1 - (intOf i).toNat)
  case atStart => exact Or.inl ⟨rfl, rfl⟩
  case round =>
    rcases hrel with ⟨rfl, rfl⟩ | ⟨rfl, kr⟩
    · have ka : Chg [] wr (wr.alloc (.cells #[.int .i64 k, .slice pb l.length cb] 185)) := Chg.alloc wr _
      have A0 := heap_new wr (.cells #[.int .i64 k, .slice pb l.length cb] 185)
      have HC4 := Lib.hid (HC.out _ ((k23.then ka).drew))
      go_wp2_with fail
      generalize wr.alloc (.cells #[.int .i64 k, .slice pb l.length cb] 185) = w4 at *
      generalize wr.heap.size = z4 at *
      have a1 : w4.cell? ⟨z4, 1, none⟩ = some (.slice pb l.length cb) := cell_is A0 1 rfl
      have a1d : w4.drew.cell? ⟨z4, 1, none⟩ = some (.slice pb l.length cb) := a1
      refine region_tail 24 (by kernel_rfl) (by kernel_rfl) ?_
      simp only [List.take_succ_cons, List.take_zero, List.drop_succ_cons, List.drop_zero]
      repeat (go_big_quiet_step (fail))
      refine wpQuiet_nil ?_
      go_wp2_with fail
      refine HC4.out.mono ?_
      rintro e w6 ⟨rfl, k6⟩
      have kf := ((k23.then ka).drew).then k6
      clear HC4 HC k6
      go_wp2_with fail
      go_roundw
      case rel => exact Or.inr ⟨rfl, kf⟩
      case measure => decide
    · go_wp2_with fail
      go_ret
      exact ⟨rfl, k0.then kr⟩
end Go.Proofs.YtelakcjbknbehaaGreat
namespace Go.Proofs.YtelakcjbknbehaaGreat
open Go.RowKit Go.Lib

/-- the frames of the puts. -/
def datL (e num : Nat) (l : List (Int × List UInt8)) : List (List UInt8) := l.map fun x => encF 1 e num x.1.toNat x.2
/-- what the last frame tells. -/
def bodL (k n : Nat) : List UInt8 := leB k 8 ++ [1, 0, 0, UInt8.ofNat n]
def batL (e num k : Nat) (l : List (Int × List UInt8)) : List (List UInt8) := datL e num l ++ [encF 2 e num l.length (bodL k l.length)]
theorem datL_length (e num : Nat) (l : List (Int × List UInt8)) : (datL e num l).length = l.length := by simp [datL]
theorem batL_length (e num k : Nat) (l : List (Int × List UInt8)) : (batL e num k l).length = l.length + 1 := by simp [batL, datL_length]
theorem own_of_row {w : World} {base e g : Nat} {r : List UInt8} (h : w.heap[g]? = some (.cells (Lib.byteCells r).toArray e (0, 0))) (hb : base ≤ g) (hr : r.length ≤ 1000) {n : Nat} (hn : r.length = n) : w.ownsRow base e 1 (.slice (some ⟨g, 0, none⟩) n n) n (Lib.byteCells r) := by
  subst hn
  exact ⟨by simp [Lib.byteCells], .inr ⟨g, r.length, _, rfl, hb, h, Nat.le_refl _, by unfold maxLen; omega, by simp [Lib.byteCells], by rw [List.take_of_length_le (by simp [Lib.byteCells])]⟩⟩
set_option maxRecDepth 100000 in
theorem put64_own (w : World) (v : Nat) (hv : v < 18446744073709551616) {base : Nat} (hb : base ≤ w.heap.size) : Calls Tryz.prog 127 #[.int .u64 v] w fun e w' => ∃ g, e = .returned (.slice (some ⟨g, 0, none⟩) 8 8) ∧ Chg [] w w' ∧ w'.ownsRow base 5 1 (.slice (some ⟨g, 0, none⟩) 8 8) 8 (Lib.byteCells (leB v 8)) := by
  have HP := Lib.hid (bput_any w v 8 (by omega) hv (fun w => by kernel_rfl))
  go_enter Tryz.func127, Tryz.ntmps127
  go_wp2_with fail
  refine HP.out.mono ?_
  rintro e w' ⟨g, rfl, h1, h2, h3⟩
  rw [rowL_full] at h2
  have h4 := own_of_row h2 (Nat.le_trans hb h3) (by rw [leB_length]; decide) (leB_length _ _)
  clear h2
  go_wp2_with fail
  go_ret
  exact ⟨g, rfl, h1, h4⟩
/-- one byte is put behind an own row, as a step of a region that draws. -/
theorem step_append_u8 {ops : Array Oper} {o : Oper} {a : Act} {w : World} {K : Act → World → Prop} {Q : Exit → Act → World → Prop} {E : Prop} (hgd : o.guard = none) (s x : Operand)
    (ho : o.op = .call { callee := .builtin .append, args := #[s, x], argTypes := #[47, 47] }) (base : Nat) (v : Value) (n : Nat) (xs : List UInt8) (hs : a.eval s = v) (hown : w.ownsRow base 5 1 v n (Lib.byteCells xs)) (b c : Nat) (u : UInt8)
    (hx : a.eval x = .slice (some ⟨b, 0, none⟩) 1 c) (c0 : w.cell? ⟨b, 0, none⟩ = some (.int .u8 u.toNat)) (hn : n ≤ 1000000) (hbase : base ≤ w.heap.size)
    (h : ∀ g cap w', w'.ownsRow base 5 1 (.slice (some ⟨g, 0, none⟩) (n + 1) cap) (n + 1) (Lib.byteCells (xs ++ [u])) → Below base w w' → K (a.put o.dst (.slice (some ⟨g, 0, none⟩) (n + 1) cap)) w') :
    if Region.wanted o (yielded ops a.tmps) = true then Oper.wp Tryz.prog o a w K Q else E := by
  obtain ⟨i, hi0, hz, hz1, hz2⟩ := info_parts inf5c
  refine step_append_lies w hgd s x 47 ho base 5 i _ 1 1 ty23 hi0 hz hz1 hz2 rfl (by decide) v n _ hs hown ⟨b, 0, none⟩ 1 c [.int .u8 u.toNat] hx rfl ?_ ?_ (by decide) (by unfold maxLen; omega) (by omega) hbase _ rfl ?_
  · intro j u' hu
    rw [add_lit, Nat.zero_add]
    match j with
    | 0 => cases hu; exact c0
    | j + 1 => simp at hu
  · intro u' hu
    simp at hu
    rcases hu with rfl
    rfl
  · intro g cap w' h2 h3 h4 _
    refine h g cap w' (by rw [byteCells_app]; exact h2) (below_grown hown h3 hbase)
theorem RowsAt.app {w0 w' : World} {base gb cb n : Nat} {v v' : Value} {l : List (List UInt8)} {b : List UInt8} {xs : List Value} (hx : ∀ i (h : i < l.length), ∃ g c, xs[i]? = some (.slice (some ⟨g, 0, none⟩) 64 c) ∧ Bs w0 (some ⟨g, 0, none⟩) l[i] ∧ l[i].length = 64 ∧ Bt w0 g)
    (hn : l.length = n) (ho : w0.ownsRow base 47 1 v n xs) (ha : AppendedV base 47 1 w0 v (n + 1) (xs ++ [.slice (some ⟨gb, 0, none⟩) 64 cb]) v' w') (hb : Bs w0 (some ⟨gb, 0, none⟩) b) (hb4 : b.length = 64) (hbt : Bt w0 gb) : RowsAt w' base v' (l ++ [b]) := by
  subst hn
  obtain ⟨g, c, rfl⟩ := own_some ha.1 (by omega)
  exact RowsAt.push hx (by have := ho.1; omega) (fun g hg => (own_elem ho hg).2) ha.1 (Chg.own ha.2.2 (fun g hg _ => by simp [hg])) hb hb4 hbt
theorem RowsAt.keep0 {w w' : World} {base : Nat} {v : Value} {l : List (List UInt8)} (h : RowsAt w base v l) (hc : Chg [] w w') : RowsAt w' base v l := h.keep hc (Av.nil _ _) (fun _ _ => by simp)
theorem own_unique {w : World} {base e size n : Nat} {v : Value} {xs ys : List Value} (h : w.ownsRow base e size v n xs) (k : w.ownsRow base e size v n ys) : xs = ys := by
  obtain ⟨h1, h2⟩ := h
  obtain ⟨k1, k2⟩ := k
  rcases h2 with ⟨rfl, h0⟩ | ⟨g, cap, cur, rfl, hb, hg, hc, hm, hz, ht⟩
  · subst h0
    rw [Nat.zero_mul, List.length_eq_zero_iff] at h1 k1
    rw [h1, k1]
  · rcases k2 with ⟨e, _⟩ | ⟨g', cap', cur', e, hb', hg', hc', hm', hz', ht'⟩
    · cases e
    · cases e
      rw [hg] at hg'
      cases hg'
      rw [← ht, ← ht']
/-- none of the rows' bytes lie in the block nb. -/
def Away (w : World) (base : Nat) (v : Value) (n : Nat) (nb : Option Nat) : Prop := ∀ xs, w.ownsRow base 47 1 v n xs → ∀ x ∈ xs, ∀ g c, x = .slice (some ⟨g, 0, none⟩) 64 c → some g ≠ nb
theorem Away.nil (w : World) (base : Nat) (nb : Option Nat) : Away w base (.slice none 0 0) 0 nb := by
  intro xs h x hx
  have := h.1
  rw [Nat.zero_mul, List.length_eq_zero_iff] at this
  subst this
  cases hx
theorem Away.keep {w w' : World} {T : List Nat} {base : Nat} {v : Value} {l : List (List UInt8)} {nb : Option Nat} (h : Away w base v l.length nb) (hr : RowsAt w base v l) (hc : Chg T w w') (hT : Av w T [47]) : Away w' base v l.length nb := by
  intro ys ho
  obtain ⟨xs, hx, -⟩ := hr
  have := own_unique (ownsRow_av hx hc hT) ho
  subst this
  exact h _ hx
theorem Away.app {w0 w' : World} {base gb cb n : Nat} {v v' : Value} {nb : Option Nat} {xs : List Value} (h : Away w0 base v n nb) (ho : w0.ownsRow base 47 1 v n xs) (ha : w'.ownsRow base 47 1 v' (n + 1) (xs ++ [.slice (some ⟨gb, 0, none⟩) 64 cb])) (hb : some gb ≠ nb) : Away w' base v' (n + 1) nb := by
  intro ys hy x hx
  have := own_unique ha hy
  subst this
  rw [List.mem_append, List.mem_singleton] at hx
  rcases hx with hx | rfl
  · exact h _ ho x hx
  · intro g c e
    cases e
    exact hb
theorem RowsAt.base {w : World} {b b' : Nat} {v : Value} {l : List (List UInt8)} (h : RowsAt w b v l) (hb : b' ≤ b) : RowsAt w b' v l := by
  obtain ⟨xs, h1, h2⟩ := h
  exact ⟨xs, own_base h1 hb, h2⟩
theorem Away.base {w : World} {b b' : Nat} {v : Value} {l : List (List UInt8)} {nb : Option Nat} (h : Away w b v l.length nb) (hr : RowsAt w b v l) (hb : b' ≤ b) : Away w b' v l.length nb := by
  intro ys ho
  obtain ⟨xs, hx, -⟩ := hr
  have := own_unique (own_base hx hb) ho
  subst this
  exact h _ hx
/-- bytes are put behind an own row in one block; the rows lie in others. -/
theorem rows_grow {w w' : World} {base z n g : Nat} {v v7 : Value} {l : List (List UInt8)} {bs : List Value} (h : RowsAt w base v l) (hA : Away w base v l.length v7.ownBlock) (ho : w.ownsRow z 5 1 v7 n bs) (hg : w.grownBy w' v7.ownBlock) (hi : v7.ownBlock = some g ∨ g = w.heap.size) :
    RowsAt w' base v l ∧ Away w' base v l.length (some g) := by
  obtain ⟨xs, hx, he⟩ := h
  have hc : Chg v7.ownBlock.toList w w' := Chg.own hg (fun g hg _ => by simp [hg])
  have hT : Av w v7.ownBlock.toList [47] := by
    intro x hx cs t fr hh ht
    have hx' : v7.ownBlock = some x := by simpa using hx
    obtain ⟨-, cur, h5⟩ := own_elem ho hx'
    rw [hh] at h5
    cases h5
    simp at ht
  have hx' := ownsRow_av hx hc hT
  have hmem : ∀ i (hi : i < l.length), ∀ g c, xs[i]? = some (.slice (some ⟨g, 0, none⟩) 64 c) → g ∉ v7.ownBlock.toList := by
    intro i hi g c hxi hm
    have hm' : v7.ownBlock = some g := by simpa using hm
    exact hA _ hx _ (List.mem_of_getElem? hxi) g c rfl hm'.symm
  refine ⟨⟨xs, hx', fun i hil => ?_⟩, fun ys hy x hxm g' c' e => ?_⟩
  · obtain ⟨g1, c1, h1, h2, h3, h4⟩ := he i hil
    have := hmem i hil g1 c1 h1
    exact ⟨g1, c1, h1, h2.chgT hc this, h3, h4.keep hc this⟩
  · have := own_unique hx' hy
    subst this
    subst e
    obtain ⟨i, hil, hxi⟩ := List.mem_iff_getElem?.1 hxm |>.imp fun i hi => (⟨by
      have h1 := hx.1
      rw [Nat.mul_one] at h1
      rw [← h1]
      exact (List.getElem?_eq_some_iff.1 hi).1, hi⟩ : i < l.length ∧ xs[i]? = _)
    obtain ⟨g1, c1, h1, -, -, cs, h4⟩ := he i hil
    rw [h1] at hxi
    cases hxi
    rcases hi with hi | rfl
    · rw [← hi]
      exact fun e => hmem i hil _ _ h1 (by simp [e.symm])
    · have := heap_lt h4
      intro e
      cases e
      omega
/-- bytes are put behind an own row. -/
theorem wpList_append_u8 {ops : Array Oper} {rest : List Oper} {o : Oper} {a : Act} {w : World} {Q : Exit → Act → World → Prop} (hgd : o.guard = none) (s x : Operand)
    (ho : o.op = .call { callee := .builtin .append, args := #[s, x], argTypes := #[47, 47] }) (base : Nat) (v : Value) (n : Nat) (xs : List UInt8) (hs : a.eval s = v) (hown : w.ownsRow base 5 1 v n (Lib.byteCells xs)) (b c m : Nat) (r : List UInt8) (hm : r.length = m) (hm0 : 0 < m)
    (hx : a.eval x = .slice (some ⟨b, 0, none⟩) m c) {C : Array Value} {fr : Nat × Nat} (hC : w.heap[b]? = some (.cells C 5 fr)) (hCr : C.toList = Lib.byteCells r) (hn : n + m ≤ 1000000) (hbase : base ≤ w.heap.size)
    (h : ∀ g cap w', w'.ownsRow base 5 1 (.slice (some ⟨g, 0, none⟩) (n + m) cap) (n + m) (Lib.byteCells (xs ++ r)) → w.grownBy w' v.ownBlock → (v.ownBlock = some g ∨ g = w.heap.size) → wpList Tryz.prog ops Q rest (a.put o.dst (.slice (some ⟨g, 0, none⟩) (n + m) cap)) w') : wpList Tryz.prog ops Q (o :: rest) a w := by
  obtain ⟨i, hi0, hz, hz1, hz2⟩ := info_parts inf5c
  refine wpList_append_lies w hgd s x 47 ho base 5 i _ 1 1 ty23 hi0 hz hz1 hz2 rfl (by decide) v n _ hs hown ⟨b, 0, none⟩ m c (Lib.byteCells r) hx (by rw [byteCells_length, hm, Nat.mul_one]) ?_ ?_ hm0 (by unfold maxLen; omega) (by omega) hbase _ rfl ?_
  · rw [← hCr]; exact World.news_of_block hC
  · intro u hu
    simp only [Lib.byteCells, List.mem_map] at hu
    obtain ⟨x, _, rfl⟩ := hu
    rfl
  · intro g cap w' h2 h3 h4 _
    exact h g cap w' (by rw [byteCells_app]; exact h2) h3 h4
set_option maxRecDepth 100000 in
set_option maxHeartbeats 4000000 in
theorem bencode_one (w : World) {lo e num k : Nat} {v : Value} {l : List (Int × List UInt8)} (h : TxOne w lo v k l) (hn0 : 1 ≤ num) (hn1 : num ≤ 1099511627776) (hk0 : 1 ≤ k) (hk1 : k ≤ 1099511627776) (he : e < 4294967296) (hl0 : 0 < l.length) (hl : l.length ≤ 16) (hr : Rise l) (hk : ∀ x ∈ l, 0 ≤ x.1 ∧ x.1 < 258) :
    Calls Tryz.prog 135 #[.agg #[.int .i64 num, v], .int .i64 e] w fun r w' => ∃ v', r = .returned (.tuple #[v', .int .i64 0]) ∧ Chg [] w w' ∧ RowsAt w' w.heap.size v' (batL e num k l) := by
  have k0 : Chg [] w (w.alloc (.cells #[.int .i64 num, v] 108)) := Chg.alloc w _
  have K0 := heap_new w (.cells #[.int .i64 num, v] 108)
  have h1 := h.keep k0
  obtain ⟨g, c, pb, cb, rfl, hc1, -, -, c0, c1, hcb, hp⟩ := h1.open_
  have b0 : (w.alloc (.cells #[.int .i64 num, .slice (some ⟨g, 0, none⟩) 1 c] 108)).cell? ⟨w.heap.size, 0, none⟩ = some (.int .i64 num) := cell_is K0 0 rfl
  have b1 : (w.alloc (.cells #[.int .i64 num, .slice (some ⟨g, 0, none⟩) 1 c] 108)).cell? ⟨w.heap.size, 1, none⟩ = some (.slice (some ⟨g, 0, none⟩) 1 c) := cell_is K0 1 rfl
  have e0 : decide ((e : Int) < 0) = false := decide_eq_false (by omega)
  have e1 : decide (4294967295 < (e : Int)) = false := decide_eq_false (by omega)
  have HO := Lib.hid (bcheck_one _ h1 (num := num) (by omega) (by omega) (by omega) (by omega) hl0 hl hr hk)
  have HP := Lib.hid hp
  have HK := Lib.hid hk
  have HL := Lib.hid (And.intro hl0 hl)
  have HE := Lib.hid he
  have HN := Lib.hid hn1
  have HC := Lib.hid hk1
  have H64 := Lib.hid (show k < 18446744073709551616 by omega)
  have ku : IntKind.u64.wrap (k : Int) = k := by rw [IntKind.wrap_u64]; omega
  have hz0 : w.heap.size ≤ (w.alloc (.cells #[.int .i64 num, .slice (some ⟨g, 0, none⟩) 1 c] 108)).heap.size := k0.size
  clear h h1 hp hr hk hl0 hl he hn0 hn1 hk0 hk1
  go_enter Tryz.func135, Tryz.ntmps135
  go_wp2_with fail
  generalize w.alloc (.cells #[.int .i64 num, .slice (some ⟨g, 0, none⟩) 1 c] 108) = w1 at *
  generalize hz : w.heap.size = z at *
  refine HO.out.mono ?_
  rintro e w2 ⟨rfl, k2⟩
  have b02 := k2.cell b0 (by simp)
  have b12 := k2.cell b1 (by simp)
  have c02 := k2.cell c0 (by simp)
  have c12 := k2.cell c1 (by simp)
  have k02 := k0.then k2
  have HP2 := Lib.hid (HP.out.keep0 k2)
  have hz2 : z ≤ w2.heap.size := hz ▸ k02.size
  clear HO HP b0 b1 c0 c1 k0 k2 K0
  go_upto_region 4 with fail
  have kD0 : Chg [] w2 w2.drew := (Chg.refl [] w2).drew
  have b12d : w2.drew.cell? ⟨z, 1, none⟩ = some (.slice (some ⟨g, 0, none⟩) 1 c) := b12
  have hS : ∀ wx, Chg [] w2 wx → wx.cell? ⟨z, 1, none⟩ = some (.slice (some ⟨g, 0, none⟩) 1 c) := fun wx kx => kx.cell b12 (by simp)
  go_cut [7] from 8 (fun v wx => Chg [] w2 wx ∧ wx.ownsRow w2.heap.size 5 1 v 9 (Lib.byteCells (leB k 8 ++ [1])))
  case first =>
    go_region_held3 (fun wx => wx.cell? ⟨z, 1, none⟩ = some (.slice (some ⟨g, 0, none⟩) 1 c))
      (first | (with_reducible exact hS _ kD0) | (with_reducible exact hS _ kB1) | (with_reducible exact hS _ (kD0.then_alloc _)) | (with_reducible exact hS _ (kB1.then_alloc _)) | (with_reducible exact hS _ (Chg.alloc w2 _)) | (with_reducible exact hS _ (Chg.alloc w2 _).drew) | (with_reducible exact hS _ kF))
      (first
        | (go_at_call 127; refine (put64_own _ k H64.out (base := w2.heap.size) (by first | exact kD0.size | exact (kD0.then_alloc _).size | exact ((Chg.alloc (S := []) w2 _).drew).size)).mono ?_; rintro e wB ⟨gB, rfl, kB, oB⟩; have kB1 : Chg [] w2 wB := (by first | with_reducible exact kD0.then kB | with_reducible exact ((Chg.alloc w2 _).drew).then kB | with_reducible exact (kD0.then_alloc _).then kB))
        | (refine step_append_u8 rfl (.tmp 38) (.tmp 43) rfl w2.heap.size _ 8 _ rfl (ownsRow_chg oB (Chg.alloc (S := []) wB _)) wB.heap.size 1 1 rfl (cell_is (heap_new wB _) 0 rfl) (by decide) (kB1.then_alloc _).size ?_; intro g5 cp5 w5 o5 k5; have kF : Chg [] w2 w5 := Chg.of_below (((kB1.then_alloc _).below (Nat.le_refl _) (by simp)).trans k5))
        | (refine step_append_u8 rfl (.tmp 38) (.tmp 43) rfl w2.heap.size _ 8 _ rfl oB w2.heap.size 1 1 rfl (kB.cell (cell_is (heap_new w2 _) 0 rfl) (by simp)) (by decide) kB1.size ?_; intro g5 cp5 w5 o5 k5; have kF : Chg [] w2 w5 := Chg.of_below ((kB1.below (Nat.le_refl _) (by simp)).trans k5)))
    all_goals
      go_wp2_with fail
      go_meet
      exact ⟨kF, o5⟩
  case rest =>
    obtain ⟨kw, oz⟩ := hcut
    obtain ⟨p7, c7, rfl, -⟩ := own_form oz
    have b0w := kw.cell b02 (by simp)
    have b1w := kw.cell b12 (by simp)
    have c0w := kw.cell c02 (by simp)
    have c1w := kw.cell c12 (by simp)
    have HPw := Lib.hid (HP2.out.keep0 kw)
    have HOz := Lib.hid oz
    have hzw : w2.heap.size ≤ wc.heap.size := kw.size
    clear oz hS kD0 b12d
    go_wp2_with fail
    go_loopw [4, 7, 8, 10, 12, 13, 14, 15, 49] (fun v4 v7 v8 _ _ _ _ _ i wr => (i = .int .i64 0 ∧ wc = wr ∧ v4 = .slice none 0 0 ∧ v7 = .slice p7 9 c7 ∧ v8 = .int .i64 k) ∨ (i = .int .i64 1 ∧ Chg [] w2 wr ∧ RowsAt wr w2.heap.size v4 (datL e num l) ∧ Away wr w2.heap.size v4 (datL e num l).length v7.ownBlock ∧ wr.ownsRow w2.heap.size 5 1 v7 11 (Lib.byteCells (leB k 8 ++ [1, 0, 0])))) (fun _ _ _ _ _ _ _ _ i _ => 1 - (intOf i).toNat)
    case atStart => exact Or.inl ⟨rfl, rfl, rfl, rfl, rfl⟩
    case round =>
      rcases hrel with ⟨rfl, rfl, rfl, rfl, rfl⟩ | ⟨rfl, kr, hv4, hva, hv7⟩
      · have ka : Chg [] wc (wc.alloc (.cells #[.int .i64 k, .slice pb l.length cb] 185)) := Chg.alloc wc _
        have A0 := heap_new wc (.cells #[.int .i64 k, .slice pb l.length cb] 185)
        go_wp2_with fail
        have a0 : (wc.alloc (.cells #[.int .i64 k, .slice pb l.length cb] 185)).cell? ⟨wc.heap.size, 0, none⟩ = some (.int .i64 k) := cell_is A0 0 rfl
        have b0a := ka.cell b0w (by simp)
        have HPa := Lib.hid (HPw.out.keep0 ka)
        have HOa := Lib.hid (ownsRow_chg HOz.out ka)
        have hza : w2.heap.size ≤ (wc.alloc (.cells #[.int .i64 k, .slice pb l.length cb] 185)).heap.size := Nat.le_trans hzw ka.size
        have kwa := kw.then ka
        generalize wc.alloc (.cells #[.int .i64 k, .slice pb l.length cb] 185) = w4 at *
        generalize wc.heap.size = z4 at *
        clear A0
        go_loopw [4, 12, 13, 14, 56] (fun v _ _ _ i wy => ∃ j : Nat, j ≤ l.length ∧ i = .int .i64 j ∧ Chg [] w4 wy ∧ RowsAt wy w4.heap.size v (datL e num (l.take j)) ∧ Away wy w4.heap.size v (datL e num (l.take j)).length (Value.slice p7 9 c7).ownBlock) (fun _ _ _ _ i _ => l.length - (intOf i).toNat)
        case atStart => exact ⟨0, by omega, rfl, Chg.refl _ _, RowsAt.nil _ _, Away.nil _ _ _⟩
        case round =>
          obtain ⟨j, hj, rfl, ky, hrow, haw⟩ := hrel
          by_cases hlt : j < l.length
          · obtain ⟨gp, cap, gd, cd, hpv, hcap, d0, d1, hbd, h40, hbt⟩ := (HPa.out.keep0 ky).get j hlt
            injection hpv with e1 e2 e3
            subst e1 e3
            obtain ⟨hx0, hx1⟩ := HK.out _ (List.getElem_mem hlt)
            have HTk := Lib.hid (show datL e num (l.take (j + 1)) = datL e num (l.take j) ++ [encF 1 e num (l[j]).1.toNat (l[j]).2] by unfold datL; rw [List.take_succ_eq_append_getElem hlt, List.map_append]; rfl)
            have hxe : (l[j]).1 = (((l[j]).1.toNat : Nat) : Int) := by omega
            have hx2 : (l[j]).1.toNat ≤ 1048576 := by omega
            have H40 := Lib.hid h40
            have Hbd := Lib.hid hbd
            have HR := Lib.hid hrow
            have HAw := Lib.hid haw
            have HO9 := Lib.hid (ownsRow_chg HOa.out ky)
            have hl16 : l.length ≤ 16 := HL.out.2
            rw [hxe] at d0
            have hdl : (datL e num (l.take j)).length = j := by rw [datL_length, List.length_take]; omega
            clear hbd h40 hrow hx0 hx1 hxe hbt haw
            generalize (l[j]).1.toNat = x at *
            generalize (l[j]).2 = q at *
            have b0y := ky.cell b0a (by simp)
            have kl : Chg [] wr (wr.alloc (.cells #[.int .i64 x, .slice (some ⟨gd, 0, none⟩) 40 cd] 50)) := Chg.alloc wr _
            have L0 := heap_new wr (.cells #[.int .i64 x, .slice (some ⟨gd, 0, none⟩) 40 cd] 50)
            have l0 : (wr.alloc (.cells #[.int .i64 x, .slice (some ⟨gd, 0, none⟩) 40 cd] 50)).cell? ⟨wr.heap.size, 0, none⟩ = some (.int .i64 x) := cell_is L0 0 rfl
            have l1 : (wr.alloc (.cells #[.int .i64 x, .slice (some ⟨gd, 0, none⟩) 40 cd] 50)).cell? ⟨wr.heap.size, 1, none⟩ = some (.slice (some ⟨gd, 0, none⟩) 40 cd) := cell_is L0 1 rfl
            have b0l := kl.cell b0y (by simp)
            go_wp2_with fail
            generalize wr.alloc (.cells #[.int .i64 x, .slice (some ⟨gd, 0, none⟩) 40 cd] 50) = wl at *
            generalize wr.heap.size = zl at *
            clear L0
            go_wp2_with fail
            refine (fencode_any wl (kind := 1) (by decide) (by decide) HE.out HN.out hx2 H40.out (by decide) (Hbd.out.chg kl)).mono ?_
            rintro r w5 ⟨g5, c5, rfl, k5, hg5, b5, t5⟩
            have k4y : Chg [] w4 w5 := (ky.then kl).then k5
            have hz5 : w4.heap.size ≤ w5.heap.size := k4y.size
            obtain ⟨xs, ho5, hx5⟩ := HR.out.keep0 (kl.then k5)
            rw [hdl] at ho5
            have hA5 := HAw.out.keep HR.out (kl.then k5) (Av.nil _ _)
            rw [hdl] at hA5
            have HA5 := Lib.hid hA5
            have HG5 := Lib.hid (show some g5 ≠ (Value.slice p7 9 c7).ownBlock from fun e5 => by
              obtain ⟨-, cs5, h5⟩ := own_elem (ownsRow_chg HO9.out kl) e5.symm
              have := heap_lt h5
              omega)
            have HO5 := Lib.hid ho5
            have HX5 := Lib.hid hx5
            have B5 := Lib.hid b5
            have T5 := Lib.hid t5
            have E5 := Lib.hid (encF_length 1 e num x q (by rw [H40.out]; decide))
            clear ho5 hx5 b5 t5 HR hA5 HAw HO9
            go_wp2_with (at_builtin; refine wpList_append_lit rfl (.tmp 72) (.tmp 74) 130 47 rfl ty132 inf23 rfl (by decide) w4.heap.size w5 [.slice (some ⟨g5, 0, none⟩) 64 c5] 1 rfl _ j xs rfl HO5.out (by have := HL.out.2; omega) (by decide) hz5 (k := 0) rfl (by simp [Value.oneCell']) rfl 1 rfl ?_; intro v' w6 hap)
            have hfin := RowsAt.app HX5.out hdl HO5.out hap B5.out E5.out T5.out
            have hfa := Away.app HA5.out HO5.out hap.1 HG5.out
            have hdl2 : (datL e num (l.take (j + 1))).length = j + 1 := by rw [HTk.out, List.length_append, hdl]; rfl
            rw [← HTk.out] at hfin
            rw [← hdl2] at hfa
            have k6 : Chg [] w4 w6 := Chg.of_below (k4y.below0.trans hap.2.1)
            go_roundw
            case rel => exact ⟨j + 1, by omega, by go_num, k6, hfin, hfa⟩
            case measure => simp [intOf]; omega
          · obtain rfl : j = l.length := by omega
            rw [List.take_length] at hrow haw
            have HRy := Lib.hid hrow
            have HAy := Lib.hid haw
            have a0y := ky.cell a0 (by simp)
            have hzy := Nat.le_trans hza ky.size
            have kwy := kwa.then ky
            have HOy := Lib.hid (ownsRow_chg HOa.out ky)
            clear hrow haw
            have kt : Chg [] wr (wr.alloc (.cells #[.int .u8 0, .int .u8 0] 5)) := Chg.alloc wr _
            go_wp2_with (at_builtin; refine wpList_append_u8 rfl (.tmp 83) (.tmp 89) rfl w2.heap.size _ 9 _ rfl (ownsRow_chg HOy.out kt) wr.heap.size 2 2 [0, 0] rfl (by decide) rfl (heap_new wr _) rfl (by decide) (Nat.le_trans hzy kt.size) ?_; intro g6 c6 w6 o6 k6 i6)
            obtain ⟨hr6, ha6⟩ := rows_grow (HRy.out.keep0 kt) (HAy.out.keep HRy.out kt (Av.nil _ _)) (ownsRow_chg HOy.out kt) k6 i6
            have kf : Chg [] w2 w6 := Chg.of_below ((kwy.then kt).below0.trans (below_grown (ownsRow_chg HOy.out kt) k6 (Nat.le_trans hzy kt.size)))
            go_roundw
            case rel => exact Or.inr ⟨rfl, kf, hr6.base hza, ha6.base hr6 hza, o6⟩
            case measure => decide
      · obtain ⟨p8, c8, rfl, -⟩ := own_form hv7
        obtain ⟨xs4, ho4, hx4⟩ := hv4
        obtain ⟨p4, c4, rfl, hc4⟩ := own_form ho4
        have HR := Lib.hid (show RowsAt wr w2.heap.size (.slice p4 (datL e num l).length c4) (datL e num l) from ⟨xs4, ho4, hx4⟩)
        have HAw := Lib.hid hva
        have HO7 := Lib.hid hv7
        have b0r := kr.cell b02 (by simp)
        have b1r := kr.cell b12 (by simp)
        have c0r := kr.cell c02 (by simp)
        have c1r := kr.cell c12 (by simp)
        have hzr := kr.size
        have hu8 : IntKind.u8.wrap (l.length : Int) = l.length := by have := HL.out.2; rw [IntKind.wrap_u8]; omega
        clear hva hv7 ho4 hx4
        go_wp2_with fail
        go_loopw [7, 17, 95] (fun v7 _ i wx => (i = .int .i64 0 ∧ wr = wx ∧ v7 = .slice p8 11 c8) ∨ (i = .int .i64 1 ∧ Chg [] w2 wx ∧ RowsAt wx w2.heap.size (.slice p4 (datL e num l).length c4) (datL e num l) ∧ wx.ownsRow w2.heap.size 5 1 v7 12 (Lib.byteCells (bodL k l.length)))) (fun _ _ i _ => 1 - (intOf i).toNat)
        case atStart => exact Or.inl ⟨rfl, rfl, rfl⟩
        case round =>
          rename World => wz
          rcases hrel with ⟨rfl, rfl, rfl⟩ | ⟨rfl, kz, hv4, hv7⟩
          · have ka : Chg [] wr (wr.alloc (.cells #[.int .i64 k, .slice pb l.length cb] 185)) := Chg.alloc wr _
            have A0 := heap_new wr (.cells #[.int .i64 k, .slice pb l.length cb] 185)
            have L0 := (two_new wr (.cells #[.int .i64 k, .slice pb l.length cb] 185) (.cells #[.int .u8 l.length] 5)).2
            have kt := ka.then_alloc (.cells #[.int .u8 l.length] 5)
            have HLn := Lib.hid (show (#[Value.int .u8 l.length]).toList = Lib.byteCells [UInt8.ofNat l.length] by
              have e1 : (UInt8.ofNat l.length).toNat = l.length := by have := HL.out.2; simp; omega
              simp only [Lib.byteCells, List.map_cons, List.map_nil, e1])
            have hBd := Lib.hid (show leB k 8 ++ [1, 0, 0] ++ [UInt8.ofNat l.length] = bodL k l.length by simp [bodL])
            go_wp2_with (at_builtin; refine wpList_append_u8 rfl (.tmp 99) (.tmp 104) rfl w2.heap.size _ 11 _ rfl (ownsRow_chg HO7.out kt) (wr.heap.size + 1) 1 1 [UInt8.ofNat l.length] rfl (by decide) rfl L0 HLn.out (by decide) (Nat.le_trans hzr kt.size) ?_; intro g6 c6 w6 o6 k6 i6)
            obtain ⟨hr6, ha6⟩ := rows_grow (HR.out.keep0 kt) (HAw.out.keep HR.out kt (Av.nil _ _)) (ownsRow_chg HO7.out kt) k6 i6
            rw [hBd.out] at o6
            have kf : Chg [] w2 w6 := Chg.of_below ((kr.then kt).below0.trans (below_grown (ownsRow_chg HO7.out kt) k6 (Nat.le_trans hzr kt.size)))
            go_roundw
            case rel => exact Or.inr ⟨rfl, kf, hr6, o6⟩
            case measure => decide
          · obtain ⟨p9, c9, rfl, -⟩ := own_form hv7
            have b0z := kz.cell b02 (by simp)
            have HRz := Lib.hid hv4
            have H9 := Lib.hid (Bs.own hv7)
            have hbl : (bodL k l.length).length = 12 := by simp [bodL, leB_length]
            have HLz := Lib.hid hbl
            have hdl : (datL e num l).length = l.length := datL_length _ _ _
            clear hv7 hbl
            go_wp2_with fail
            refine (fencode_any wz (kind := 2) (lba := l.length) (by decide) (by decide) HE.out HN.out (by have := HL.out.2; omega) HLz.out (by decide) H9.out).mono ?_
            rintro r w5 ⟨g5, c5, rfl, k5, hg5, b5, t5⟩
            have kz5 := kz.then k5
            obtain ⟨xs, ho5, hx5⟩ := HRz.out.keep0 k5
            rw [hdl] at ho5
            have HO5 := Lib.hid ho5
            have HX5 := Lib.hid hx5
            have B5 := Lib.hid b5
            have T5 := Lib.hid t5
            have E5 := Lib.hid (encF_length 2 e num l.length (bodL k l.length) (by rw [HLz.out]; decide))
            clear ho5 hx5 b5 t5 hv4
            go_wp2_with (at_builtin; refine wpList_append_lit rfl (.tmp 118) (.tmp 120) 130 47 rfl ty132 inf23 rfl (by decide) w2.heap.size w5 [.slice (some ⟨g5, 0, none⟩) 64 c5] 1 rfl _ l.length xs rfl HO5.out (by have := HL.out.2; omega) (by decide) kz5.size (k := 0) rfl (by simp [Value.oneCell']) rfl 1 rfl ?_; intro v' w6 hap)
            have hfin := RowsAt.app HX5.out hdl HO5.out hap B5.out E5.out T5.out
            have k6 : Chg [] w w6 := k02.then (Chg.of_below (kz5.below0.trans hap.2.1))
            have HF := Lib.hid (show RowsAt w6 z v' (batL e num k l) from hfin.base hz2)
            clear hfin hap
            go_wp2_with fail
            go_ret2
            exact ⟨_, rfl, k6, by rw [hz]; exact HF.out⟩
end Go.Proofs.YtelakcjbknbehaaGreat
namespace Go.Proofs.YtelakcjbknbehaaGreat
open Go.RowKit Go.Lib

section
variable {base : Nat} {d : Ids} {p : Par} {F : World → Prop}
set_option maxRecDepth 100000 in
theorem geom_hdr (w : World) {N A c : Nat} (h : ∃ ops, w.heap[N]? = some (.cells #[.int .i64 8, .int .i64 96, .slice (some ⟨A, 0, none⟩) 8 c, .int .i64 ops, .int .i64 0, .bool false, .int .i64 0, .bool false] 128 (0, 0))) : Calls Tryz.prog 79 #[.pointer (some ⟨N, 0, none⟩)] w fun e w' => e = .returned (.agg #[.int .i64 8, .int .i64 96]) ∧ Chg [] w w' := by
  obtain ⟨ops, h⟩ := h
  have hgone : ∀ w1 : World, w1.heap[N]? = some (.cells #[.int .i64 8, .int .i64 96, .slice (some ⟨A, 0, none⟩) 8 c, .int .i64 ops, .int .i64 0, .bool false, .int .i64 0, .bool false] 128 (0, 0)) → Calls Tryz.prog 152 #[.pointer (some ⟨N, 0, none⟩)] w1 fun e w' => e = .returned (.bool false) ∧ w1 = w' := by
    intro w1 h1
    have e2 : w1.cell? ⟨N, 2, none⟩ = some (.slice (some ⟨A, 0, none⟩) 8 c) := cell_is h1 2 rfl
    clear h h1
    go_enter Tryz.func152, Tryz.ntmps152
    go_wp2_with fail
    go_ret
    exact ⟨rfl, rfl⟩
  have HG := Lib.hid hgone
  clear hgone
  go_enter Tryz.func79, Tryz.ntmps79
  go_wp2_with fail
  have g0 := heap_new w (.cells #[.int .i64 0, .int .i64 0] 67)
  have hc : Chg [] w (w.alloc (.cells #[.int .i64 0, .int .i64 0] 67)) := Chg.alloc _ _
  have h2 := hc.heap h (by simp)
  have hN := heap_lt h
  generalize w.alloc (.cells #[.int .i64 0, .int .i64 0] 67) = w1 at *
  refine (HG.out w1 h2).mono ?_
  rintro e w2 ⟨rfl, rfl⟩
  have e0 : w1.cell? ⟨N, 0, none⟩ = some (.int .i64 8) := cell_is h2 0 rfl
  have e1 : w1.cell? ⟨N, 1, none⟩ = some (.int .i64 96) := cell_is h2 1 rfl
  have c0 := cell_is g0 0 rfl
  have c1 := cell_is g0 1 rfl
  have f0 := unfrozen g0 0
  have f1 := unfrozen g0 1
  clear h h2 g0
  go_wp2_with fail
  refine bodyPost_ret (v := .agg #[.int .i64 8, .int .i64 96]) (by simp [results, Tryz.results79, go_sem, c0, c1]) rfl ?_
  exact ⟨rfl, (hc.new_set (by omega) _ _).new_set (by omega) _ _⟩
end
end Go.Proofs.YtelakcjbknbehaaGreat
