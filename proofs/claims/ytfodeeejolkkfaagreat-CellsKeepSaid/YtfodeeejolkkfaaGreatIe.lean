/- Lemmas and walks: Walks: a view reads one block. Walks: the store's Read of one block; what stands of a store with one transaction. Walks: the reference's manager is made. Walks: the reference's manager begins a transaction. Walks: the reference's Begin; a world of law 26 begins. Walks: the numbers of a cell's block. Walks: a cell is got, set, added to. Walks: a cell is added to, cells are moved. Walks: a world of law 26 is made and begins. Walks: fresh, Round, Class of law 26. Walks: numbers as bytes, the least first. Walks: check sums. Walks: rows of bytes one behind the other in a new row. -/
import Derived.Deep.AppendLies
import Derived.Laws.BitsAllLaws
import Derived.Test.YtfodeeejolkkfaaGreatId
namespace Go.Proofs.YtfodeeejolkkfaaGreat
open Go.RowKit Go.Lib

theorem ty68 : Tryz.prog.underlying 68 = some (.slice 285) := by kernel_rfl
theorem inf285 : (Tryz.prog.info? 285).map (fun i => (i.zero, i.size, i.bytes)) = some (some (.agg #[.int .i64 0, .slice none 0 0, .bool false]), 3, 40) := by kernel_rfl
/-- one read is put behind reads of an own row, as a step of a region that draws. -/
theorem step_append_rd {ops : Array Oper} {o : Oper} {a : Act} {w : World} {K : Act → World → Prop} {Q : Exit → Act → World → Prop} {E : Prop} (hgd : o.guard = none) (s x : Operand)
    (ho : o.op = .call { callee := .builtin .append, args := #[s, x], argTypes := #[68, 68] }) (base : Nat) (v : Value) (n : Nat) (xs : List Value) (hs : a.eval s = v) (hown : w.ownsRow base 285 3 v n xs) (b c : Nat) (u0 u1 u2 : Value)
    (hx : a.eval x = .slice (some ⟨b, 0, none⟩) 1 c) (c0 : w.cell? ⟨b, 0, none⟩ = some u0) (c1 : w.cell? ⟨b, 1, none⟩ = some u1) (c2 : w.cell? ⟨b, 2, none⟩ = some u2) (h1 : u0.oneCell' = true ∧ u1.oneCell' = true ∧ u2.oneCell' = true) (hn : n ≤ 1000000) (hbase : base ≤ w.heap.size)
    (h : ∀ g cap w', w'.ownsRow base 285 3 (.slice (some ⟨g, 0, none⟩) (n + 1) cap) (n + 1) (xs ++ [u0, u1, u2]) → Chg v.ownBlock.toList w w' → K (a.put o.dst (.slice (some ⟨g, 0, none⟩) (n + 1) cap)) w') :
    if Region.wanted o (yielded ops a.tmps) = true then Oper.wp Tryz.prog o a w K Q else E := by
  obtain ⟨i, hi0, hz, hz1, hz2⟩ := info_parts inf285
  refine step_append_lies w hgd s x 68 ho base 285 i _ 3 40 ty68 hi0 hz hz1 hz2 rfl (by decide) v n xs hs hown ⟨b, 0, none⟩ 1 c [u0, u1, u2] hx rfl ?_ ?_ (by decide) (by unfold maxLen; omega) (by omega) hbase _ rfl ?_
  · intro j u hu
    rw [add_lit, Nat.zero_add]
    match j with
    | 0 => cases hu; exact c0
    | 1 => cases hu; exact c1
    | 2 => cases hu; exact c2
    | j + 3 => simp at hu
  · intro u hu
    simp at hu
    rcases hu with rfl | rfl | rfl
    · exact h1.1
    · exact h1.2.1
    · exact h1.2.2
  · intro g cap w' h2 h3 _ _
    refine h g cap w' h2 ?_
    cases hv : v.ownBlock with
    | none => rw [hv] at h3; exact Chg.of_grown0 h3
    | some k => rw [hv] at h3; exact Chg.of_grown h3
/-- a block's bytes in a buffer, or noughts. -/
def Blk (w : World) (L : List (Int × Value)) (b : Int) (l : List UInt8) : Prop := (getL L b = none ∧ l = zeroB) ∨ ∃ g c, getL L b = some (.slice (some ⟨g, 0, none⟩) 40 c) ∧ Bs w (some ⟨g, 0, none⟩) l ∧ l.length = 40 ∧ Bt w g
/-- a view, with at most n reads in a row behind base. -/
def Vw (w : World) (base Q X W V n : Nat) : Prop := ∃ s m xs, ViewAt w Q X W V s ∧ m ≤ n ∧ w.ownsRow base 285 3 s m xs
theorem Vw.keep {w w' : World} {S : List Nat} {base Q X W V n : Nat} (h : Vw w base Q X W V n) (hc : Chg S w w') (hS : Av w S [275, 285]) : Vw w' base Q X W V n := by
  obtain ⟨s, m, xs, h1, h2, h3⟩ := h
  refine ⟨s, m, xs, hc.heap h1 (hS.ne h1 (by simp)), h2, h3.1, ?_⟩
  rcases h3.2 with hn | ⟨g, cap, cur, hv, hb, hg, rest⟩
  · exact Or.inl hn
  · exact Or.inr ⟨g, cap, cur, hv, hb, hc.heap hg (hS.ne hg (by simp)), rest⟩
theorem Blk.len {w : World} {L : List (Int × Value)} {b : Int} {l : List UInt8} (h : Blk w L b l) : l.length = 40 := by
  rcases h with ⟨_, rfl⟩ | ⟨g, c, _, _, h, _⟩
  · rfl
  · exact h
/-- a buffer's Get. -/
theorem bget_any (w : World) {W rw : Nat} {L : List (Int × Value)} {b : Int} {l : List UInt8} (h : BufAt w W rw L) (hb : Blk w L b l) : Calls Tryz.prog 211 #[.pointer (some ⟨W, 0, none⟩), .int .i64 b] w fun e w' =>
    (e = .returned (.tuple #[.slice none 0 0, .bool false]) ∧ l = zeroB ∧ w = w') ∨ ∃ g' c', e = .returned (.tuple #[.slice (some ⟨g', 0, none⟩) 40 c', .bool true]) ∧ Chg [] w w' ∧ Bs w' (some ⟨g', 0, none⟩) l ∧ w.heap.size ≤ g' := by
  rcases hb with ⟨h1, h2⟩ | ⟨g, c, h1, h2, h3, _⟩
  · exact (bget_none w h h1).mono fun e w' ⟨he, hw⟩ => Or.inl ⟨he, h2, hw⟩
  · exact (bget_some w h h1 h2 h3).mono fun e w' hh => Or.inr hh
/-- the blocks of T are those of a transaction's reads: a view, a set of spans, a row of reads. -/
def Rt (w : World) (base : Nat) (T : List Nat) : Prop := ∀ x ∈ T, base ≤ x ∧ ∃ cs t fr, w.heap[x]? = some (.cells cs t fr) ∧ (t = 275 ∨ t = 312 ∨ t = 285)
theorem Rt.cells {w : World} {base : Nat} {T : List Nat} (h : Rt w base T) {g : Nat} {cs : Array Value} {t : TypeId} {fr : Nat × Nat} (hg : w.heap[g]? = some (.cells cs t fr)) (ht : t ≠ 275 ∧ t ≠ 312 ∧ t ≠ 285) : g ∉ T := by
  intro hm
  obtain ⟨_, cs', t', fr', h1, h2⟩ := h g hm
  rw [hg] at h1
  cases h1
  rcases h2 with h | h | h
  · exact ht.1 h
  · exact ht.2.1 h
  · exact ht.2.2 h
theorem Rt.map {w : World} {base : Nat} {T : List Nat} (h : Rt w base T) {r : Nat} {L : List (Int × Value)} (hg : MapAt w r L) : r ∉ T := by
  intro hm
  obtain ⟨_, cs', t', fr', h1, _⟩ := h r hm
  exact map_cells hg h1 rfl
theorem Rt.low {w : World} {base : Nat} {T : List Nat} (h : Rt w base T) {g : Nat} (hg : g < base) : g ∉ T := fun hm => by have := (h g hm).1; omega
/-- what a view's Read holds on to. -/
structure Vr (w : World) (Q X rx W rw : Nat) (L : List (Int × Value)) (b : Int) (l : List UInt8) : Prop where
  ver : VerAt w X rx
  buf : BufAt w W rw L
  blk : Blk w L b l
theorem Blk.keepT {w w' : World} {T : List Nat} {base : Nat} {L : List (Int × Value)} {b : Int} {l : List UInt8} (h : Blk w L b l) (hc : Chg T w w') (hT : Rt w base T) : Blk w' L b l := by
  rcases h with h | ⟨g, c, h1, h2, h3, cs, hcs⟩
  · exact Or.inl h
  · have hg := hT.cells hcs (by simp)
    exact Or.inr ⟨g, c, h1, h2.chgT hc hg, h3, cs, hc.heap hcs hg⟩
theorem Rt.nil (w : World) (base : Nat) : Rt w base [] := fun x hx => by cases hx
theorem Blk.keep {w w' : World} {L : List (Int × Value)} {b : Int} {l : List UInt8} (h : Blk w L b l) (hc : Chg [] w w') : Blk w' L b l := h.keepT hc (Rt.nil w 0)
theorem VerAt.keep0 {w w' : World} {X rx : Nat} (h : VerAt w X rx) (hc : Chg [] w w') : VerAt w' X rx := ⟨hc.heap h.1 (by simp), h.2.keep hc (by simp)⟩
theorem ownsRow_chgV {w w' : World} {V : Nat} {base n : Nat} {v : Value} {xs : List Value} {v2 : Value} (h : w.ownsRow base 285 3 v n xs) (hc : Chg [V] w w') (hV : SpansAt w V v2) : w'.ownsRow base 285 3 v n xs := by
  refine ⟨h.1, ?_⟩
  rcases h.2 with hn | ⟨g, cap, cur, hv, hb, hg, rest⟩
  · exact Or.inl hn
  · exact Or.inr ⟨g, cap, cur, hv, hb, hc.heap hg (by simpa using heap_ne hg hV (by simp)), rest⟩
theorem chg_setRow (w : World) (g : Nat) (cs : Array Value) : Chg [g] w (w.setRow g cs) := ⟨rfl, rfl, rfl, by simp [World.setRow], fun k _ hs => setRow_other w g k cs (fun e => hs (by simp [e]))⟩
theorem ownsRow_chg2 {w w' : World} {g : Nat} {base n : Nat} {v : Value} {xs : List Value} {cs : Array Value} (h : w.ownsRow base 285 3 v n xs) (hc : Chg [g] w w') (hV : w.heap[g]? = some (.cells cs 5 (0, 0))) : w'.ownsRow base 285 3 v n xs := by
  refine ⟨h.1, ?_⟩
  rcases h.2 with hn | ⟨k, cap, cur, hv, hb, hg, rest⟩
  · exact Or.inl hn
  · exact Or.inr ⟨k, cap, cur, hv, hb, hc.heap hg (by simpa using heap_ne hg hV (by simp)), rest⟩
theorem own_block_ne {w : World} {g : Nat} {base n e size : Nat} {v : Value} {xs : List Value} {cs : Array Value} {t : TypeId} {fr : Nat × Nat} (h : w.ownsRow base e size v n xs) (hg : w.heap[g]? = some (.cells cs t fr)) (ht : t ≠ e) : g ∉ v.ownBlock.toList := by
  rcases h.2 with ⟨rfl, _⟩ | ⟨k, cap, cur, rfl, hb, hk, rest⟩
  · simp [Value.ownBlock]
  · simpa [Value.ownBlock] using heap_ne hg hk (by intro e; cases e; exact ht rfl)
theorem ownsRow_av {w w' : World} {S : List Nat} {base n e size : Nat} {v : Value} {xs : List Value} (h : w.ownsRow base e size v n xs) (hc : Chg S w w') (hS : Av w S [e]) : w'.ownsRow base e size v n xs := by
  refine ⟨h.1, ?_⟩
  rcases h.2 with hn | ⟨g, cap, cur, hv, hb, hg, rest⟩
  · exact Or.inl hn
  · exact Or.inr ⟨g, cap, cur, hv, hb, hc.heap hg (hS.ne hg (by simp)), rest⟩
/-- what stands behind a Read's last store. -/
theorem vread_end {w wb wc w5 : World} {base Q X W V n m g g5 cp5 : Nat} {s : Value} {xs : List Value} {ys : List Value} {l : List UInt8} {Cb : Array Value} (HRt : Rt w base (V :: Q :: s.ownBlock.toList)) (k9 : Chg [V] w wb) (ky : Chg [] wb wc) (hm : m ≤ n) (hB : Bs wb (some ⟨g, 0, none⟩) l)
    (gy : wc.heap[g]? = some (.cells Cb 5 (0, 0))) (hgn : g ∉ s.ownBlock.toList) (hgQ : Q ∉ [g]) (oy : wc.ownsRow base 285 3 s m xs) (qy : ViewAt wc Q X W V s) (hQn : Q ∉ s.ownBlock.toList) (sb : SpV wc base V (n + 1))
    (o5 : w5.ownsRow base 285 3 (.slice (some ⟨g5, 0, none⟩) (m + 1) cp5) (m + 1) ys) (k5 : Chg s.ownBlock.toList wc w5) :
    ∃ T, Chg T w (w5.setCell ⟨Q, 4, none⟩ (.slice (some ⟨g5, 0, none⟩) (m + 1) cp5)) ∧ Rt w base T ∧ Bs (w5.setCell ⟨Q, 4, none⟩ (.slice (some ⟨g5, 0, none⟩) (m + 1) cp5)) (some ⟨g, 0, none⟩) l ∧ Vw (w5.setCell ⟨Q, 4, none⟩ (.slice (some ⟨g5, 0, none⟩) (m + 1) cp5)) base Q X W V (n + 1) ∧ SpV (w5.setCell ⟨Q, 4, none⟩ (.slice (some ⟨g5, 0, none⟩) (m + 1) cp5)) base V (n + 1) := by
  have q5 := k5.heap qy hQn
  have g5h := k5.heap gy hgn
  have kS := Chg.set w5 Q 4 (.slice (some ⟨g5, 0, none⟩) (m + 1) cp5)
  have hgQ' : g ∉ [Q] := by simpa using (fun e => hgQ (by simp [e]))
  have hav : Av wc s.ownBlock.toList [117, 312] := by
    intro x hx cs t fr hh
    rcases oy.2 with ⟨rfl, _⟩ | ⟨k, cap, cur, rfl, hb, hk, rest⟩
    · simp [Value.ownBlock] at hx
    · simp [Value.ownBlock] at hx
      subst hx
      rw [hk] at hh
      cases hh
      simp
  have hq1 : Av w5 [Q] [117, 312] := fun x hx cs t fr hh => by
    rw [List.mem_singleton] at hx; subst hx; rw [q5] at hh; cases hh; simp
  have hq2 : Av w5 [Q] [285] := fun x hx cs t fr hh => by
    rw [List.mem_singleton] at hx; subst hx; rw [q5] at hh; cases hh; simp
  refine ⟨V :: Q :: s.ownBlock.toList, ?_, HRt, ((hB.chg ky).chgT k5 hgn).chgT kS hgQ', ⟨_, m + 1, ys, heap_set q5 4 _ rfl, by omega, ownsRow_av o5 kS hq2⟩, (sb.keep k5 hav).keep kS hq1⟩
  refine (((k9.mono ?_).then (ky.mono ?_)).then (k5.mono ?_)).then (kS.mono ?_)
  · intro x hx _; simp at hx; simp [hx]
  · intro x hx _; cases hx
  · intro x hx _; simp only [List.mem_cons]; exact Or.inr (Or.inr hx)
  · intro x hx _; simp at hx; simp [hx]
theorem Bs.cells_at {w : World} {g : Nat} {l : List UInt8} (h : Bs w (some ⟨g, 0, none⟩) l) : ∀ j v, (Lib.byteCells l)[j]? = some v → w.cell? ((⟨g, 0, none⟩ : Addr).add j) = some v := by
  intro j u hu
  rcases h with rfl | ⟨b, off, e, hb, hc⟩
  · simp [Lib.byteCells] at hu
  · cases e
    have hj : j < l.length := by
      rcases Nat.lt_or_ge j l.length with h | h
      · exact h
      · rw [List.getElem?_eq_none (by simpa [Lib.byteCells] using h)] at hu; cases hu
    rw [add_lit, hc j hj, ← hu]
    simp [Lib.byteCells, hj]
theorem byteCells_one (l : List UInt8) : ∀ v ∈ Lib.byteCells l, v.oneCell' = true := by
  intro u hu
  simp only [Lib.byteCells, List.mem_map] at hu
  obtain ⟨x, _, rfl⟩ := hu
  rfl
set_option maxRecDepth 100000 in
set_option maxHeartbeats 20000000 in
theorem vread_one (w : World) {base Q X rx W rw V n : Nat} {L : List (Int × Value)} {b : Int} {l : List UInt8} (hX : VerAt w X rx) (hW : BufAt w W rw L) (hB : Blk w L b l) (hV : Vw w base Q X W V n) (hS : SpV w base V n) (hn : n ≤ 11) (hbase : base ≤ Q ∧ base ≤ V) (h0 : 0 ≤ b) (h1 : b < 258) :
    Calls Tryz.prog 175 #[.pointer (some ⟨Q, 0, none⟩), .agg #[.int .i64 b, .int .i64 1]] w fun e w' =>
    ∃ g c' T, e = .returned (.tuple #[.slice (some ⟨g, 0, none⟩) 40 c', .int .i64 0]) ∧ 40 ≤ c' ∧ Chg T w w' ∧ Rt w base T ∧ w.heap.size ≤ g ∧ Bs w' (some ⟨g, 0, none⟩) l ∧ Vw w' base Q X W V (n + 1) ∧ SpV w' base V (n + 1) := by
  have k0 : Chg [] w (w.alloc (.cells #[.int .i64 b, .int .i64 1] 117)) := Chg.alloc w _
  have K0 := heap_new w (.cells #[.int .i64 b, .int .i64 1] 117)
  have hX1 := hX.keep0 k0
  have hW1 := hW.keep k0 (by simp) (by simp)
  have hB1 := hB.keep k0
  obtain ⟨s, m, xs, qw, hm, how⟩ := hV
  have q := k0.heap qw (by simp)
  have ho := ownsRow_chg how k0
  have hS1 := hS.keep0 k0
  have HRt : Rt w base (V :: Q :: s.ownBlock.toList) := by
    intro x hx
    simp only [List.mem_cons] at hx
    rcases hx with rfl | rfl | hx
    · exact ⟨hbase.2, _, _, _, hS.choose_spec.choose_spec.1, by simp⟩
    · exact ⟨hbase.1, _, _, _, qw, by simp⟩
    · rcases how.2 with ⟨rfl, _⟩ | ⟨k, cap, cur, rfl, hb, hk, rest⟩
      · simp [Value.ownBlock] at hx
      · simp [Value.ownBlock] at hx
        subst hx
        exact ⟨hb, _, _, _, hk, by simp⟩
  clear qw how
  have q0 : (w.alloc (.cells #[.int .i64 b, .int .i64 1] 117)).cell? ⟨Q, 0, none⟩ = some (.pointer (some ⟨X, 0, none⟩)) := cell_is q 0 rfl
  have q1 : (w.alloc (.cells #[.int .i64 b, .int .i64 1] 117)).cell? ⟨Q, 1, none⟩ = some (.pointer (some ⟨W, 0, none⟩)) := cell_is q 1 rfl
  have q2 : (w.alloc (.cells #[.int .i64 b, .int .i64 1] 117)).cell? ⟨Q, 2, none⟩ = some (.int .i64 0) := cell_is q 2 rfl
  have q3 : (w.alloc (.cells #[.int .i64 b, .int .i64 1] 117)).cell? ⟨Q, 3, none⟩ = some (.pointer (some ⟨V, 0, none⟩)) := cell_is q 3 rfl
  have a0 : (w.alloc (.cells #[.int .i64 b, .int .i64 1] 117)).cell? ⟨w.heap.size, 0, none⟩ = some (.int .i64 b) := cell_is K0 0 rfl
  have a1 : (w.alloc (.cells #[.int .i64 b, .int .i64 1] 117)).cell? ⟨w.heap.size, 1, none⟩ = some (.int .i64 1) := cell_is K0 1 rfl
  go_enter Tryz.func175, Tryz.ntmps175
  go_wp2_with fail
  go_step3
  go_wp2_with fail
  generalize w.alloc (.cells #[.int .i64 b, .int .i64 1] 117) = w1 at *
  generalize hK : w.heap.size = K at *
  go_region_held3 (fun wx => wx.cell? ⟨Q, 0, none⟩ = some (.pointer (some ⟨X, 0, none⟩)) ∧ wx.cell? ⟨Q, 2, none⟩ = some (.int .i64 0) ∧ wx.cell? ⟨K, 0, none⟩ = some (.int .i64 b) ∧ wx.cell? ⟨K, 1, none⟩ = some (.int .i64 1))
    (first | (exact ⟨q0, q2, a0, a1⟩) | (exact ⟨k2.cell q0 (by simp), k2.cell q2 (by simp), k2.cell a0 (by simp), k2.cell a1 (by simp)⟩))
    (first | (go_at_call 210; refine (range_one w1.drew (hX1.keep0 (Chg.refl [] w1).drew) h0 h1).mono ?_; rintro e w2 ⟨g, c', rfl, hc', k2, o2⟩))
  have kk2 := (Chg.refl [] w1).drew.then k2
  have q := kk2.heap q (by simp)
  have K0 := kk2.heap K0 (by simp)
  have ho := ownsRow_chg ho kk2
  have hW2 := hW1.keep kk2 (by simp) (by simp)
  have hB2 := hB1.keep kk2
  have hS2 := hS1.keep0 kk2
  have hK2 : K ≤ w2.heap.size := by have := k0.size; have := kk2.size; omega
  have ho2 : w2.ownsRow K 5 1 (.slice (some ⟨g, 0, none⟩) 40 c') 40 (Lib.byteCells zeroB) := ownsRow_base o2 (by have := k0.size; show K ≤ w1.heap.size; omega)
  have kk := k0.then kk2
  clear q0 q1 q2 q3 a0 a1 hX1 hW1 hB1 hS1 o2 k0 k2 kk2
  have q3 : w2.cell? ⟨Q, 3, none⟩ = some (.pointer (some ⟨V, 0, none⟩)) := cell_is q 3 rfl
  have a0 : w2.cell? ⟨K, 0, none⟩ = some (.int .i64 b) := cell_is K0 0 rfl
  have a1 : w2.cell? ⟨K, 1, none⟩ = some (.int .i64 1) := cell_is K0 1 rfl
  go_wp2_with fail
  have kx : Chg [] w2 (w2.drew.alloc (.cells #[.int .i64 b, .int .i64 1] 117)) := (Chg.refl [] w2).drew.then_alloc _
  have kx0 := heap_new w2.drew (.cells #[.int .i64 b, .int .i64 1] 117)
  have hVK : V ≠ K := by obtain ⟨_, _, hh, _⟩ := hS2; exact heap_ne hh K0 (by simp)
  have hVQ : V ≠ Q := by obtain ⟨_, _, hh, _⟩ := hS2; exact heap_ne hh q (by simp)
  have hbw : base ≤ (w2.drew.alloc (.cells #[.int .i64 b, .int .i64 1] 117)).heap.size := by have := heap_lt q; have := kx.size; omega
  have kx2 : Chg [V] w2 (w2.drew.alloc (.cells #[.int .i64 b, .int .i64 1] 117)) := kx.mono (fun x hx _ => by cases hx)
  go_region_held3 (fun wx => wx.cell? ⟨Q, 3, none⟩ = some (.pointer (some ⟨V, 0, none⟩)) ∧ wx.cell? ⟨K, 0, none⟩ = some (.int .i64 b) ∧ wx.cell? ⟨K, 1, none⟩ = some (.int .i64 1))
    (first | (exact ⟨q3, a0, a1⟩) | (exact ⟨kx.cell q3 (by simp), kx.cell a0 (by simp), kx.cell a1 (by simp)⟩) | (exact ⟨(kx2.then k3).cell q3 (by simpa using hVQ.symm), (kx2.then k3).cell a0 (by simpa using hVK.symm), (kx2.then k3).cell a1 (by simpa using hVK.symm)⟩))
    (first | (go_at_call 197; refine (iadd_one (w2.drew.alloc (.cells #[.int .i64 b, .int .i64 1] 117)) (base := base) (V := V) (n := n) (E := w2.drew.heap.size) (hS2.keep0 kx) hn hbw h0 h1 (cell_is kx0 0 rfl) (cell_is kx0 1 rfl)).mono ?_; rintro e w3 ⟨rfl, k3, hS3⟩))
  have k4 := kx2.then k3
  have hR4 : Rt w2 base [V] := fun x hx => by
    rw [List.mem_singleton] at hx
    subst hx
    obtain ⟨_, _, hh, _⟩ := hS2
    exact ⟨hbase.2, _, _, _, hh, by simp⟩
  have q := k4.heap q (by simpa using hVQ.symm)
  have K0 := k4.heap K0 (by simpa using hVK.symm)
  have hW3 := hW2.keep k4 (hR4.cells hW2.1 (by simp)) (hR4.map hW2.2)
  have hB3 := hB2.keepT k4 hR4
  have hz : Bs w2 (some ⟨g, 0, none⟩) zeroB ∧ Bt w2 g ∧ K ≤ g := by
    rcases ho2.2 with ⟨e, h0⟩ | ⟨g', cap, cur, e, hA, hgt, _⟩
    · cases h0
    · cases e; exact ⟨Bs.own ho2, ⟨_, hgt⟩, hA⟩
  have hgV : g ∉ [V] := hR4.cells hz.2.1.choose_spec (by simp)
  have kw3 : Chg [V] w w3 := (kk.mono (fun x hx _ => by cases hx)).then k4
  have hRw : Rt w base [V] := fun x hx => by
    rw [List.mem_singleton] at hx
    subst hx
    obtain ⟨_, _, hh, _⟩ := hS
    exact ⟨hbase.2, _, _, _, hh, by simp⟩
  have ho3 := ownsRow_chgV ho k4 hS2.choose_spec.choose_spec.1
  obtain ⟨cur, hg3, hcur⟩ : ∃ cur, w3.heap[g]? = some (.cells cur 5 (0, 0)) ∧ cur.size = c' * 1 ∧ cur.toList.take (40 * 1) = Lib.byteCells zeroB := by
    rcases ho2.2 with ⟨e, h0⟩ | ⟨g', cap, cur, e, hA, hgt, _, _, hsz, htk⟩
    · cases h0
    · cases e; exact ⟨cur, k4.heap hgt hgV, hsz, htk⟩
  have HC := Lib.hid hcur
  clear hcur
  have hgK := hz.2.2
  clear q3 a0 a1 hW2 hB2 hS2 hz ho2 kx kx2 kx0 k3 k4 hR4 hgV hX hW hS kk hbw hB
  clear ho
  have a0 : w3.cell? ⟨K, 0, none⟩ = some (.int .i64 b) := cell_is K0 0 rfl
  have a1 : w3.cell? ⟨K, 1, none⟩ = some (.int .i64 1) := cell_is K0 1 rfl
  have q1 : w3.cell? ⟨Q, 1, none⟩ = some (.pointer (some ⟨W, 0, none⟩)) := cell_is q 1 rfl
  have q4 : w3.cell? ⟨Q, 4, none⟩ = some s := cell_is q 4 rfl
  go_wp2_with fail
  go_step3
  go_wp2_with fail
  have hb0 : IntKind.i64.wrap b = b := by rw [IntKind.wrap_i64]; omega
  go_loopw [55] (fun i wr => (i = .int .i64 0 ∧ wr = w3) ∨ (i = .int .i64 1 ∧ ∃ T, Chg T w wr ∧ Rt w base T ∧ Bs wr (some ⟨g, 0, none⟩) l ∧ Vw wr base Q X W V (n + 1) ∧ SpV wr base V (n + 1))) (fun i _ => 1 - (intOf i).toNat)
  case atStart => exact Or.inl ⟨rfl, rfl⟩
  case round =>
    rcases hrel with ⟨rfl, rfl⟩ | ⟨rfl, T, kT, hT, hBs, hVw, hSp⟩
    · rcases hB3 with ⟨hg0, rfl⟩ | ⟨gb, cb, hg1, hbs, hl40, hbt⟩
      · go_wp2_with fail
        go_region_held3 (fun wx => wx.cell? ⟨Q, 1, none⟩ = some (.pointer (some ⟨W, 0, none⟩)) ∧ wx.cell? ⟨K, 0, none⟩ = some (.int .i64 b)) (first | (exact ⟨q1, a0⟩))
          (first | (go_at_call 211; refine (bget_none wr.drew (hW3.keep (Chg.refl [] wr).drew (by simp) (by simp)) hg0).mono ?_; rintro e wa ⟨rfl, rfl⟩))
        have k7 : Chg [] wr wr.drew := (Chg.refl [] wr).drew
        have hgb : wr.drew.heap[g]? = some (.cells cur 5 (0, 0)) := hg3
        have qb : ViewAt wr.drew Q X W V s := q
        have Kb : wr.drew.heap[K]? = some (.cells #[.int .i64 b, .int .i64 1] 117 (0, 0)) := K0
        have ob := ownsRow_chg ho3 k7
        have sb := hS3.keep0 k7
        have k9 : Chg [V] w wr.drew := kw3.drew
        have hBb : Bs wr.drew (some ⟨g, 0, none⟩) zeroB := Bs.block hgb (by have := HC.out.2; rw [show zeroB.length = 40 from rfl]; simpa using this)
        have hKQ : K ≠ Q := heap_ne Kb qb (by simp)
        have hgQ : Q ∉ [g] := by simpa using heap_ne qb hgb (by simp)
        clear hg3 q K0 ho3 hS3 kw3 k7 hW3 q1 a0 a1 q4
        generalize wr.drew = wb at *
        have a0 : wb.cell? ⟨K, 0, none⟩ = some (.int .i64 b) := cell_is Kb 0 rfl
        have q4 : wb.cell? ⟨Q, 4, none⟩ = some s := cell_is qb 4 rfl
        have a0d : wb.drew.cell? ⟨K, 0, none⟩ = some (.int .i64 b) := a0
        have q4d : wb.drew.cell? ⟨Q, 4, none⟩ = some s := q4
        have HBb := Lib.hid hBb
        go_wp2_with fail
        go_region_law
          (first
            | (go_simp; go_at_call 113; refine (clone_bs wb.drew (l := zeroB) (m := 40) rfl (by decide) (by decide) (HBb.out.chg (Chg.refl [] wb).drew)).mono ?_; rintro e w6 ⟨g2, c2, rfl, k6, _, _⟩; have a06 := k6.cell a0d (by simp); have q46 := k6.cell q4d (by simp); have ky : Chg [] wb (w6.alloc (.cells #[.int .i64 b, .slice (some ⟨g2, 0, none⟩) 40 c2, .bool false] 285)) := ((Chg.refl [] wb).drew.then k6).then_alloc _; have y0 := heap_new w6 (.cells #[.int .i64 b, .slice (some ⟨g2, 0, none⟩) 40 c2, .bool false] 285); have oy := ownsRow_chg ob ky; have qy := ky.heap qb (by simp); have q4y := cell_is qy 4 rfl; have a0y := cell_is (ky.heap Kb (by simp)) 0 rfl; have hQn := own_block_ne oy qy (by decide); have hby : base ≤ (w6.alloc (.cells #[.int .i64 b, .slice (some ⟨g2, 0, none⟩) 40 c2, .bool false] 285)).heap.size := (by have := heap_lt qy; omega); have gy := ky.heap hgb (by simp); have hgn := own_block_ne oy gy (by decide))
            | (refine step_append_rd rfl (.tmp 100) (.tmp 108) rfl base _ m xs rfl oy w6.heap.size 1 _ _ _ rfl (cell_is y0 0 rfl) (cell_is y0 1 rfl) (cell_is y0 2 rfl) ⟨rfl, rfl, rfl⟩ (by omega) hby ?_; intro g5 cp5 w5 o5 k5; have q5 := k5.heap qy hQn; have q45 := cell_is q5 4 rfl; have f45 := unfrozen q5 4))
        all_goals
          have HZ := Lib.hid (vread_end HRt k9 ky hm HBb.out gy hgn hgQ oy qy hQn (sb.keep0 ky) (g5 := g5) (cp5 := cp5) (w5 := w5) o5 k5)
          clear HBb gy hgn sb o5 k5 q5 f45 q45 hBb
          go_wp2_with fail
          go_roundw
          case rel => exact Or.inr ⟨rfl, HZ.out⟩
          case measure => decide
      · have HG := Lib.hid hg1
        have HL := Lib.hid hl40
        have HB := Lib.hid hbs
        clear hg1 hl40 hbs
        go_wp2_with fail
        go_region_held3 (fun wx => wx.cell? ⟨Q, 1, none⟩ = some (.pointer (some ⟨W, 0, none⟩)) ∧ wx.cell? ⟨K, 0, none⟩ = some (.int .i64 b)) (first | (exact ⟨q1, a0⟩) | (exact ⟨k6.cell q1 (by simp), k6.cell a0 (by simp)⟩))
          (first | (go_at_call 211; refine (bget_some wr.drew (hW3.keep (Chg.refl [] wr).drew (by simp) (by simp)) HG.out HB.out HL.out).mono ?_; rintro e wa ⟨g2, c2, rfl, k6, hbs6, l6⟩))
        have k7 := (Chg.refl [] wr).drew.then k6
        have hga := k7.heap hg3 (by simp)
        have hqa := k7.heap q (by simp)
        have hKa := k7.heap K0 (by simp)
        have hoa := ownsRow_chg ho3 k7
        have hSa := hS3.keep0 k7
        have k8 := kw3.then (k7.mono (T := [V]) (fun x hx _ => by cases hx))
        have hsrc : ∀ j v, (Lib.byteCells l)[j]? = some v → wa.cell? ((⟨g2, 0, none⟩ : Addr).add j) = some v := hbs6.cells_at
        have hlc : (Lib.byteCells l).length = 40 := by simpa [Lib.byteCells] using HL.out
        have H1 := Lib.hid hsrc
        have H2 := Lib.hid hlc
        have hfit : 0 + (Lib.byteCells l).length ≤ cur.size := by have := HC.out.1; omega
        have H3 := Lib.hid hfit
        clear hsrc hlc hfit
        go_wp2_with (refine wpList_copy_own rfl (.tmp 78) (.tmp 79) 23 23 rfl 5 ty23 (by kernel_rfl) g 0 40 c' ⟨g2, 0, none⟩ 40 c2 rfl rfl cur 5 hga (Lib.byteCells l) H2.out H1.out H3.out (fun v hv => byteCells_one l v hv) ?_)
        have kb : Chg [g] wa (wa.setRow g (List.take 0 cur.toList ++ (Lib.byteCells l ++ List.drop (0 + (Lib.byteCells l).length) cur.toList)).toArray) := chg_setRow _ _ _
        have hgb := setRow_heap wa g cur (List.take 0 cur.toList ++ (Lib.byteCells l ++ List.drop (0 + (Lib.byteCells l).length) cur.toList)).toArray 5 (0, 0) hga
        have hBb : Bs (wa.setRow g (List.take 0 cur.toList ++ (Lib.byteCells l ++ List.drop (0 + (Lib.byteCells l).length) cur.toList)).toArray) (some ⟨g, 0, none⟩) l := Bs.block hgb (by rw [HL.out, List.take_zero, List.nil_append, List.toList_toArray]; rw [show (40 : Nat) = (Lib.byteCells l).length from H2.out.symm]; exact List.take_left)
        generalize hwb : (wa.setRow g (List.take 0 cur.toList ++ (Lib.byteCells l ++ List.drop (0 + (Lib.byteCells l).length) cur.toList)).toArray) = wb at *
        clear hwb
        generalize (List.take 0 cur.toList ++ (Lib.byteCells l ++ List.drop (0 + (Lib.byteCells l).length) cur.toList)).toArray = Cb at hgb
        simp only [Act.put, List.setIfInBounds_toArray, List.set_cons_zero, List.set_cons_succ]
        have hgQ : Q ∉ [g] := by simpa using heap_ne hqa hga (by simp)
        have hgK2 : K ∉ [g] := by simpa using heap_ne hKa hga (by simp)
        have qb := kb.heap hqa hgQ
        have Kb := kb.heap hKa hgK2
        have ob := ownsRow_chg2 hoa kb hga
        have sb := hSa.keep kb (fun x hx cs t fr hh => by rw [List.mem_singleton] at hx; subst hx; rw [hga] at hh; cases hh; simp)
        have k9 : Chg [V] w wb := k8.trans kb (fun x hx hlt => by rw [List.mem_singleton] at hx; omega)
        have hKQ : K ≠ Q := heap_ne Kb qb (by simp)
        clear hga hqa hKa hoa hSa k7 k8 kb H1 H2 H3 hbs6 k6
        have a0 : wb.cell? ⟨K, 0, none⟩ = some (.int .i64 b) := cell_is Kb 0 rfl
        have q4 : wb.cell? ⟨Q, 4, none⟩ = some s := cell_is qb 4 rfl
        have ky : Chg [] wb (wb.drew.alloc (.cells #[.int .i64 b, .slice (some ⟨g2, 0, none⟩) 40 c2, .bool true] 285)) := (Chg.refl [] wb).drew.then_alloc _
        have y0 := heap_new wb.drew (.cells #[.int .i64 b, .slice (some ⟨g2, 0, none⟩) 40 c2, .bool true] 285)
        have oy := ownsRow_chg ob ky
        have qy := ky.heap qb (by simp)
        have Ky := ky.heap Kb (by simp)
        have q4y := cell_is qy 4 rfl
        have a0y := cell_is Ky 0 rfl
        have hQn := own_block_ne oy qy (by decide)
        have hKn := own_block_ne oy Ky (by decide)
        have hby : base ≤ (wb.drew.alloc (.cells #[.int .i64 b, .slice (some ⟨g2, 0, none⟩) 40 c2, .bool true] 285)).heap.size := by have := heap_lt qy; omega
        have q4d : wb.drew.cell? ⟨Q, 4, none⟩ = some s := q4
        have q4e : (wb.alloc (.cells #[.int .i64 b, .slice (some ⟨g2, 0, none⟩) 40 c2, .bool true] 285)).cell? ⟨Q, 4, none⟩ = some s := q4y
        have a0e : (wb.alloc (.cells #[.int .i64 b, .slice (some ⟨g2, 0, none⟩) 40 c2, .bool true] 285)).cell? ⟨K, 0, none⟩ = some (.int .i64 b) := a0y
        have a0d : wb.drew.cell? ⟨K, 0, none⟩ = some (.int .i64 b) := a0
        have gy := ky.heap hgb (by simp)
        have hgn := own_block_ne oy gy (by decide)
        have HF := Lib.hid (fun (g5 cp5 : Nat) (w5 : World) (o5 : w5.ownsRow base 285 3 (.slice (some ⟨g5, 0, none⟩) (m + 1) cp5) (m + 1) (xs ++ [.int .i64 b, .slice (some ⟨g2, 0, none⟩) 40 c2, .bool true])) (k5 : Chg s.ownBlock.toList (wb.drew.alloc (.cells #[.int .i64 b, .slice (some ⟨g2, 0, none⟩) 40 c2, .bool true] 285)) w5) =>
          vread_end HRt k9 ky hm hBb gy hgn hgQ oy qy hQn (sb.keep0 ky) o5 k5)
        clear hBb gy hgn sb
        go_region_law
          (first | (refine step_append_rd rfl (.tmp 85) (.tmp 92) rfl base _ m xs rfl oy wb.drew.heap.size 1 _ _ _ rfl (cell_is y0 0 rfl) (cell_is y0 1 rfl) (cell_is y0 2 rfl) ⟨rfl, rfl, rfl⟩ (by omega) hby ?_; intro g5 cp5 w5 o5 k5; have q5 := k5.heap qy hQn; have q45 := cell_is q5 4 rfl; have f45 := unfrozen q5 4; have a05 := k5.cell a0y hKn))
        all_goals
          have HZ := Lib.hid (HF.out g5 cp5 w5 o5 k5)
          clear HF o5 k5 q5 f45 q45
          go_wp2_with fail
          go_roundw
          case rel => exact Or.inr ⟨rfl, HZ.out⟩
          case measure => decide
    · have hgw : w.heap.size ≤ g := by omega
      go_wp2_with fail
      simp only [Exit.noGoto]
      go_ret2
      exact ⟨g, c', T, rfl, hc', kT, hT, hgw, hBs, hVw, hSp⟩
end Go.Proofs.YtfodeeejolkkfaaGreat
namespace Go.Proofs.YtfodeeejolkkfaaGreat
open Go.RowKit Go.Lib

/-- where the parts of a store with one transaction lie. -/
structure Ids where
  P : Nat
  N : Nat
  S : Nat
  M : Nat
  X : Nat
  rx : Nat
  B : Nat
  rb : Nat
  r : Nat
  A : Nat
  c : Nat
  Z : List Nat
  T : Nat
  W : Nat
  rw : Nat
  Q : Nat
  V : Nat
/-- the store's own parts; they lie below base. -/
structure Sta (w : World) (base : Nat) (d : Ids) : Prop where
  store : StoreAt w d.P d.N d.S (some ⟨d.M, 0, none⟩)
  dev : ∃ ops, DevAt w d.N d.A d.c ops d.Z
  mg : Mg w d.M d.X d.rx d.B d.rb d.r 1 [(1, .int .i64 0)] [(1, .pointer (some ⟨d.T, 0, none⟩))]
  low : d.P < base ∧ d.N < base ∧ d.A < base ∧ d.M < base ∧ d.X < base ∧ d.rx < base ∧ d.B < base ∧ d.rb < base ∧ d.r < base
  lowZ : ∀ z ∈ d.Z, z < base
theorem Sta.keep {w w' : World} {base : Nat} {d : Ids} {T : List Nat} (h : Sta w base d) (hc : Chg T w w') (hT : ∀ x ∈ T, base ≤ x) : Sta w' base d := by
  obtain ⟨l1, l2, l3, l4, l5, l6, l7, l8, l9⟩ := h.low
  have n : ∀ x, x < base → x ∉ T := fun x hx hm => by have := hT x hm; omega
  obtain ⟨ops, hd⟩ := h.dev
  have m := h.mg
  exact ⟨h.store.keep hc (n _ l1), ⟨ops, hd.keep hc (n _ l2) (n _ l3) (fun z hz => n _ (h.lowZ z hz))⟩,
    ⟨hc.heap m.mgr (n _ l4), ⟨hc.heap m.ver.1 (n _ l5), m.ver.2.keep hc (n _ l6)⟩, m.book.keep hc (n _ l7) (n _ l8), m.map.keep hc (n _ l9), m.n1, m.n2, m.n3⟩, h.low, h.lowZ⟩
/-- what of memory behind base may change while one transaction goes on. -/
def Ow (base : Nat) (w w' : World) : Prop := ∃ T, Chg T w w' ∧ ∀ x ∈ T, base ≤ x ∧ ∀ cs t fr, w.heap[x]? = some (.cells cs t fr) → t = 275 ∨ t = 312 ∨ t = 285
theorem Ow.refl (base : Nat) (w : World) : Ow base w w := ⟨[], Chg.refl _ _, fun x hx => by cases hx⟩
theorem Ow.of_chg {base : Nat} {w w' : World} (h : Chg [] w w') : Ow base w w' := ⟨[], h, fun x hx => by cases hx⟩
theorem Ow.trans {base : Nat} {a b c : World} (h : Ow base a b) (k : Ow base b c) : Ow base a c := by
  obtain ⟨T, h1, h2⟩ := h
  obtain ⟨U, k1, k2⟩ := k
  refine ⟨T ++ U, (h1.mono (fun x hx _ => List.mem_append_left _ hx)).then (k1.mono (fun x hx _ => List.mem_append_right _ hx)), fun x hx => ?_⟩
  by_cases hT : x ∈ T
  · exact h2 x hT
  · rcases List.mem_append.1 hx with hx | hx
    · exact absurd hx hT
    · exact ⟨(k2 x hx).1, fun cs t fr hh => (k2 x hx).2 cs t fr (h1.heap hh hT)⟩
theorem Ow.then {base : Nat} {a b c : World} (h : Ow base a b) (k : Chg [] b c) : Ow base a c := h.trans (Ow.of_chg k)
theorem Ow.heap {base : Nat} {w w' : World} (h : Ow base w w') {g : Nat} {cs : Array Value} {t : TypeId} {fr : Nat × Nat} (hg : w.heap[g]? = some (.cells cs t fr)) (ht : t ≠ 275 ∧ t ≠ 312 ∧ t ≠ 285) : w'.heap[g]? = some (.cells cs t fr) := by
  obtain ⟨T, h1, h2⟩ := h
  refine h1.heap hg (fun hm => ?_)
  rcases (h2 g hm).2 cs t fr hg with h | h | h
  · exact ht.1 h
  · exact ht.2.1 h
  · exact ht.2.2 h
theorem Ow.below {base : Nat} {w w' : World} (h : Ow base w w') {B : Nat} (hB : B ≤ w.heap.size) (hb : B ≤ base) : Below B w w' := by
  obtain ⟨T, h1, h2⟩ := h
  exact h1.below hB (fun x hx => Nat.le_trans hb (h2 x hx).1)
theorem Ow.size {base : Nat} {w w' : World} (h : Ow base w w') : w.heap.size ≤ w'.heap.size := by obtain ⟨T, h1, _⟩ := h; exact h1.size
theorem av_map {w : World} {r : Nat} {L : List (Int × Value)} (h : MapAt w r L) (ts : List Nat) : Av w [r] ts := fun x hx cs t fr hh => by rw [List.mem_singleton] at hx; subst hx; exact absurd rfl (map_cells h hh)
/-- a store with one transaction, whose blocks are q, behind n reads and k writes. -/
structure St (w : World) (base : Nat) (d : Ids) (q : Int → List UInt8) (n k : Nat) : Prop where
  sta : Sta w base d
  tx : TxAt w d.T d.W d.Q
  buf : ∃ L, BufAt w d.W d.rw L ∧ L.length ≤ k ∧ ∀ b, 0 ≤ b → b < 258 → Blk w L b (q b)
  vw : Vw w base d.Q d.X d.W d.V n
  sp : SpV w base d.V n
  high : base ≤ d.Q ∧ base ≤ d.V ∧ base ≤ d.rw
theorem St.keep {w w' : World} {base : Nat} {d : Ids} {q : Int → List UInt8} {n k : Nat} (h : St w base d q n k) (hc : Chg [] w w') : St w' base d q n k := by
  obtain ⟨L, h1, h2, h3⟩ := h.buf
  exact ⟨h.sta.keep hc (fun x hx => by cases hx), hc.heap h.tx (by simp), ⟨L, h1.keep hc (by simp) (by simp), h2, fun b hb hb' => (h3 b hb hb').keep hc⟩, h.vw.keep hc (Av.nil _ _), h.sp.keep0 hc, h.high⟩
theorem St.tx4 {w : World} {base : Nat} {d : Ids} {q : Int → List UInt8} {n k : Nat} (h : St w base d q n k) : ∃ L v s, Tx w d.X d.T d.W d.rw d.Q d.V L v s ∧ L.length ≤ k ∧ BufAt w d.W d.rw L ∧ ∀ b, 0 ≤ b → b < 258 → Blk w L b (q b) := by
  obtain ⟨L, h1, h2, h3⟩ := h.buf
  obtain ⟨s, m, xs, h4, _, _⟩ := h.vw
  obtain ⟨v, l, h5, _, _⟩ := h.sp
  exact ⟨L, v, s, ⟨h.tx, h1, h4, h5⟩, h2, h1, h3⟩
set_option maxRecDepth 100000 in
set_option maxHeartbeats 2000000 in
theorem tread_one (w : World) {base : Nat} {d : Ids} {q : Int → List UInt8} {n k : Nat} {b : Int} (h : St w base d q n k) (hn : n ≤ 11) (h0 : 0 ≤ b) (h1 : b < 258) :
    Calls Tryz.prog 125 #[.pointer (some ⟨d.M, 0, none⟩), .int .i64 1, .agg #[.int .i64 b, .int .i64 1]] w fun e w' =>
    ∃ g c', e = .returned (.tuple #[.slice (some ⟨g, 0, none⟩) 40 c', .int .i64 0]) ∧ 40 ≤ c' ∧ Ow base w w' ∧ St w' base d q (n + 1) k ∧ w.heap.size ≤ g ∧ Bs w' (some ⟨g, 0, none⟩) (q b) := by
  have k0 : Chg [] w (w.alloc (.cells #[.int .i64 b, .int .i64 1] 117)) := Chg.alloc w _
  have K0 := heap_new w (.cells #[.int .i64 b, .int .i64 1] 117)
  have h2 := h.keep k0
  have HO := Lib.hid (topen_one _ h2.sta.mg h2.tx)
  clear h
  go_enter Tryz.func125, Tryz.ntmps125
  go_wp2_with fail
  generalize w.alloc (.cells #[.int .i64 b, .int .i64 1] 117) = w1 at *
  generalize hK : w.heap.size = K at *
  refine HO.out.mono ?_
  rintro e w2 ⟨rfl, rfl⟩
  have t5 : w1.cell? ⟨d.T, 5, none⟩ = some (.pointer (some ⟨d.Q, 0, none⟩)) := cell_is h2.tx 5 rfl
  have a0 : w1.cell? ⟨K, 0, none⟩ = some (.int .i64 b) := cell_is K0 0 rfl
  have a1 : w1.cell? ⟨K, 1, none⟩ = some (.int .i64 1) := cell_is K0 1 rfl
  go_wp2_with fail
  obtain ⟨L, hbuf, hL, hq⟩ := h2.buf
  have h3 := h2.keep (Chg.refl [] w1).drew
  go_region_held3 (fun wx => wx.cell? ⟨d.T, 5, none⟩ = some (.pointer (some ⟨d.Q, 0, none⟩)) ∧ wx.cell? ⟨K, 0, none⟩ = some (.int .i64 b) ∧ wx.cell? ⟨K, 1, none⟩ = some (.int .i64 1))
    (first | (exact ⟨t5, a0, a1⟩) | (exact ⟨cell_is t6 5 rfl, cell_is K6 0 rfl, cell_is K6 1 rfl⟩))
    (first | (go_at_call 175; refine (vread_one w1.drew h3.sta.mg.ver (hbuf.keep (Chg.refl [] w1).drew (by simp) (by simp)) (hq b h0 h1) h3.vw h3.sp hn ⟨h3.high.1, h3.high.2.1⟩ h0 h1).mono ?_; rintro e w6 ⟨g, c', T, rfl, hc', k6, hT, hg, hB6, hV6, hS6⟩; have t6 := k6.heap h3.tx (hT.cells h3.tx (by simp)); have K6 := k6.heap K0 (hT.cells K0 (by simp))))
  have hlow : ∀ x ∈ T, base ≤ x := fun x hx => (hT x hx).1
  have hfin : St w6 base d q (n + 1) k := ⟨h3.sta.keep k6 hlow, t6, ⟨L, (hbuf.keep (Chg.refl [] w1).drew (by simp) (by simp)).keep k6 (hT.cells hbuf.1 (by simp)) (hT.map hbuf.2), hL, fun x hx hx' => ((hq x hx hx').keep (Chg.refl [] w1).drew).keepT k6 hT⟩, hV6, hS6, h3.high⟩
  have how : Ow base w w6 := by
    refine ⟨T, ((k0.drew.mono (T := T) (fun x hx _ => by cases hx))).then k6, fun x hx => ⟨hlow x hx, fun cs t fr hh => ?_⟩⟩
    have := k0.drew.heap hh (by simp)
    obtain ⟨_, cs', t', fr', hx', ht⟩ := hT x hx
    rw [this] at hx'
    cases hx'
    exact ht
  have hsz : w.heap.size ≤ g := by have := k0.size; have h9 : w1.drew.heap.size = w1.heap.size := rfl; omega
  clear hq hbuf h2 h3 hV6 hS6 k6 hT t6 K6
  go_wp2_with fail
  go_ret2
  exact ⟨g, c', rfl, hc', how, hfin, hsz, hB6⟩
set_option maxRecDepth 100000 in
set_option maxHeartbeats 2000000 in
theorem sread_one (w : World) {base : Nat} {d : Ids} {q : Int → List UInt8} {n k : Nat} {b : Int} (h : St w base d q n k) (hn : n ≤ 11) (h0 : 0 ≤ b) (h1 : b < 258) :
    Calls Tryz.prog 66 #[.pointer (some ⟨d.P, 0, none⟩), .int .i64 1, .agg #[.int .i64 b, .int .i64 1]] w fun e w' =>
    ∃ g c', e = .returned (.tuple #[.slice (some ⟨g, 0, none⟩) 40 c', .int .i64 0]) ∧ 40 ≤ c' ∧ Ow base w w' ∧ St w' base d q (n + 1) k ∧ w.heap.size ≤ g ∧ Bs w' (some ⟨g, 0, none⟩) (q b) := by
  have k0 : Chg [] w (w.alloc (.cells #[.int .i64 b, .int .i64 1] 117)) := Chg.alloc w _
  have K0 := heap_new w (.cells #[.int .i64 b, .int .i64 1] 117)
  have h2 := h.keep k0
  have HO := Lib.hid (dead_any _ h2.sta.store)
  clear h
  go_enter Tryz.func66, Tryz.ntmps66
  go_wp2_with fail
  generalize w.alloc (.cells #[.int .i64 b, .int .i64 1] 117) = w1 at *
  generalize hK : w.heap.size = K at *
  refine HO.out.mono ?_
  rintro e w2 ⟨rfl, rfl⟩
  have t5 : w1.cell? ⟨d.P, 5, none⟩ = some (.pointer (some ⟨d.M, 0, none⟩)) := cell_is h2.sta.store 5 rfl
  have a0 : w1.cell? ⟨K, 0, none⟩ = some (.int .i64 b) := cell_is K0 0 rfl
  have a1 : w1.cell? ⟨K, 1, none⟩ = some (.int .i64 1) := cell_is K0 1 rfl
  go_wp2_with fail
  have h3 := h2.keep (Chg.refl [] w1).drew
  go_region_held3 (fun wx => wx.cell? ⟨d.P, 5, none⟩ = some (.pointer (some ⟨d.M, 0, none⟩)) ∧ wx.cell? ⟨K, 0, none⟩ = some (.int .i64 b) ∧ wx.cell? ⟨K, 1, none⟩ = some (.int .i64 1))
    (first | (exact ⟨t5, a0, a1⟩) | (exact ⟨cell_is t6 5 rfl, cell_is K6 0 rfl, cell_is K6 1 rfl⟩))
    (first | (go_at_call 125; refine (tread_one w1.drew h3 hn h0 h1).mono ?_; rintro e w6 ⟨g, c', rfl, hc', k6, h6, hg, hB6⟩; have t6 := h6.sta.store; have K6 := k6.heap K0 (by simp)))
  have hsz : w.heap.size ≤ g := by have := k0.size; have h9 : w1.drew.heap.size = w1.heap.size := rfl; omega
  have how := (Ow.of_chg (base := base) k0.drew).trans k6
  clear h2 h3 t6 K6 k6
  go_wp2_with fail
  go_ret2
  exact ⟨g, c', rfl, hc', how, h6, hsz, hB6⟩
/-- the blocks behind a write. -/
def putQ (q : Int → List UInt8) (b : Int) (l : List UInt8) (x : Int) : List UInt8 := if x = b then l else q x
set_option maxRecDepth 100000 in
theorem swrite_st (w : World) {base : Nat} {d : Ids} {q : Int → List UInt8} {n k : Nat} {E eo cp D o c : Nat} {b : Int} {l : List UInt8} (h : St w base d q n k) (hk : k ≤ 15) (h0 : 0 ≤ b) (h1 : b < 258)
    (e0 : w.cell? ⟨E, eo, none⟩ = some (.int .i64 b)) (e1 : w.cell? ⟨E, eo + 1, none⟩ = some (.slice (some ⟨D, o, none⟩) 40 c)) (hb : Bs w (some ⟨D, o, none⟩) l) (hl : l.length = 40) :
    Calls Tryz.prog 48 #[.pointer (some ⟨d.P, 0, none⟩), .int .i64 1, .slice (some ⟨E, eo, none⟩) 1 cp] w fun e w' => e = .returned (.int .i64 0) ∧ Ow base w w' ∧ St w' base d (putQ q b l) n (k + 1) := by
  obtain ⟨L, v, s, hT, hL, hbuf, hq⟩ := h.tx4
  refine (swrite_one w h.sta.store h.sta.mg hT e0 e1 hb hl h0 h1 (by omega)).mono ?_
  rintro e w' ⟨g, c', rfl, kc, hB, hbs, hbt⟩
  have hr : ∀ {x : Nat} {cs : Array Value} {t : TypeId} {fr : Nat × Nat}, w.heap[x]? = some (.cells cs t fr) → x ∉ [d.rw] := fun hx => by simpa using (map_cells hbuf.2 hx).symm
  refine ⟨rfl, ⟨[d.rw], kc, fun x hx => ?_⟩, h.sta.keep kc (fun x hx => by rw [List.mem_singleton] at hx; subst hx; exact h.high.2.2), kc.heap h.tx (hr h.tx), ⟨_, hB, Nat.le_trans (putL_len _ _ _) (by omega), fun x hx hx' => ?_⟩, h.vw.keep kc (av_map hbuf.2 _), h.sp.keep kc (av_map hbuf.2 _), h.high⟩
  · rw [List.mem_singleton] at hx
    subst hx
    exact ⟨h.high.2.2, fun cs t fr hh => absurd rfl (map_cells hbuf.2 hh)⟩
  · unfold putQ
    by_cases hxb : x = b
    · rw [if_pos hxb]
      exact Or.inr ⟨g, c', by rw [getL_put, if_pos hxb], hbs, hl, hbt⟩
    · rw [if_neg hxb]
      rcases hq x hx hx' with ⟨hg, hz⟩ | ⟨g2, c2, hg, hb2, hl2, cs, ht2⟩
      · exact Or.inl ⟨by rw [getL_put, if_neg hxb]; exact hg, hz⟩
      · exact Or.inr ⟨g2, c2, by rw [getL_put, if_neg hxb]; exact hg, hb2.chgT kc (hr ht2), hl2, cs, kc.heap ht2 (hr ht2)⟩
end Go.Proofs.YtfodeeejolkkfaaGreat
namespace Go.Proofs.YtfodeeejolkkfaaGreat
open Go.RowKit Go.Lib

set_option maxRecDepth 100000 in
theorem rmay_min (w : World) : Calls Tryz.prog 152 #[.agg #[.int .i64 8, .int .i64 96]] w fun e w' => e = .returned (.bool true) ∧ Chg [] w w' := by
  go_enter Tryz.func152, Tryz.ntmps152
  go_wp2_with fail
  go_ret
  exact ⟨rfl, Chg.alloc _ _⟩
set_option maxRecDepth 100000 in
theorem rsplit_min (w : World) : Calls Tryz.prog 91 #[.agg #[.int .i64 8, .int .i64 96]] w fun e w' => e = .returned (.tuple #[.agg #[.int .i64 0, .int .i64 3, .int .i64 6, .int .i64 7], .int .i64 0]) ∧ Chg [] w w' := by
  go_enter Tryz.func91, Tryz.ntmps91
  go_wp2_with fail
  obtain ⟨g0, g1⟩ := two_new w (.cells #[.int .i64 8, .int .i64 96] 80) (.cells #[.int .i64 0, .int .i64 0, .int .i64 0, .int .i64 0] 164)
  have hc := chg_two w (.cells #[.int .i64 8, .int .i64 96] 80) (.cells #[.int .i64 0, .int .i64 0, .int .i64 0, .int .i64 0] 164)
  generalize (w.alloc (.cells #[.int .i64 8, .int .i64 96] 80)).alloc (.cells #[.int .i64 0, .int .i64 0, .int .i64 0, .int .i64 0] 164) = w1 at *
  refine (rmay_min w1).mono ?_
  rintro e w2 ⟨rfl, hc2⟩
  have k0 := hc2.heap g0 (by simp)
  have k1 := hc2.heap g1 (by simp)
  have hc3 := hc.then hc2
  have a0 : w2.cell? ⟨w.heap.size, 0, none⟩ = some (.int .i64 8) := cell_is k0 0 rfl
  have a1 : w2.cell? ⟨w.heap.size, 1, none⟩ = some (.int .i64 96) := cell_is k0 1 rfl
  clear g0 g1 k0 hc hc2
  have b0 := unfrozen k1 0
  have b1 := unfrozen k1 1
  have b2 := unfrozen k1 2
  have b3 := unfrozen k1 3
  have c0 := cell_is k1 0 rfl
  have c1 := cell_is k1 1 rfl
  have c2 := cell_is k1 2 rfl
  have c3 := cell_is k1 3 rfl
  go_wp2_with fail
  refine bodyPost_ret (v := .tuple #[.agg #[.int .i64 0, .int .i64 3, .int .i64 6, .int .i64 7], .int .i64 0]) (by simp [results, Tryz.results91, go_sem, c0, c1, c2, c3]) rfl ?_
  exact ⟨rfl, (((hc3.new_set (by omega) _ _).new_set (by omega) _ _).new_set (by omega) _ _).new_set (by omega) _ _⟩
set_option maxRecDepth 100000 in
theorem rcap_min (w : World) : Calls Tryz.prog 44 #[.agg #[.int .i64 8, .int .i64 96]] w fun e w' => e = .returned (.int .i64 258) ∧ Chg [] w w' := by
  go_enter Tryz.func44, Tryz.ntmps44
  go_wp2_with fail
  have g0 := heap_new w (.cells #[.int .i64 8, .int .i64 96] 80)
  have hc : Chg [] w (w.alloc (.cells #[.int .i64 8, .int .i64 96] 80)) := Chg.alloc _ _
  generalize w.alloc (.cells #[.int .i64 8, .int .i64 96] 80) = w1 at *
  refine (rsplit_min w1).mono ?_
  rintro e w2 ⟨rfl, hc2⟩
  have k0 := hc2.heap g0 (by simp)
  have hc3 := hc.then hc2
  have a1a : ∀ o, (w2.alloc o).cell? ⟨w.heap.size, 1, none⟩ = some (.int .i64 96) := fun o => cell_is (heap_old k0) 1 rfl
  clear g0 k0 hc hc2
  go_wp2_with fail
  go_ret
  exact ⟨rfl, hc3.then_alloc _⟩
set_option maxRecDepth 100000 in
theorem rmap_new (w : World) : Calls Tryz.prog 90 #[.int .i64 258] w fun e w' => ∃ Y, e = .returned (.tuple #[.pointer (some ⟨Y, 0, none⟩), .int .i64 0]) ∧ Chg [] w w' ∧ w.heap.size ≤ Y := by
  go_enter Tryz.func90, Tryz.ntmps90
  go_wp2_with fail
  go_ret2
  exact ⟨_, rfl, Chg.alloc _ _, Nat.le_refl _⟩
/-- block G is a reference's manager that has begun n times. -/
def RmAt (w : World) (G Y : Nat) (a b c : Value) (n : Int) : Prop :=
  w.heap[G]? = some (.cells #[.pointer (some ⟨Y, 0, none⟩), .int .i64 16, a, b, .int .i64 n, c, .slice none 0 0, .slice none 0 0, .int .i64 0, .int .i64 0, .int .i64 0, .int .i64 0, .bool false, .int .i64 258, .int .i64 0] 163 (0, 0))
set_option maxRecDepth 100000 in
theorem rm_new (w : World) : Calls Tryz.prog 43 #[.int .i64 258, .int .i64 0] w fun e w' => ∃ G Y, e = .returned (.tuple #[.pointer (some ⟨G, 0, none⟩), .int .i64 0]) ∧ Chg [] w w' ∧ RmAt w' G Y (.slice none 0 0) (.slice none 0 0) (.slice none 0 0) 0 ∧ w.heap.size ≤ G := by
  go_enter Tryz.func43, Tryz.ntmps43
  go_wp2_with fail
  refine (rmap_new w).mono ?_
  rintro e w1 ⟨Y, rfl, k1, hY⟩
  go_wp2_with fail
  go_ret2
  exact ⟨_, Y, rfl, k1.then_alloc _, heap_new w1 _, k1.size⟩
set_option maxRecDepth 100000 in
theorem rbuf_new (w : World) : Calls Tryz.prog 121 #[.int .i64 258, .int .i64 16] w fun e w' => ∃ Y, e = .returned (.tuple #[.pointer (some ⟨Y, 0, none⟩), .int .i64 0]) ∧ Chg [] w w' ∧ w.heap.size ≤ Y := by
  go_enter Tryz.func121, Tryz.ntmps121
  go_wp2_with fail
  go_ret2
  exact ⟨_, rfl, Chg.alloc _ _, Nat.le_refl _⟩
set_option maxRecDepth 100000 in
theorem rview_new (w : World) (X B : Nat) : Calls Tryz.prog 122 #[.pointer (some ⟨X, 0, none⟩), .pointer (some ⟨B, 0, none⟩), .int .i64 0] w fun e w' => ∃ Y, e = .returned (.pointer (some ⟨Y, 0, none⟩)) ∧ Chg [] w w' ∧ w.heap.size ≤ Y := by
  go_enter Tryz.func122, Tryz.ntmps122
  go_wp2_with fail
  go_ret
  exact ⟨_, rfl, Chg.alloc _ _, Nat.le_refl _⟩
end Go.Proofs.YtfodeeejolkkfaaGreat
namespace Go.Proofs.YtfodeeejolkkfaaGreat
open Go.RowKit Go.Lib

theorem step_append_run {P : Program} {ops : Array Oper} {o : Oper} {a : Act} {w : World} {K : Act → World → Prop} {Q : Exit → Act → World → Prop} {E : Prop} (hgd : o.guard = none) (s x : Operand) (t t' : TypeId)
    (ho : o.op = .call { callee := .builtin .append, args := #[s, x], argTypes := #[t, t'] }) (v y : Value) (hs : a.eval s = v) (hx : a.eval x = y) (v' : Value) (w' : World) (hr : (Builtin.append_ #[t, t'] o.type #[v, y]).run P w = .ok v' w') (h : K (a.put o.dst v') w') :
    if Region.wanted o (yielded ops a.tmps) = true then Oper.wp P o a w K Q else E := by
  have hw : Region.wanted o (yielded ops a.tmps) = true := by simp [Region.wanted, hgd]
  rw [if_pos hw]
  unfold Oper.wp execOp
  simp only [ho, resolve, invoke, builtin, Sem.run_bind, Sem.run_pure, Result.andThen_ok, List.map_toArray, List.map_cons, List.map_nil, hs, hx, hr]
  exact h
theorem ty62 : Tryz.prog.underlying 62 = some (.slice 3) := by kernel_rfl
theorem inf3 : (Tryz.prog.info? 3).map (fun i => (i.zero, i.size, i.bytes)) = some (some (.int .i64 0), 1, 8) := by kernel_rfl
theorem ty161 : Tryz.prog.underlying 161 = some (.slice 206) := by kernel_rfl
theorem inf206 : (Tryz.prog.info? 206).map (fun i => (i.zero, i.size, i.bytes)) = some (some (.pointer none), 1, 8) := by kernel_rfl
/-- nothing is put behind an empty row of ints. -/
theorem append_none (w : World) (z : Nat) (ty : TypeId) : (Builtin.append_ #[62, 62] ty #[.slice (some ⟨z, 0, none⟩) 0 0, .slice none 0 0]).run Tryz.prog w = .ok (.slice (some ⟨z, 0, none⟩) 0 0) w := by
  obtain ⟨i, hi0, hz, hz1, hz2⟩ := info_parts inf3
  simp [Builtin.append_, run_underlying ty62, sizeOf, typeInfo, hi0, Builtin.lenOf, Builtin.firstCells, storeCells]
theorem own0 (w : World) (z : Nat) (hz : w.heap[z]? = some (.cells #[] 3 (0, 0))) : w.ownsRow 0 3 1 (.slice (some ⟨z, 0, none⟩) 0 0) 0 [] :=
  ⟨rfl, Or.inr ⟨z, 0, #[], rfl, Nat.zero_le _, hz, Nat.le_refl _, by unfold maxLen; omega, rfl, rfl⟩⟩
/-- an int is put behind an empty row of ints. -/
theorem step_append_int {ops : Array Oper} {o : Oper} {a : Act} {w : World} {K : Act → World → Prop} {Q : Exit → Act → World → Prop} {E : Prop} (hgd : o.guard = none) (s x : Operand)
    (ho : o.op = .call { callee := .builtin .append, args := #[s, x], argTypes := #[62, 62] }) (z b c : Nat) (k : Int) (hs : a.eval s = .slice (some ⟨z, 0, none⟩) 0 0) (hz : w.heap[z]? = some (.cells #[] 3 (0, 0)))
    (hx : a.eval x = .slice (some ⟨b, 0, none⟩) 1 c) (hb : w.cell? ⟨b, 0, none⟩ = some (.int .i64 k))
    (h : ∀ g cap w', Chg [z] w w' → K (a.put o.dst (.slice (some ⟨g, 0, none⟩) 1 cap)) w') :
    if Region.wanted o (yielded ops a.tmps) = true then Oper.wp Tryz.prog o a w K Q else E := by
  obtain ⟨i, hi0, hz0, hz1, hz2⟩ := info_parts inf3
  refine step_append_lies w hgd s x 62 ho 0 3 i _ 1 8 ty62 hi0 hz0 hz1 hz2 rfl (by decide) _ 0 [] hs (own0 w z hz) ⟨b, 0, none⟩ 1 c [.int .i64 k] hx rfl ?_ ?_ (by decide) (by unfold maxLen; omega) (by omega) (Nat.zero_le _) _ rfl ?_
  · intro j u hu
    rw [add_lit, Nat.zero_add]
    match j with
    | 0 => cases hu; exact hb
    | j + 1 => simp at hu
  · intro u hu
    simp at hu
    subst hu
    rfl
  · intro g cap w' _ h3 _ _
    exact h g cap w' (Chg.of_grown h3)
theorem wpList_append_int {ops : Array Oper} {rest : List Oper} {o : Oper} {a : Act} {w : World} {Q : Exit → Act → World → Prop} (hgd : o.guard = none) (s x : Operand)
    (ho : o.op = .call { callee := .builtin .append, args := #[s, x], argTypes := #[62, 62] }) (z b c : Nat) (k : Int) (hs : a.eval s = .slice (some ⟨z, 0, none⟩) 0 0) (hz : w.heap[z]? = some (.cells #[] 3 (0, 0)))
    (hx : a.eval x = .slice (some ⟨b, 0, none⟩) 1 c) (hb : w.cell? ⟨b, 0, none⟩ = some (.int .i64 k))
    (h : ∀ g cap w', Chg [z] w w' → wpList Tryz.prog ops Q rest (a.put o.dst (.slice (some ⟨g, 0, none⟩) 1 cap)) w') : wpList Tryz.prog ops Q (o :: rest) a w := by
  obtain ⟨i, hi0, hz0, hz1, hz2⟩ := info_parts inf3
  refine wpList_append_lies w hgd s x 62 ho 0 3 i _ 1 8 ty62 hi0 hz0 hz1 hz2 rfl (by decide) _ 0 [] hs (own0 w z hz) ⟨b, 0, none⟩ 1 c [.int .i64 k] hx rfl ?_ ?_ (by decide) (by unfold maxLen; omega) (by omega) (Nat.zero_le _) _ rfl ?_
  · intro j u hu
    rw [add_lit, Nat.zero_add]
    match j with
    | 0 => cases hu; exact hb
    | j + 1 => simp at hu
  · intro u hu
    simp at hu
    subst hu
    rfl
  · intro g cap w' _ h3 _ _
    exact h g cap w' (Chg.of_grown h3)
set_option maxRecDepth 100000 in
set_option maxHeartbeats 4000000 in
theorem rbook_open (w : World) {G Y : Nat} (h : RmAt w G Y (.slice none 0 0) (.slice none 0 0) (.slice none 0 0) 0) : Calls Tryz.prog 120 #[.pointer (some ⟨G, 1, none⟩), .int .i64 0] w fun e w' =>
    ∃ a b, e = .returned (.tuple #[.int .i64 1, .int .i64 0]) ∧ Chg [G] w w' ∧ RmAt w' G Y a b (.slice none 0 0) 1 := by
  have c1 : w.cell? ⟨G, 1, none⟩ = some (.int .i64 16) := cell_is h 1 rfl
  have c2 : w.cell? ⟨G, 2, none⟩ = some (.slice none 0 0) := cell_is h 2 rfl
  have c3 : w.cell? ⟨G, 3, none⟩ = some (.slice none 0 0) := cell_is h 3 rfl
  have c4 : w.cell? ⟨G, 4, none⟩ = some (.int .i64 0) := cell_is h 4 rfl
  have f4 := unfrozen h 4
  go_enter Tryz.func120, Tryz.ntmps120
  go_wp2_with fail
  go_quiet (fail)
  go_upto_region 6 with fail
  have h1 : RmAt ((w.drewN nq).setCell ⟨G, 4, none⟩ (.int .i64 1)) G Y (.slice none 0 0) (.slice none 0 0) (.slice none 0 0) 1 := heap_set (show (w.drewN nq).heap[G]? = _ from h) 4 _ rfl
  have k1 : Chg [G] w ((w.drewN nq).setCell ⟨G, 4, none⟩ (.int .i64 1)) := ((Chg.refl [G] w).drewN nq).then (Chg.set _ G 4 _)
  generalize (w.drewN nq).setCell ⟨G, 4, none⟩ (.int .i64 1) = w1 at *
  clear c1 c2 c3 c4 f4
  have hG := heap_lt h1
  have e2 : w1.cell? ⟨G, 2, none⟩ = some (.slice none 0 0) := cell_is h1 2 rfl
  have e4 : w1.cell? ⟨G, 4, none⟩ = some (.int .i64 1) := cell_is h1 4 rfl
  have e2d : w1.drew.cell? ⟨G, 2, none⟩ = some (.slice none 0 0) := e2
  have e4d : w1.drew.cell? ⟨G, 4, none⟩ = some (.int .i64 1) := e4
  have e2a : ∀ o, (w1.alloc o).cell? ⟨G, 2, none⟩ = some (.slice none 0 0) := fun o => cell_is (heap_old h1) 2 rfl
  have e4a : ∀ o, (w1.alloc o).cell? ⟨G, 4, none⟩ = some (.int .i64 1) := fun o => cell_is (heap_old h1) 4 rfl
  have e2b : ∀ o p, ((w1.alloc o).alloc p).cell? ⟨G, 2, none⟩ = some (.slice none 0 0) := fun o p => cell_is (heap_old (heap_old h1)) 2 rfl
  have e4b : ∀ o p, ((w1.alloc o).alloc p).cell? ⟨G, 4, none⟩ = some (.int .i64 1) := fun o p => cell_is (heap_old (heap_old h1)) 4 rfl
  obtain ⟨zA, bA⟩ := two_new w1 (.cells #[] 3) (.cells #[.int .i64 1] 3)
  obtain ⟨bB, zB⟩ := two_new w1 (.cells #[.int .i64 1] 3) (.cells #[] 3)
  have rA : RmAt ((w1.alloc (.cells #[] 3)).alloc (.cells #[.int .i64 1] 3)) G Y (.slice none 0 0) (.slice none 0 0) (.slice none 0 0) 1 := heap_old (heap_old h1)
  have rB : RmAt ((w1.alloc (.cells #[.int .i64 1] 3)).alloc (.cells #[] 3)) G Y (.slice none 0 0) (.slice none 0 0) (.slice none 0 0) 1 := heap_old (heap_old h1)
  have kA := (Chg.refl [G] w1).drew.then_alloc (.cells #[] 3) |>.then_alloc (.cells #[.int .i64 1] 3)
  have kB := (Chg.refl [G] w1).drew.then_alloc (.cells #[.int .i64 1] 3) |>.then_alloc (.cells #[] 3)
  have nA : G ∉ [w1.heap.size] := by simp; omega
  have nB : G ∉ [w1.heap.size + 1] := by simp; omega
  go_cut [5] from 29 (fun e wx => e = .int .i64 0 ∧ ∃ a, RmAt wx G Y a (.slice none 0 0) (.slice none 0 0) 1 ∧ Chg [G] w wx)
  case first =>
    go_region_law
      (first
        | (refine step_append_run rfl (.tmp 30) (.tmp 34) 62 62 rfl _ _ rfl rfl _ _ (append_none _ _ _) ?_)
        | (refine step_append_int rfl (.tmp 35) (.tmp 40) rfl w1.heap.size (w1.heap.size + 1) 1 1 rfl zA rfl (cell_is bA 0 rfl) ?_; intro g5 cp5 w5 k5; have r5 := k5.heap rA nA; have c5 := cell_is r5 2 rfl; have f5 := unfrozen r5 2; have k6 : Chg [G] w1 w5 := kA.trans k5 (by intro x hx hlt; rw [List.mem_singleton] at hx; omega))
        | (refine step_append_int rfl (.tmp 35) (.tmp 40) rfl (w1.heap.size + 1) w1.heap.size 1 1 rfl zB rfl (cell_is bB 0 rfl) ?_; intro g5 cp5 w5 k5; have r5 := k5.heap rB nB; have c5 := cell_is r5 2 rfl; have f5 := unfrozen r5 2; have k6 : Chg [G] w1 w5 := kB.trans k5 (by intro x hx hlt; rw [List.mem_singleton] at hx; omega)))
    all_goals
      have r6 : RmAt (w5.setCell ⟨G, 2, none⟩ (.slice (some ⟨g5, 0, none⟩) 1 cp5)) G Y (.slice (some ⟨g5, 0, none⟩) 1 cp5) (.slice none 0 0) (.slice none 0 0) 1 := heap_set r5 2 _ rfl
      have k7 := (k1.then k6).then (Chg.set w5 G 2 (.slice (some ⟨g5, 0, none⟩) 1 cp5))
      clear k6 r5 c5 f5
      go_wp2_with fail
      go_meet
      exact ⟨rfl, _, r6, k7⟩
  case rest =>
    obtain ⟨rfl, a, h7, k7⟩ := hcut
    clear k1 h1 e2 e4 e2d e4d e2a e4a e2b e4b zA bA zB bB rA rB kA kB nA nB hG h
    have hG := heap_lt h7
    have c3 : wc.cell? ⟨G, 3, none⟩ = some (.slice none 0 0) := cell_is h7 3 rfl
    have c3a : ∀ o, (wc.alloc o).cell? ⟨G, 3, none⟩ = some (.slice none 0 0) := fun o => cell_is (heap_old h7) 3 rfl
    have c4 : wc.cell? ⟨G, 4, none⟩ = some (.int .i64 1) := cell_is h7 4 rfl
    obtain ⟨zA, bA⟩ := two_new wc (.cells #[] 3) (.cells #[.int .i64 0] 3)
    have rA : RmAt ((wc.alloc (.cells #[] 3)).alloc (.cells #[.int .i64 0] 3)) G Y a (.slice none 0 0) (.slice none 0 0) 1 := heap_old (heap_old h7)
    have kA := (Chg.refl [G] wc).then_alloc (.cells #[] 3) |>.then_alloc (.cells #[.int .i64 0] 3)
    have nA : G ∉ [wc.heap.size] := by simp; omega
    have HF := Lib.hid (fun (g5 cp5 : Nat) (w5 : World) (k5 : Chg [wc.heap.size] ((wc.alloc (.cells #[] 3)).alloc (.cells #[.int .i64 0] 3)) w5) =>
      (show RmAt (w5.setCell ⟨G, 3, none⟩ (.slice (some ⟨g5, 0, none⟩) 1 cp5)) G Y a (.slice (some ⟨g5, 0, none⟩) 1 cp5) (.slice none 0 0) 1 ∧ Chg [G] w (w5.setCell ⟨G, 3, none⟩ (.slice (some ⟨g5, 0, none⟩) 1 cp5)) from
        ⟨heap_set (k5.heap rA nA) 3 _ rfl, (k7.then (kA.trans k5 (by intro x hx hlt; rw [List.mem_singleton] at hx; omega))).then (Chg.set w5 G 3 _)⟩))
    go_wp2_with (at_builtin; first
      | (refine Lib.wpList_append_run _ rfl (.tmp 45) (.tmp 49) 62 62 rfl _ _ rfl rfl _ _ (append_none _ _ _) ?_)
      | (refine wpList_append_int rfl (.tmp 50) (.tmp 52) rfl wc.heap.size (wc.heap.size + 1) 1 0 rfl zA rfl (cell_is bA 0 rfl) ?_; intro g5 cp5 w5 k5; have r5 := k5.heap rA nA; have c5 := cell_is r5 3 rfl; have f5 := unfrozen r5 3; have c6 : (w5.setCell ⟨G, 3, none⟩ (.slice (some ⟨g5, 0, none⟩) 1 cp5)).cell? ⟨G, 4, none⟩ = some (.int .i64 1) := cell_is (heap_set r5 3 _ rfl) 4 rfl))
    go_ret2
    have hf := HF.out g5 cp5 w5 k5
    exact ⟨_, _, rfl, hf.2, hf.1⟩
end Go.Proofs.YtfodeeejolkkfaaGreat
namespace Go.Proofs.YtfodeeejolkkfaaGreat
open Go.RowKit Go.Lib

/-- a pointer is put behind nothing. -/
theorem step_append_ptr {ops : Array Oper} {o : Oper} {a : Act} {w : World} {K : Act → World → Prop} {Q : Exit → Act → World → Prop} {E : Prop} (hgd : o.guard = none) (s x : Operand)
    (ho : o.op = .call { callee := .builtin .append, args := #[s, x], argTypes := #[161, 161] }) (b c : Nat) (k : Value) (hs : a.eval s = .slice none 0 0)
    (hx : a.eval x = .slice (some ⟨b, 0, none⟩) 1 c) (hb : w.cell? ⟨b, 0, none⟩ = some k) (hk : k.oneCell' = true)
    (h : ∀ g cap w', Chg [] w w' → K (a.put o.dst (.slice (some ⟨g, 0, none⟩) 1 cap)) w') :
    if Region.wanted o (yielded ops a.tmps) = true then Oper.wp Tryz.prog o a w K Q else E := by
  obtain ⟨i, hi0, hz0, hz1, hz2⟩ := info_parts inf206
  refine step_append_lies w hgd s x 161 ho 0 206 i _ 1 8 ty161 hi0 hz0 hz1 hz2 rfl (by decide) _ 0 [] hs (World.ownsRow_nil _ _ _ _) ⟨b, 0, none⟩ 1 c [k] hx rfl ?_ ?_ (by decide) (by unfold maxLen; omega) (by omega) (Nat.zero_le _) _ rfl ?_
  · intro j u hu
    rw [add_lit, Nat.zero_add]
    match j with
    | 0 => cases hu; exact hb
    | j + 1 => simp at hu
  · intro u hu
    simp at hu
    subst hu
    exact hk
  · intro g cap w' _ h3 _ _
    exact h g cap w' (Chg.of_grown0 h3)
set_option maxRecDepth 100000 in
set_option maxHeartbeats 8000000 in
theorem rbegin_one (w : World) {G Y : Nat} (h : RmAt w G Y (.slice none 0 0) (.slice none 0 0) (.slice none 0 0) 0) : Calls Tryz.prog 64 #[.pointer (some ⟨G, 0, none⟩)] w fun e w' =>
    e = .returned (.tuple #[.int .i64 1, .int .i64 0]) ∧ Chg [G] w w' := by
  have c11 : w.cell? ⟨G, 11, none⟩ = some (.int .i64 0) := cell_is h 11 rfl
  go_enter Tryz.func64, Tryz.ntmps64
  go_wp2_with fail
  go_region_held3 (fun wx => wx.cell? ⟨G, 11, none⟩ = some (.int .i64 0)) (first | (exact c11) | (exact cell_is h2 11 rfl))
    (first | (go_at_call 120; refine (rbook_open w.drew (G := G) (Y := Y) h).mono ?_; rintro e w2 ⟨a, b, rfl, k2, h2⟩))
  have k2' := (Chg.refl [G] w).drew.then k2
  clear c11 k2 h
  have c13 : w2.cell? ⟨G, 13, none⟩ = some (.int .i64 258) := cell_is h2 13 rfl
  go_wp2_with fail
  refine (rbuf_new w2).mono ?_
  rintro e w3 ⟨U, rfl, k3, -⟩
  have h3 : RmAt w3 G Y a b (.slice none 0 0) 1 := k3.heap h2 (by simp)
  have k3' := k2'.then (k3.mono (T := [G]) (fun x hx _ => by cases hx))
  clear c13 h2 k2' k3
  go_wp2_with fail
  have e5 : w3.cell? ⟨G, 5, none⟩ = some (.slice none 0 0) := cell_is h3 5 rfl
  have e0 : w3.cell? ⟨G, 0, none⟩ = some (.pointer (some ⟨Y, 0, none⟩)) := cell_is h3 0 rfl
  have e11 : w3.cell? ⟨G, 11, none⟩ = some (.int .i64 0) := cell_is h3 11 rfl
  have e5d : w3.drew.cell? ⟨G, 5, none⟩ = some (.slice none 0 0) := e5
  have e0d : w3.drew.cell? ⟨G, 0, none⟩ = some (.pointer (some ⟨Y, 0, none⟩)) := e0
  have e11d : w3.drew.cell? ⟨G, 11, none⟩ = some (.int .i64 0) := e11
  go_region_law
    (first
      | (go_simp; go_at_call 122; refine (rview_new w3.drew Y U).mono ?_; rintro e w4 ⟨D, rfl, k4, -⟩; have h4 : RmAt w4 G Y a b (.slice none 0 0) 1 := k4.heap h3 (by simp); have g5 := cell_is h4 5 rfl; have g5a : ∀ o, (w4.alloc o).cell? ⟨G, 5, none⟩ = some (.slice none 0 0) := (fun o => cell_is (heap_old h4) 5 rfl); have g5b : ∀ o p, ((w4.alloc o).alloc p).cell? ⟨G, 5, none⟩ = some (.slice none 0 0) := (fun o p => cell_is (heap_old (heap_old h4)) 5 rfl); have x1 := (two_new w4 (.cells #[.int .i64 1, .int .i64 0, .int .i64 0, .pointer (some ⟨D, 0, none⟩), .pointer (some ⟨U, 0, none⟩)] 210) (.cells #[.pointer (some ⟨w4.heap.size, 0, none⟩)] 206)).2; have h6 : RmAt ((w4.alloc (.cells #[.int .i64 1, .int .i64 0, .int .i64 0, .pointer (some ⟨D, 0, none⟩), .pointer (some ⟨U, 0, none⟩)] 210)).alloc (.cells #[.pointer (some ⟨w4.heap.size, 0, none⟩)] 206)) G Y a b (.slice none 0 0) 1 := heap_old (heap_old h4))
      | (refine step_append_ptr rfl (.tmp 34) (.tmp 48) rfl (w4.heap.size + 1) 1 _ rfl rfl (cell_is x1 0 rfl) rfl ?_; intro q5 cp5 w5 k5; have h7 : RmAt w5 G Y a b (.slice none 0 0) 1 := k5.heap h6 (by simp); have c7 := cell_is h7 5 rfl; have f7 := unfrozen h7 5))
  all_goals
    have kf : Chg [G] w (w5.setCell ⟨G, 5, none⟩ (.slice (some ⟨q5, 0, none⟩) 1 cp5)) := ((((k3'.drew.then (k4.mono (T := [G]) (fun x hx _ => by cases hx))).then_alloc _).then_alloc _).then (k5.mono (T := [G]) (fun x hx _ => by cases hx))).then (Chg.set w5 G 5 _)
    clear h4 g5 g5a g5b x1 h6 h7 c7 f7 k4 k5
    go_wp2_with fail
    go_ret2
    exact ⟨rfl, kf⟩
end Go.Proofs.YtfodeeejolkkfaaGreat
namespace Go.Proofs.YtfodeeejolkkfaaGreat
open Go.RowKit Go.Lib

/-- a store with one transaction, whose blocks are these numbers. -/
structure Sn (w : World) (base : Nat) (d : Ids) (f : Int → List Nat) (n k : Nat) : Prop where
  st : St w base d (fun b => packB (f b)) n k
  five : ∀ b, (f b).length = 5 ∧ ∀ x ∈ f b, CanB x
theorem Sn.keep {w w' : World} {base : Nat} {d : Ids} {f : Int → List Nat} {n k : Nat} (h : Sn w base d f n k) (hc : Chg [] w w') : Sn w' base d f n k := ⟨h.st.keep hc, h.five⟩
theorem unpack_can {l : List Nat} (hl : l.length = 5) (h : ∀ x ∈ l, CanB x) : unpackB (packB l) = some l := by
  rw [unpackB_pack hl (fun x hx => (h x hx).1)]
  congr 1
  rw [List.map_congr_left (fun x hx => canB_self (h x hx)), List.map_id']
set_option maxRecDepth 100000 in
set_option maxHeartbeats 1000000 in
theorem block_out (w : World) {base : Nat} {d : Ids} {f : Int → List Nat} {n k : Nat} {i : Int} (h : Sn w base d f n k) (hi : i < 0 ∨ 1290 ≤ i) :
    Calls Tryz.prog 47 #[.pointer (some ⟨d.P, 0, none⟩), .int .i64 1, .int .i64 i] w fun e w' => e = .returned (.tuple #[.slice none 0 0, .int .i64 2]) ∧ Chg [] w w' := by
  obtain ⟨ops, hd⟩ := h.st.sta.dev
  have HC := Lib.hid (ccount_any w h.st.sta.store hd)
  clear h hd
  rcases (show i < 0 ∨ 0 ≤ i by omega) with h0 | h0
  · have n0 : decide (i < 0) = true := decide_eq_true h0
    go_enter Tryz.func47, Tryz.ntmps47
    go_wp2_with fail
    go_ret2
    exact ⟨rfl, Chg.refl _ _⟩
  · have n0 : decide (i < 0) = false := decide_eq_false (by omega)
    have n1 : (1290 : Int) ≤ i := by omega
    go_enter Tryz.func47, Tryz.ntmps47
    go_wp2_with fail
    refine HC.out.mono ?_
    rintro e w1 ⟨rfl, k1⟩
    go_wp2_with fail
    go_ret2
    exact ⟨rfl, k1⟩
set_option maxRecDepth 100000 in
set_option maxHeartbeats 1000000 in
theorem block_in (w : World) {base : Nat} {d : Ids} {f : Int → List Nat} {n k m : Nat} (h : Sn w base d f n k) (hn : n ≤ 11) (hm : m < 1290) :
    Calls Tryz.prog 47 #[.pointer (some ⟨d.P, 0, none⟩), .int .i64 1, .int .i64 m] w fun e w' => ∃ v, e = .returned (.tuple #[v, .int .i64 0]) ∧ Ow base w w' ∧ Sn w' base d f (n + 1) k ∧ w'.ownsRow w.heap.size 42 1 v 5 (flCells (f (m / 5 : Nat))) := by
  obtain ⟨ops, hd⟩ := h.st.sta.dev
  have HC := Lib.hid (ccount_any w h.st.sta.store hd)
  have n0 : decide ((m : Int) < 0) = false := decide_eq_false (by omega)
  have n1 : ¬ (1290 : Int) ≤ m := by omega
  have hq : (m : Int).tdiv 5 = ((m / 5 : Nat) : Int) := rfl
  have h5 := h.five (m / 5 : Nat)
  have hu := unpack_can h5.1 h5.2
  have HU := Lib.hid hu
  have hlen : (packB (f (m / 5 : Nat))).length = 40 := by rw [packB_len, h5.1]
  have HL := Lib.hid hlen
  clear hd h5 hu hlen
  go_enter Tryz.func47, Tryz.ntmps47
  go_wp2_with fail
  refine HC.out.mono ?_
  rintro e w1 ⟨rfl, k1⟩
  have h2 := h.keep k1
  go_wp2_with fail
  refine (sread_one w1 h2.st hn (b := (m / 5 : Nat)) (by omega) (by omega)).mono ?_
  rintro e w2 ⟨g, c', rfl, hc', k2, h3, hg, hB⟩
  have hs := k1.size
  go_wp2_with fail
  refine (unpack_forty w2 HL.out hc' hB).mono ?_
  rintro e w3 (⟨v, xs, hx, rfl, k3, ho⟩ | ⟨hx, -, -⟩)
  · rw [HU.out] at hx
    cases hx
    have hs2 := k2.size
    have hfin : Sn w3 base d f (n + 1) k := ⟨h3.keep k3, h.five⟩
    have how : Ow base w w3 := ((Ow.of_chg k1).trans k2).then k3
    have hof : w3.ownsRow w.heap.size 42 1 v 5 (flCells (f (m / 5 : Nat))) := ownsRow_base ho (by omega)
    clear h h2 h3 k1 k2 k3 ho hB
    go_wp2_with fail
    go_ret2
    exact ⟨v, rfl, how, hfin, hof⟩
  · rw [HU.out] at hx
    cases hx
end Go.Proofs.YtfodeeejolkkfaaGreat
namespace Go.Proofs.YtfodeeejolkkfaaGreat
open Go.RowKit Go.Lib

/-- a cell's number. -/
def getF (f : Int → List Nat) (m : Nat) : Nat := (f (m / 5 : Nat)).getD (m % 5) 0
/-- the cells behind a Set. -/
def setF (f : Int → List Nat) (m x : Nat) : Int → List Nat := fun b => if b = (m / 5 : Nat) then (f b).set (m % 5) x else f b
theorem getF_set (f : Int → List Nat) (m x j : Nat) (h5 : ∀ b, (f b).length = 5) : getF (setF f m x) j = if j = m then x else getF f j := by
  unfold getF setF
  by_cases hb : ((j / 5 : Nat) : Int) = (m / 5 : Nat)
  · rw [if_pos hb]
    by_cases hj : j = m
    · subst hj
      rw [if_pos rfl, List.getD_eq_getElem?_getD, List.getElem?_set]
      have : j % 5 < (f ((j / 5 : Nat) : Int)).length := by rw [h5]; omega
      rw [if_pos rfl, if_pos this]; rfl
    · rw [if_neg hj, List.getD_eq_getElem?_getD, List.getD_eq_getElem?_getD, List.getElem?_set, if_neg (by omega)]
  · rw [if_neg hb, if_neg (by rintro rfl; exact hb rfl)]
theorem setF_five {f : Int → List Nat} (h : ∀ b, (f b).length = 5 ∧ ∀ x ∈ f b, CanB x) {m x : Nat} (hx : CanB x) : ∀ b, (setF f m x b).length = 5 ∧ ∀ y ∈ setF f m x b, CanB y := by
  intro b
  unfold setF
  split
  · refine ⟨by rw [List.length_set]; exact (h b).1, fun y hy => ?_⟩
    rcases List.mem_or_eq_of_mem_set hy with hy | rfl
    · exact (h b).2 y hy
    · exact hx
  · exact h b
theorem getF_can {f : Int → List Nat} (h : ∀ b, (f b).length = 5 ∧ ∀ x ∈ f b, CanB x) (m : Nat) : CanB (getF f m) := by
  unfold getF
  have hl := (h (m / 5 : Nat)).1
  have hlt : m % 5 < (f (m / 5 : Nat)).length := by rw [hl]; omega
  rw [List.getD_eq_getElem?_getD, List.getElem?_eq_getElem hlt, Option.getD_some]
  exact (h _).2 _ (List.getElem_mem hlt)
/-- doubles of an own row, at a place. -/
theorem own_fl {w : World} {base n : Nat} {v : Value} {l : List Nat} (h : w.ownsRow base 42 1 v n (flCells l)) (hn : 0 < n) :
    ∃ g cap cur, v = .slice (some ⟨g, 0, none⟩) n cap ∧ base ≤ g ∧ w.heap[g]? = some (.cells cur 42 (0, 0)) ∧ n ≤ cap ∧ l.length = n ∧ ∀ j (hj : j < l.length), w.cell? ⟨g, j, none⟩ = some (.float .f64 l[j]) := by
  have hl := h.1
  simp only [flCells, List.length_map, Nat.mul_one] at hl
  rcases h.2 with ⟨rfl, h0⟩ | ⟨g, cap, cur, rfl, hb, hg, hc, hm, hs, ht⟩
  · omega
  · refine ⟨g, cap, cur, rfl, hb, hg, hc, hl, fun j hj => ?_⟩
    have := h.cells (g := g) rfl j (.float .f64 l[j]) (by simp [flCells, hj])
    rw [add_lit, Nat.zero_add] at this
    exact this
set_option maxRecDepth 100000 in
set_option maxHeartbeats 1000000 in
theorem cget_in (w : World) {base : Nat} {d : Ids} {f : Int → List Nat} {n k m : Nat} (h : Sn w base d f n k) (hn : n ≤ 11) (hm : m < 1290) :
    Calls Tryz.prog 21 #[.pointer (some ⟨d.P, 0, none⟩), .int .i64 1, .int .i64 m] w fun e w' => e = .returned (.tuple #[.float .f64 (getF f m), .int .i64 0]) ∧ Ow base w w' ∧ Sn w' base d f (n + 1) k := by
  have hr : (m : Int).tmod 5 = ((m % 5 : Nat) : Int) := rfl
  have h5 := h.five (m / 5 : Nat)
  go_enter Tryz.func21, Tryz.ntmps21
  go_wp2_with fail
  refine (block_in w h hn hm).mono ?_
  rintro e w1 ⟨v, rfl, k1, h1, o1⟩
  obtain ⟨g, cap, cur, rfl, -, -, hcap, hl, hc⟩ := own_fl o1 (by decide)
  have hlt : m % 5 < (f (m / 5 : Nat)).length := by rw [hl]; omega
  have c0 := hc (m % 5) hlt
  have hx : (f (m / 5 : Nat))[m % 5] = getF f m := by
    unfold getF
    rw [List.getD_eq_getElem?_getD, List.getElem?_eq_getElem hlt, Option.getD_some]
  rw [hx] at c0
  clear hx hlt hc o1 hl h h5
  have hi : ((m % 5 : Nat) : Int) < 5 := by omega
  generalize m % 5 = j at *
  go_wp2_with fail
  go_ret2
  exact ⟨rfl, k1, h1⟩
set_option maxRecDepth 100000 in
theorem cget_out (w : World) {base : Nat} {d : Ids} {f : Int → List Nat} {n k : Nat} {i : Int} (h : Sn w base d f n k) (hi : i < 0 ∨ 1290 ≤ i) :
    Calls Tryz.prog 21 #[.pointer (some ⟨d.P, 0, none⟩), .int .i64 1, .int .i64 i] w fun e w' => e = .returned (.tuple #[.float .f64 0, .int .i64 2]) ∧ Chg [] w w' := by
  go_enter Tryz.func21, Tryz.ntmps21
  go_wp2_with fail
  refine (block_out w h hi).mono ?_
  rintro e w1 ⟨rfl, k1⟩
  go_wp2_with fail
  go_ret2
  exact ⟨rfl, k1⟩
set_option maxRecDepth 100000 in
theorem cset_out (w : World) {base : Nat} {d : Ids} {f : Int → List Nat} {n k x : Nat} {i : Int} (h : Sn w base d f n k) (hi : i < 0 ∨ 1290 ≤ i) :
    Calls Tryz.prog 19 #[.pointer (some ⟨d.P, 0, none⟩), .int .i64 1, .int .i64 i, .float .f64 x] w fun e w' => e = .returned (.int .i64 2) ∧ Chg [] w w' := by
  go_enter Tryz.func19, Tryz.ntmps19
  go_wp2_with fail
  refine (block_out w h hi).mono ?_
  rintro e w1 ⟨rfl, k1⟩
  go_wp2_with fail
  go_ret
  exact ⟨rfl, k1⟩
theorem canB_canB (x : Nat) : canB (canB x) = canB x := by
  by_cases h : isNaNB x = true
  · have e : canB x = nanB := by unfold canB; rw [if_pos h]
    rw [e]
    decide
  · have e : canB x = x := by unfold canB; rw [if_neg h]
    rw [e, e]
theorem packB_set (l : List Nat) (j x : Nat) : packB (l.set j x) = packB (l.set j (canB x)) := by
  induction l generalizing j with
  | nil => rfl
  | cons a l ih =>
    cases j with
    | zero => simp only [List.set_cons_zero, packB_cons]; congr 1; unfold encB; rw [canB_canB]
    | succ j => simp only [List.set_cons_succ, packB_cons, ih]
theorem Ow.new_set {base : Nat} {w w' : World} (h : Ow base w w') {g : Nat} (hg : w.heap.size ≤ g) (i : Nat) (v : Value) : Ow base w (w'.setCell ⟨g, i, none⟩ v) := by
  obtain ⟨T, h1, h2⟩ := h
  exact ⟨T, h1.new_set hg i v, h2⟩
theorem Av.row {w : World} {g : Nat} {cs : Array Value} {t : TypeId} {fr : Nat × Nat} (h : w.heap[g]? = some (.cells cs t fr)) {ts : List Nat} (ht : t ∉ ts) : Av w [g] ts := fun x hx cs' t' fr' hh => by
  rw [List.mem_singleton] at hx; subst hx; rw [h] at hh; cases hh; exact ht
theorem St.keepRow {w w' : World} {base : Nat} {d : Ids} {q : Int → List UInt8} {n k g : Nat} {cs : Array Value} {fr : Nat × Nat} (h : St w base d q n k) (hc : Chg [g] w w') (hg : w.heap[g]? = some (.cells cs 42 fr)) (hb : base ≤ g) : St w' base d q n k := by
  obtain ⟨L, h1, h2, h3⟩ := h.buf
  have hne : ∀ {x : Nat} {cs' : Array Value} {t : TypeId} {fr' : Nat × Nat}, w.heap[x]? = some (.cells cs' t fr') → t ≠ 42 → x ∉ [g] := fun hx ht => (Av.row hg (ts := [_]) (by simpa using ht.symm)).ne hx (by simp)
  refine ⟨h.sta.keep hc (fun x hx => by rw [List.mem_singleton] at hx; omega), hc.heap h.tx (hne h.tx (by decide)), ⟨L, h1.keep hc (hne h1.1 (by decide)) (by simpa using map_cells h1.2 hg), h2, fun b hb1 hb2 => ?_⟩, h.vw.keep hc (Av.row hg (by decide)), h.sp.keep hc (Av.row hg (by decide)), h.high⟩
  rcases h3 b hb1 hb2 with ⟨e1, e2⟩ | ⟨g2, c2, e1, e2, e3, cs2, e4⟩
  · exact Or.inl ⟨e1, e2⟩
  · exact Or.inr ⟨g2, c2, e1, e2.chgT hc (hne e4 (by decide)), e3, cs2, hc.heap e4 (hne e4 (by decide))⟩
set_option maxRecDepth 100000 in
set_option maxHeartbeats 2000000 in
theorem cset_in (w : World) {base : Nat} {d : Ids} {f : Int → List Nat} {n k m x : Nat} (h : Sn w base d f n k) (hn : n ≤ 11) (hk : k ≤ 15) (hm : m < 1290) (hx : x < 18446744073709551616) :
    Calls Tryz.prog 19 #[.pointer (some ⟨d.P, 0, none⟩), .int .i64 1, .int .i64 m, .float .f64 x] w fun e w' => e = .returned (.int .i64 0) ∧ Ow base w w' ∧ Sn w' base d (setF f m (canB x)) (n + 1) (k + 1) := by
  have hr : (m : Int).tmod 5 = ((m % 5 : Nat) : Int) := rfl
  have hq : (m : Int).tdiv 5 = ((m / 5 : Nat) : Int) := rfl
  have h5 := h.five (m / 5 : Nat)
  have hcx := canB_can hx
  go_enter Tryz.func19, Tryz.ntmps19
  go_wp2_with fail
  refine (block_in w h hn hm).mono ?_
  rintro e w1 ⟨v, rfl, k1, h1, o1⟩
  obtain ⟨g, cap, cur, rfl, hgb, hgc, hcap, hl, hc⟩ := own_fl o1 (by decide)
  have hlt : m % 5 < (f (m / 5 : Nat)).length := by rw [hl]; omega
  obtain ⟨u0, c0⟩ : ∃ u, w1.cell? ⟨g, m % 5, none⟩ = some (.float .f64 u) := ⟨_, hc (m % 5) hlt⟩
  have f0 := unfrozen hgc (m % 5)
  have hF : Fl (w1.setCell ⟨g, m % 5, none⟩ (.float .f64 x)) (some ⟨g, 0, none⟩) ((f (m / 5 : Nat)).set (m % 5) x) := by
    refine Or.inr ⟨g, 0, rfl, fun j hj => ?_⟩
    rw [List.length_set] at hj
    rw [Nat.zero_add, List.getElem_set]
    by_cases e : m % 5 = j
    · rw [if_pos e, ← e]
      have hh := heap_set hgc (m % 5) (.float .f64 x) rfl
      refine cell_is hh _ ?_
      have hz : m % 5 < cur.size := by
        have := hc (m % 5) hlt
        rw [cell_of_row _ _ _ _ _ _ hgc] at this
        exact (Array.getElem?_eq_some_iff.1 this).1
      simp [hz]
    · rw [if_neg e]
      have hh := heap_set hgc (m % 5) (.float .f64 x) rfl
      refine cell_is hh _ ?_
      have := hc j hj
      rw [cell_of_row _ _ _ _ _ _ hgc] at this
      rw [Array.getElem?_setIfInBounds, if_neg e]
      exact this
  have kS : Chg [g] w1 (w1.setCell ⟨g, m % 5, none⟩ (.float .f64 x)) := Chg.set w1 g _ _
  have hg0 : base ≤ g := by have := heap_lt h.st.tx; have := h.st.high.1; obtain ⟨_, _, _, hq1, _⟩ := h.st.vw; have := heap_lt hq1; omega
  have o2 : Ow base w (w1.setCell ⟨g, m % 5, none⟩ (.float .f64 x)) := k1.new_set hgb _ _
  have h2 : Sn (w1.setCell ⟨g, m % 5, none⟩ (.float .f64 x)) base d f (n + 1) k := ⟨h1.st.keepRow kS hgc hg0, h.five⟩
  have hlen : ((f (m / 5 : Nat)).set (m % 5) x).length = 5 := by rw [List.length_set]; exact hl
  have hlt5 : ((m % 5 : Nat) : Int) < 5 := by omega
  have hxs : ∀ y ∈ (f (m / 5 : Nat)).set (m % 5) x, canB y < 18446744073709551616 := by
    intro y hy
    rcases List.mem_or_eq_of_mem_set hy with hy | rfl
    · rw [canB_self (h5.2 y hy)]; exact (h5.2 y hy).1
    · exact hcx.1
  have HP := Lib.hid (pack_any (w1.setCell ⟨g, m % 5, none⟩ (.float .f64 x)) (c := cap) hlen (by omega) hF hxs)
  have HE : packB ((f (m / 5 : Nat)).set (m % 5) x) = packB (setF f m (canB x) (m / 5 : Nat)) := by rw [packB_set]; unfold setF; rw [if_pos rfl]
  have HE2 := Lib.hid HE
  have hsz : w.heap.size ≤ (w1.setCell ⟨g, m % 5, none⟩ (.float .f64 x)).heap.size := o2.size
  clear hF hc hxs hlen hl kS h1 k1 h5 HE hlt o1 hgc
  generalize m % 5 = j at *
  have hst : ∀ a v m w, (store a (.float .f64 v) m).run Tryz.prog w = stored Tryz.prog w a (.float .f64 v) m := fun a v m w => run_store Tryz.prog w a _ m rfl
  go_wp2_with fail
  refine HP.out.mono ?_
  rintro e w2 ⟨v2, rfl, k2, -, hv⟩
  obtain ⟨g2, c2, rfl, hB2, hg2⟩ := hv (by trivial)
  rw [HE2.out] at hB2
  have h3 := h2.keep k2
  have o3 := o2.then k2
  clear hv h2 o2 k2 c0 f0
  go_wp2_with fail
  have kx : Chg [] w2 (w2.alloc (.cells #[.int .i64 (m / 5 : Nat), .slice (some ⟨g2, 0, none⟩) 40 c2] 92)) := Chg.alloc w2 _
  have x0 := heap_new w2 (.cells #[.int .i64 (m / 5 : Nat), .slice (some ⟨g2, 0, none⟩) 40 c2] 92)
  have h5' := setF_five h.five (m := m) hcx
  refine (swrite_st _ (h3.keep kx).st hk (b := (m / 5 : Nat)) (E := w2.heap.size) (eo := 0) (by omega) (by omega) (cell_is x0 0 rfl) (cell_is x0 1 rfl) (hB2.chg kx) (by rw [packB_len, (h5' _).1])).mono ?_
  rintro e w4 ⟨rfl, o4, h4⟩
  have hfin : Sn w4 base d (setF f m (canB x)) (n + 1) (k + 1) := by
    refine ⟨?_, h5'⟩
    have he : (putQ (fun b => packB (f b)) (m / 5 : Nat) (packB (setF f m (canB x) (m / 5 : Nat)))) = (fun b => packB (setF f m (canB x) b)) := by
      funext b
      unfold putQ
      by_cases hb : b = ((m / 5 : Nat) : Int)
      · rw [if_pos hb, hb]
      · rw [if_neg hb]; unfold setF; rw [if_neg hb]
    rw [← he]
    exact h4
  have hof := (o3.then kx).trans o4
  clear h h3 h4 o3 o4 kx x0 hB2
  go_wp2_with fail
  go_ret
  exact ⟨rfl, hof, hfin⟩
end Go.Proofs.YtfodeeejolkkfaaGreat
namespace Go.Proofs.YtfodeeejolkkfaaGreat
open Go.RowKit Go.Lib

/-- a sum, any NaN as the one. -/
def addC (a b : Nat) : Nat := match Ieee.double.add a b with | some d => canB d | none => nanB
theorem addC_can (a b : Nat) : CanB (addC a b) := by
  unfold addC
  cases h : Ieee.double.add a b with
  | none => exact ⟨by decide, fun _ => rfl⟩
  | some d => exact canB_can (Ieee.double.add_lt h)
theorem run_add (a b : Nat) (w : World) : ∃ c w', (binOp .add 42 (.float .f64 a) (.float .f64 b)).run Tryz.prog w = .ok (.float .f64 c) w' ∧ canB c = addC a b ∧ c < 18446744073709551616 ∧ Chg [] w w' := by
  cases h : Ieee.double.add a b with
  | some d =>
    exact ⟨d, w, run_float_arith w .add 42 .f64 a b d h, by unfold addC; rw [h], Ieee.double.add_lt h, Chg.refl _ _⟩
  | none =>
    refine ⟨(Question.nanBits .f64 a b).cut (w.tape w.drawn (.nanBits .f64 a b)), w.drew, ?_, ?_, ?_, (Chg.refl _ _).drew⟩
    · have h' : FloatKind.f64.format.add a b = none := h
      simp [binOp, Op.floatArith, h', Question.forced]
    · have : isNaNB ((Question.nanBits .f64 a b).cut (w.tape w.drawn (.nanBits .f64 a b))) = true := by
        show isNaNB ((w.tape w.drawn (.nanBits .f64 a b) % 2) * 9223372036854775808 + 9218868437227405312 + 1 + (w.tape w.drawn (.nanBits .f64 a b) / 2) % 4503599627370495) = true
        have h1 : w.tape w.drawn (.nanBits .f64 a b) % 2 < 2 := Nat.mod_lt _ (by decide)
        have h2 : (w.tape w.drawn (.nanBits .f64 a b) / 2) % 4503599627370495 < 4503599627370495 := Nat.mod_lt _ (by decide)
        generalize w.tape w.drawn (.nanBits .f64 a b) % 2 = u at *
        generalize (w.tape w.drawn (.nanBits .f64 a b) / 2) % 4503599627370495 = q at *
        unfold isNaNB magB
        refine decide_eq_true ?_
        rcases (by omega : u = 0 ∨ u = 1) with rfl | rfl <;> omega
      unfold canB addC
      rw [if_pos this, h]
    · show (w.tape w.drawn (.nanBits .f64 a b) % 2) * 9223372036854775808 + 9218868437227405312 + 1 + (w.tape w.drawn (.nanBits .f64 a b) / 2) % 4503599627370495 < 18446744073709551616
      have h1 : w.tape w.drawn (.nanBits .f64 a b) % 2 < 2 := Nat.mod_lt _ (by decide)
      have h2 : (w.tape w.drawn (.nanBits .f64 a b) / 2) % 4503599627370495 < 4503599627370495 := Nat.mod_lt _ (by decide)
      omega
set_option maxRecDepth 100000 in
set_option maxHeartbeats 1000000 in
theorem cadd_in (w : World) {base : Nat} {d : Ids} {f : Int → List Nat} {n k m x : Nat} (h : Sn w base d f n k) (hn : n ≤ 10) (hk : k ≤ 15) (hm : m < 1290) :
    Calls Tryz.prog 20 #[.pointer (some ⟨d.P, 0, none⟩), .int .i64 1, .int .i64 m, .float .f64 x] w fun e w' => e = .returned (.tuple #[.float .f64 (addC (getF f m) x), .int .i64 0]) ∧ Ow base w w' ∧ Sn w' base d (setF f m (addC (getF f m) x)) (n + 2) (k + 1) := by
  have hy := addC_can (getF f m) x
  have HY := Lib.hid (canB_self hy)
  go_enter Tryz.func20, Tryz.ntmps20
  go_wp2_with fail
  refine (cget_in w h (by omega) hm).mono ?_
  rintro e w1 ⟨rfl, k1, h1⟩
  obtain ⟨c, w2, ha, hc, hclt, k2⟩ := run_add (getF f m) x w1
  have HC := Lib.hid hc
  clear hc
  have h2 := h1.keep k2
  have o2 := k1.then k2
  go_wp2_with fail
  refine (fbits_any c w2).mono ?_
  rintro e w3 ⟨rfl, rfl⟩
  rw [HC.out]
  go_wp2_with fail
  refine (fromBits_any _ w2).mono ?_
  rintro e w3 ⟨rfl, rfl⟩
  rw [HY.out]
  go_wp2_with fail
  refine (cset_in w2 h2 (by omega) hk hm hy.1).mono ?_
  rintro e w4 ⟨rfl, o4, h4⟩
  rw [HY.out] at h4
  have o5 := o2.trans o4
  clear h h1 h2 k1 k2 o2 o4 ha
  go_wp2_with fail
  go_ret2
  exact ⟨rfl, o5, h4⟩
set_option maxRecDepth 100000 in
theorem cadd_out (w : World) {base : Nat} {d : Ids} {f : Int → List Nat} {n k x : Nat} {i : Int} (h : Sn w base d f n k) (hi : i < 0 ∨ 1290 ≤ i) :
    Calls Tryz.prog 20 #[.pointer (some ⟨d.P, 0, none⟩), .int .i64 1, .int .i64 i, .float .f64 x] w fun e w' => e = .returned (.tuple #[.float .f64 0, .int .i64 2]) ∧ Chg [] w w' := by
  go_enter Tryz.func20, Tryz.ntmps20
  go_wp2_with fail
  refine (cget_out w h hi).mono ?_
  rintro e w1 ⟨rfl, k1⟩
  go_wp2_with fail
  go_ret2
  exact ⟨rfl, k1⟩
end Go.Proofs.YtfodeeejolkkfaaGreat
namespace Go.Proofs.YtfodeeejolkkfaaGreat
open Go.RowKit Go.Lib

/-- a mounted store without transactions, all of it below base. -/
structure Sm (w : World) (base N A c : Nat) (Z : List Nat) (P S M X rx B rb r : Nat) : Prop where
  store : StoreAt w P N S (some ⟨M, 0, none⟩)
  dev : ∃ ops, DevAt w N A c ops Z
  mg : Mg w M X rx B rb r 0 [] []
  low : P < base ∧ N < base ∧ A < base ∧ M < base ∧ X < base ∧ rx < base ∧ B < base ∧ rb < base ∧ r < base
  lowZ : ∀ z ∈ Z, z < base
  ap : ∀ x, x = N ∨ x = A ∨ x ∈ Z → x ≠ B ∧ x ≠ rb ∧ x ≠ r
theorem Sm.keep {w w' : World} {T : List Nat} {base N A c : Nat} {Z : List Nat} {P S M X rx B rb r : Nat} (h : Sm w base N A c Z P S M X rx B rb r) (hc : Chg T w w') (hT : ∀ x ∈ T, base ≤ x) : Sm w' base N A c Z P S M X rx B rb r := by
  obtain ⟨l1, l2, l3, l4, l5, l6, l7, l8, l9⟩ := h.low
  have n : ∀ x, x < base → x ∉ T := fun x hx hm => by have := hT x hm; omega
  obtain ⟨ops, hd⟩ := h.dev
  have m := h.mg
  exact ⟨h.store.keep hc (n _ l1), ⟨ops, hd.keep hc (n _ l2) (n _ l3) (fun z hz => n _ (h.lowZ z hz))⟩,
    ⟨hc.heap m.mgr (n _ l4), ⟨hc.heap m.ver.1 (n _ l5), m.ver.2.keep hc (n _ l6)⟩, m.book.keep hc (n _ l7) (n _ l8), m.map.keep hc (n _ l9), m.n1, m.n2, m.n3⟩, h.low, h.lowZ, h.ap⟩
/-- cells that were never set. -/
def f0 : Int → List Nat := fun _ => [0, 0, 0, 0, 0]
theorem f0_five : ∀ b, (f0 b).length = 5 ∧ ∀ x ∈ f0 b, CanB x := fun b => ⟨rfl, fun x hx => by
  simp [f0] at hx
  subst hx
  exact ⟨by decide, fun h => absurd h (by decide)⟩⟩
/-- block K is a world of law 26: its store P, its reference G, its handle h. -/
def WdAt (w : World) (K P G : Nat) (h : Int) : Prop := w.heap[K]? = some (.cells #[.pointer (some ⟨P, 0, none⟩), .pointer (some ⟨G, 0, none⟩), .int .i64 h] 48 (0, 0))
set_option maxRecDepth 100000 in
set_option maxHeartbeats 1000000 in
theorem wbegin (w : World) {base N A c : Nat} {Z : List Nat} {P S M X rx B rb r K G Y : Nat} (h : Sm w base N A c Z P S M X rx B rb r) (hG : RmAt w G Y (.slice none 0 0) (.slice none 0 0) (.slice none 0 0) 0) (hK : WdAt w K P G 0) (hb : base ≤ G ∧ base ≤ K) :
    Calls Tryz.prog 45 #[.pointer (some ⟨K, 0, none⟩)] w fun e w' => e = .returned (.bool true) ∧ ∃ d, d.P = P ∧ Chg [K, G, B, rb, r] w w' ∧ Sn w' w.heap.size d f0 0 0 ∧ WdAt w' K P G 1 := by
  have c0 : w.cell? ⟨K, 0, none⟩ = some (.pointer (some ⟨P, 0, none⟩)) := cell_is hK 0 rfl
  obtain ⟨l1, l2, l3, l4, l5, l6, l7, l8, l9⟩ := h.low
  have hGl := heap_lt hG
  have hKG : K ≠ G := heap_ne hK hG (by simp)
  go_enter Tryz.func45, Tryz.ntmps45
  go_wp2_with fail
  refine (sbegin_any w h.store h.mg).mono ?_
  rintro e w1 ⟨T, W, rw, Q, V, rfl, k1, hP1, hM1, hT1, n1, n2, n3, b1, b2, b3⟩
  have nK : K ∉ [B, rb, r] := by simp; omega
  have nG : G ∉ [B, rb, r] := by simp; omega
  have hK1 : WdAt w1 K P G 0 := k1.heap hK nK
  have hG1 := k1.heap hG nG
  obtain ⟨ops, hd⟩ := h.dev
  have hne : ∀ x, x = N ∨ x = A ∨ x ∈ Z → x ∉ [B, rb, r] := fun x hx => by have := h.ap x hx; simp; omega
  have hd1 := hd.keep k1 (hne _ (Or.inl rfl)) (hne _ (Or.inr (Or.inl rfl))) (fun z hz => hne _ (Or.inr (Or.inr hz)))
  have c1 : w1.cell? ⟨K, 1, none⟩ = some (.pointer (some ⟨G, 0, none⟩)) := cell_is hK1 1 rfl
  go_wp2_with fail
  refine (rbegin_one w1 hG1).mono ?_
  rintro e w2 ⟨rfl, k2⟩
  have hK2 : WdAt w2 K P G 0 := k2.heap hK1 (by simpa using hKG)
  have c2 : w2.cell? ⟨K, 2, none⟩ = some (.int .i64 0) := cell_is hK2 2 rfl
  have f2 := unfrozen hK2 2
  have k3 := Chg.set w2 K 2 (.int .i64 1)
  have hK3 : WdAt (w2.setCell ⟨K, 2, none⟩ (.int .i64 1)) K P G 1 := heap_set hK2 2 _ rfl
  have kk : Chg [G, K] w1 (w2.setCell ⟨K, 2, none⟩ (.int .i64 1)) := (k2.mono (fun x hx _ => by simp at hx; simp [hx])).then (k3.mono (fun x hx _ => by simp at hx; simp [hx]))
  have hhi : ∀ x ∈ [G, K], base ≤ x := fun x hx => by simp at hx; omega
  have hKl := heap_lt hK
  have ha : Sta w1 base ⟨P, N, S, M, X, rx, B, rb, r, A, c, Z, T, W, rw, Q, V⟩ := ⟨hP1, ⟨ops, hd1⟩, hM1, h.low, h.lowZ⟩
  have ha2 := ha.keep kk hhi
  have hav : ∀ ts, 163 ∉ ts → 48 ∉ ts → Av w1 [G, K] ts := fun ts h1 h2 x hx cs t fr hh => by
    simp at hx
    rcases hx with rfl | rfl
    · rw [show w1.heap[x]? = _ from hG1] at hh; cases hh; exact h1
    · rw [show w1.heap[x]? = _ from hK1] at hh; cases hh; exact h2
  have nmap : ∀ {x L}, MapAt w1 x L → x ∉ [G, K] := fun hm hx => by
    simp at hx
    rcases hx with rfl | rfl
    · exact map_cells hm (show w1.heap[_]? = _ from hG1) rfl
    · exact map_cells hm (show w1.heap[_]? = _ from hK1) rfl
  have hfin : Sn (w2.setCell ⟨K, 2, none⟩ (.int .i64 1)) w.heap.size ⟨P, N, S, M, X, rx, B, rb, r, A, c, Z, T, W, rw, Q, V⟩ f0 0 0 := by
    have hv1 : Vw w1 w.heap.size Q X W V 0 := ⟨_, 0, [], hT1.view, Nat.le_refl _, World.ownsRow_nil _ _ _ _⟩
    have hs1 : SpV w1 w.heap.size V 0 := ⟨_, [], hT1.spans, Nat.le_refl _, World.ownsRow_nil _ _ _ _⟩
    refine ⟨⟨⟨ha2.store, ha2.dev, ha2.mg, ⟨by show P < _; omega, by show N < _; omega, by show A < _; omega, by show M < _; omega, by show X < _; omega, by show rx < _; omega, by show B < _; omega, by show rb < _; omega, by show r < _; omega⟩, fun z hz => by have := h.lowZ z hz; omega⟩, kk.heap hT1.tx ((hav [173] (by simp) (by simp)).ne hT1.tx (by simp)),
      ⟨[], hT1.buf.keep kk ((hav [272] (by simp) (by simp)).ne hT1.buf.1 (by simp)) (nmap hT1.buf.2), Nat.le_refl _, fun b _ _ => Or.inl ⟨rfl, zero_pack⟩⟩,
      hv1.keep kk (hav _ (by simp) (by simp)), hs1.keep kk (hav _ (by simp) (by simp)), b2, b3, b1⟩, f0_five⟩
  have hch : Chg [K, G, B, rb, r] w (w2.setCell ⟨K, 2, none⟩ (.int .i64 1)) := (k1.mono (fun x hx _ => by simp at hx; simp; omega)).then (kk.mono (fun x hx _ => by simp at hx; simp; omega))
  clear h ha ha2 hd hd1 hG hG1 hK1 hK2 k1 k2 k3 kk hM1 hT1 hP1 hav nmap
  go_wp2_with fail
  go_ret
  exact ⟨rfl, _, rfl, hch, hfin, hK3⟩
end Go.Proofs.YtfodeeejolkkfaaGreat
namespace Go.Proofs.YtfodeeejolkkfaaGreat
open Go.RowKit Go.Lib

/-- a new world of law 26: all of it lies behind w. -/
def FrR (w : World) (e : Ending) (w' : World) : Prop :=
  ∃ base d K G, e = .returned (.tuple #[.pointer (some ⟨K, 0, none⟩), .bool true]) ∧ Chg [] w w' ∧ Sn w' base d f0 0 0 ∧ WdAt w' K d.P G 1 ∧ w.heap.size ≤ base
set_option maxRecDepth 100000 in
set_option maxHeartbeats 2000000 in
theorem fresh_any (w : World) : Calls Tryz.prog 16 #[] w (FrR w) := by
  have kg : Chg [] w (w.alloc (.cells #[.int .i64 8, .int .i64 96] 80)) := Chg.alloc w _
  have g0 := heap_new w (.cells #[.int .i64 8, .int .i64 96] 80)
  have a0 : (w.alloc (.cells #[.int .i64 8, .int .i64 96] 80)).cell? ⟨w.heap.size, 0, none⟩ = some (.int .i64 8) := cell_is g0 0 rfl
  have a1 : (w.alloc (.cells #[.int .i64 8, .int .i64 96] 80)).cell? ⟨w.heap.size, 1, none⟩ = some (.int .i64 96) := cell_is g0 1 rfl
  go_enter Tryz.func16, Tryz.ntmps16
  go_wp2_with fail
  generalize w.alloc (.cells #[.int .i64 8, .int .i64 96] 80) = w0 at *
  have hw0 := kg.size
  generalize hz0 : w.heap.size = z0 at *
  refine (new_any w0).mono ?_
  rintro e w1 ⟨N, A, c, Z, rfl, k1, hD, hO, lN, lA, lZ⟩
  have g1 := k1.heap g0 (by simp)
  have hs1 := k1.size
  have hAl := hD.A_lt
  have hNl := heap_lt hD.1
  have hZl : ∀ z ∈ Z, z < w1.heap.size := fun z hz => by
    obtain ⟨j, hj, e⟩ := List.getElem_of_mem hz
    rw [← e]
    exact heap_lt (hD.2.2.2.2 j hj)
  clear a0 a1
  go_wp2_with fail
  refine (mount_any w1 hD hO hZl (by omega) (by omega)).mono ?_
  rintro e w2 ⟨P, S, M, X, rx, B, rb, r, rfl, hM, lP, lS, lM, lX, lrx, lB, lrb, lr, n1, n2, n3⟩
  obtain ⟨k2, hD2, hP2, hS2, hm2, hx2, hb2, hr2⟩ := hM
  have h0l := heap_lt g0
  have g2 := k2.heap g1 (by
    intro hm
    rcases List.mem_cons.1 hm with e | hm
    · omega
    · have := lZ _ hm; omega)
  have hs2 := k2.size
  have b0 : w2.cell? ⟨z0, 0, none⟩ = some (.int .i64 8) := cell_is g2 0 rfl
  have b1 : w2.cell? ⟨z0, 1, none⟩ = some (.int .i64 96) := cell_is g2 1 rfl
  have hSm : Sm w2 w2.heap.size N A c Z P S M X rx B rb r := by
    refine ⟨hP2, ⟨_, hD2⟩, ⟨hm2, hx2, hb2, hr2, n1, n2, n3⟩, ?_, fun z hz => Nat.lt_of_lt_of_le (hZl z hz) hs2, ?_⟩
    · have := heap_lt hP2; have := heap_lt hm2; have := heap_lt hx2.1; have := hx2.2.lt; have := heap_lt hb2.1; have := hb2.2.lt; have := hr2.lt; omega
    · rintro x (rfl | rfl | hx)
      · omega
      · omega
      · have := hZl x hx; omega
  have kk2 : Chg [] w w2 := (kg.then k1).trans k2 (fun x hx hlt => by
    rcases List.mem_cons.1 hx with e | hx
    · have := kg.size; omega
    · have := lZ x hx; have := kg.size; omega)
  clear hD hO hP2 hD2 hS2 hm2 hx2 hb2 hr2 k2 g1 g0 k1 kg
  go_wp2_with fail
  refine (rcap_min w2).mono ?_
  rintro e w3 ⟨rfl, k3⟩
  have h3 := hSm.keep k3 (fun x hx => by cases hx)
  have kk3 := kk2.then k3
  have hs3 := k3.size
  clear hSm b0 b1 g2
  go_wp2_with fail
  refine (rm_new w3).mono ?_
  rintro e w4 ⟨G, Y, rfl, k4, hG, lG⟩
  have h4 := h3.keep k4 (fun x hx => by cases hx)
  have kk4 := kk3.then k4
  have hs4 := k4.size
  clear h3
  go_wp2_with fail
  have k5 : Chg [] w4 (w4.alloc (.cells #[.pointer (some ⟨P, 0, none⟩), .pointer (some ⟨G, 0, none⟩), .int .i64 0] 48)) := Chg.alloc w4 _
  have hK := heap_new w4 (.cells #[.pointer (some ⟨P, 0, none⟩), .pointer (some ⟨G, 0, none⟩), .int .i64 0] 48)
  have h5 := h4.keep k5 (fun x hx => by cases hx)
  have hG5 := k5.heap hG (by simp)
  refine (wbegin _ h5 hG5 hK (by omega)).mono ?_
  rintro e w6 ⟨rfl, d, hP, k6, hn, hw⟩
  subst hP
  have hfin : Chg [] w w6 := (kk4.then k5).trans k6 (fun x hx hlt => by
    simp at hx
    have := kk2.size
    omega)
  have hbase : z0 ≤ (w4.alloc (.cells #[.pointer (some ⟨d.P, 0, none⟩), .pointer (some ⟨G, 0, none⟩), .int .i64 0] 48)).heap.size := by have := (kk4.then k5).size; omega
  clear h4 h5 hG hG5 hK k5 k6 kk4 kk3 kk2
  go_wp2_with fail
  go_ret2
  exact ⟨_, d, _, G, rfl, hfin, hn, hw, by rw [hz0]; exact hbase⟩
set_option maxRecDepth 100000 in
theorem round_any (w : World) (i : Int) (_hi : -9223372036854775808 ≤ i ∧ i ≤ 9223372036854775807) : Calls Tryz.prog 17 #[.int .i64 i, .int .i64 1290] w fun e w' => ∃ m : Nat, m < 1290 ∧ e = .returned (.int .i64 m) ∧ w = w' := by
  have h1 : -1290 < i.tmod 1290 ∧ i.tmod 1290 < 1290 := by
    have := Int.tmod_lt_of_pos i (b := 1290) (by omega)
    have := Int.lt_tmod_of_pos i (b := 1290) (by omega)
    omega
  go_enter Tryz.func17, Tryz.ntmps17
  go_wp2_with fail
  · obtain ⟨m, hm⟩ : ∃ m : Nat, i.tmod 1290 + 1290 = m := ⟨(i.tmod 1290 + 1290).toNat, by omega⟩
    go_ret
    exact ⟨m, by omega, by rw [← hm]; rfl, rfl⟩
  · obtain ⟨m, hm⟩ : ∃ m : Nat, i.tmod 1290 = m := ⟨(i.tmod 1290).toNat, by omega⟩
    go_ret
    exact ⟨m, by omega, by rw [← hm]; rfl, rfl⟩
/-- a number's kind, by its bits without the sign. -/
def clsM (m : Nat) : Int := if 9218868437227405312 < m then 1 else if m = 9218868437227405312 then 9 else if m = 0 then 6 else if m < 4503599627370496 then 7 else 8
/-- a number's kind. -/
def clsV (v : Nat) : Int := if 9218868437227405312 < magB v then 1 else if 9223372036854775808 ≤ v then 11 - clsM (magB v) else clsM (magB v)
theorem and_sign {b : Nat} (h : b < 18446744073709551616) : bits .and .u64 (b : Int) 9223372036854775808 = if 9223372036854775808 ≤ b then 9223372036854775808 else 0 := by
  have h1 := u64_and_nat b 9223372036854775808 h (by decide)
  have e : b &&& 9223372036854775808 = if 9223372036854775808 ≤ b then 9223372036854775808 else 0 := by
    apply Nat.eq_of_testBit_eq
    intro i
    rw [Nat.testBit_and, show (9223372036854775808 : Nat) = 2 ^ 63 by decide, Nat.testBit_two_pow]
    by_cases hi : 63 = i
    · subst hi
      rw [Nat.testBit_eq_decide_div_mod_eq]
      by_cases hb : 2 ^ 63 ≤ b
      · rw [if_pos hb, Nat.testBit_two_pow, show b / 2 ^ 63 % 2 = 1 by omega]; rfl
      · rw [if_neg hb, show b / 2 ^ 63 % 2 = 0 by omega]; rfl
    · rw [show decide (63 = i) = false from decide_eq_false hi, Bool.and_false]
      split
      · rw [Nat.testBit_two_pow, decide_eq_false hi]
      · rw [Nat.zero_testBit]
  rw [e] at h1
  by_cases hb : 9223372036854775808 ≤ b
  · rw [if_pos hb] at h1 ⊢; exact h1
  · rw [if_neg hb] at h1 ⊢; exact h1
/-- the same, as the program reckons it. -/
def kI (mi : Int) : Int := bif mi == 9218868437227405312 then 9 else bif mi == 0 then 6 else bif decide (mi < 4503599627370496) then 7 else 8
def clsI (mi si : Int) : Int := bif decide (9218868437227405312 < mi) then 1 else bif si != 0 then 11 - kI mi else kI mi
theorem bif_dec {α : Type} (p : Prop) [Decidable p] (a b : α) : (bif decide p then a else b) = if p then a else b := by by_cases h : p <;> simp [h]
theorem cls_I (v : Nat) : clsV v = clsI (magB v : Nat) (if 9223372036854775808 ≤ v then 9223372036854775808 else 0) := by
  have hk : ∀ m : Nat, ¬ 9218868437227405312 < m → clsM m = kI m := by
    intro m hm
    unfold clsM kI
    rw [if_neg hm]
    rcases Nat.lt_trichotomy m 9218868437227405312 with h | h | h
    · rw [if_neg (by omega), show ((m : Int) == 9218868437227405312) = false from beq_eq_false_iff_ne.2 (by omega), cond_false]
      by_cases h0 : m = 0
      · rw [if_pos h0, show ((m : Int) == 0) = true from beq_iff_eq.2 (by omega), cond_true]
      · rw [if_neg h0, show ((m : Int) == 0) = false from beq_eq_false_iff_ne.2 (by omega), cond_false, bif_dec]
        by_cases h5 : m < 4503599627370496
        · rw [if_pos h5, if_pos (by omega)]
        · rw [if_neg h5, if_neg (by omega)]
    · rw [if_pos h, show ((m : Int) == 9218868437227405312) = true from beq_iff_eq.2 (by omega), cond_true]
    · omega
  unfold clsV clsI
  rw [bif_dec]
  by_cases h : 9218868437227405312 < magB v
  · rw [if_pos h, if_pos (by omega)]
  · have h' : ¬ (9218868437227405312 : Int) < (magB v : Nat) := by omega
    rw [if_neg h, if_neg h', hk _ h]
    by_cases hs : 9223372036854775808 ≤ v
    · simp only [if_pos hs]
      rw [show ((9223372036854775808 : Int) != 0) = true from bne_iff_ne.2 (by omega), cond_true]
    · simp only [if_neg hs]
      rw [show ((0 : Int) != 0) = false from bne_self_eq_false _, cond_false]
set_option maxRecDepth 100000 in
theorem class_any (b : Nat) (w : World) (h : canB b < 18446744073709551616) : Calls Tryz.prog 23 #[.float .f64 b] w fun e w' => e = .returned (.int .i64 (clsV (canB b))) ∧ w = w' := by
  have HB := Lib.hid (rbits_any b w)
  generalize canB b = v at *
  obtain ⟨mi, h1⟩ : ∃ mi, bits .andNot .u64 (v : Int) 9223372036854775808 = mi := ⟨_, rfl⟩
  obtain ⟨si, h2⟩ : ∃ si, bits .and .u64 (v : Int) 9223372036854775808 = si := ⟨_, rfl⟩
  have HE : clsV v = clsI mi si := by rw [cls_I, ← h1, ← h2, andNot_sign h, and_sign h]
  have H := Lib.hid HE
  clear h HE
  go_enter Tryz.func23, Tryz.ntmps23
  go_wp2_with fail
  refine HB.out.mono ?_
  rintro e w' ⟨rfl, rfl⟩
  go_wp2_with fail
  all_goals
    go_ret
    refine ⟨?_, rfl⟩
    rw [H.out]
    unfold clsI kI
    have hd1 : (9218868437227405312 < mi ∧ decide (9218868437227405312 < mi) = true) ∨ (¬ 9218868437227405312 < mi ∧ decide (9218868437227405312 < mi) = false) := by
      by_cases h : 9218868437227405312 < mi
      · exact Or.inl ⟨h, decide_eq_true h⟩
      · exact Or.inr ⟨h, decide_eq_false h⟩
    have hd2 : (mi < 4503599627370496 ∧ decide (mi < 4503599627370496) = true) ∨ (¬ mi < 4503599627370496 ∧ decide (mi < 4503599627370496) = false) := by
      by_cases h : mi < 4503599627370496
      · exact Or.inl ⟨h, decide_eq_true h⟩
      · exact Or.inr ⟨h, decide_eq_false h⟩
    clear H
    rcases hd1 with ⟨hd1, he1⟩ | ⟨hd1, he1⟩
    · first
        | (exfalso; omega)
        | (rw [he1]; rfl)
    · rw [he1]
      rcases hd2 with ⟨hd2, he2⟩ | ⟨hd2, he2⟩
      · first
          | (exfalso; omega)
          | (rw [he2]; simp only [*, cond_true, cond_false]; first | done | rfl)
          | (simp only [*, cond_true, cond_false]; first | done | rfl)
      · first
          | (exfalso; omega)
          | (rw [he2]; simp only [*, cond_true, cond_false]; first | done | rfl)
          | (simp only [*, cond_true, cond_false]; first | done | rfl)
end Go.Proofs.YtfodeeejolkkfaaGreat
namespace Go.Proofs.YtfodeeejolkkfaaGreat
open Go.RowKit Go.Lib

/-- the bytes of a number, the least first. -/
def leB (v n : Nat) : List UInt8 := (List.range n).map fun i => UInt8.ofNat (v / 256 ^ i % 256)
theorem leB_length (v n : Nat) : (leB v n).length = n := by simp [leB]
/-- the row of n bytes of which j are written. -/
def rowL (n v j : Nat) : Array Value := ((List.range n).map fun i => Value.int .u8 (if i < j then ((v / 256 ^ i % 256 : Nat) : Int) else 0)).toArray
theorem rowL_zero (n v u : Nat) : rowL n v 0 = rowL n u 0 := by simp [rowL]
theorem rowL_get (n v j i : Nat) (h : i < n) : (rowL n v j)[i]? = some (.int .u8 (if i < j then ((v / 256 ^ i % 256 : Nat) : Int) else 0)) := by simp [rowL, h]
theorem rowL_set (n v j : Nat) (_h : j < n) : (rowL n v j).setIfInBounds j (.int .u8 ((v / 256 ^ j % 256 : Nat) : Int)) = rowL n v (j + 1) := by
  apply Array.ext
  · simp [rowL]
  · intro i h1 h2
    have hi : i < n := by simpa [rowL] using h2
    by_cases e : j = i
    · subst e
      simp [rowL]
    · rw [Array.getElem_setIfInBounds (by simpa [rowL] using hi), if_neg e]
      have : (i < j + 1) = (i < j) := by simp; omega
      simp [rowL, this]
theorem rowL_full (n v : Nat) : rowL n v n = (Lib.byteCells (leB v n)).toArray := by
  apply Array.ext
  · simp [rowL, Lib.byteCells, leB]
  · intro i h1 h2
    have hi : i < n := by simpa [rowL] using h1
    simp [rowL, Lib.byteCells, leB, hi]
set_option maxRecDepth 100000 in
set_option maxHeartbeats 1000000 in
theorem bput_any (w : World) (v n : Nat) (hn : n ≤ 8) (_hv : v < 18446744073709551616)
    (hmk : ∀ w : World, (Instr.makeSlice 23 (.int .i64 n) (.int .i64 n)).run Tryz.prog w = .ok (.slice (some ⟨w.heap.size, 0, none⟩) n n) (w.alloc (.cells (rowL n 0 0) 5))) :
    Calls Tryz.prog 169 #[.int .u64 v, .int .i64 n] w fun e w' => ∃ g, e = .returned (.slice (some ⟨g, 0, none⟩) n n) ∧ Chg [] w w' ∧ w'.heap[g]? = some (.cells (rowL n v n) 5 (0, 0)) ∧ w.heap.size ≤ g := by
  go_enter Tryz.func169, Tryz.ntmps169
  have g0 : (w.alloc (.cells (rowL n 0 0) 5)).heap[w.heap.size]? = some (.cells (rowL n v 0) 5 (0, 0)) := by
    rw [rowL_zero n v 0]
    exact heap_new w _
  have k0 : Chg [] w (w.alloc (.cells (rowL n 0 0) 5)) := Chg.alloc w _
  go_wp2_with fail
  generalize w.alloc (.cells (rowL n 0 0) 5) = w1 at *
  generalize hz : w.heap.size = z at *
  go_loopw [11] (fun i wr => ∃ j : Nat, j ≤ n ∧ i = .int .i64 j ∧ Chg [] w wr ∧ wr.heap[z]? = some (.cells (rowL n v j) 5 (0, 0))) (fun i _ => n - (intOf i).toNat)
  case atStart => exact ⟨0, by omega, rfl, k0, g0⟩
  case round =>
    obtain ⟨j, hj, rfl, kc, gj⟩ := hrel
    by_cases hlt : j < n
    · have cj : wr.cell? ⟨z, j, none⟩ = some (.int .u8 0) := by
        refine cell_is gj j ?_
        rw [rowL_get n v j j hlt, if_neg (Nat.lt_irrefl j)]
      have fj := unfrozen gj j
      clear g0 k0
      go_wp2_with fail
      have e : (v : Int) / 2 ^ (8 * j) % 256 = ((v / 256 ^ j % 256 : Nat) : Int) := by
        have h2 : (2 : Int) ^ (8 * j) = ((256 ^ j : Nat) : Int) := by
          rw [Int.pow_mul, Int.natCast_pow]
          rfl
        rw [h2]
        rfl
      refine ⟨⟨j + 1, by omega, by simp, kc.new_set (by omega) j _, ?_⟩, by simp [intOf]; omega⟩
      rw [e]
      exact heap_set gj j _ (rowL_set n v j hlt)
    · obtain rfl : j = n := by omega
      go_wp2_with fail
      go_ret
      exact ⟨z, rfl, kc, gj, by omega⟩
theorem bput_bs (w : World) (v n : Nat) (hn : n ≤ 8) (hv : v < 18446744073709551616)
    (hmk : ∀ w : World, (Instr.makeSlice 23 (.int .i64 n) (.int .i64 n)).run Tryz.prog w = .ok (.slice (some ⟨w.heap.size, 0, none⟩) n n) (w.alloc (.cells (rowL n 0 0) 5))) :
    Calls Tryz.prog 169 #[.int .u64 v, .int .i64 n] w fun e w' => ∃ g, e = .returned (.slice (some ⟨g, 0, none⟩) n n) ∧ Chg [] w w' ∧ Bs w' (some ⟨g, 0, none⟩) (leB v n) ∧ w.heap.size ≤ g := by
  refine (bput_any w v n hn hv hmk).mono ?_
  rintro e w' ⟨g, rfl, hc, hg, hl⟩
  refine ⟨g, rfl, hc, ?_, hl⟩
  rw [rowL_full] at hg
  exact Bs.row hg
set_option maxRecDepth 100000 in
theorem put32_any (w : World) (v : Nat) (hv : v < 4294967296) : Calls Tryz.prog 117 #[.int .u32 v] w fun e w' => ∃ g, e = .returned (.slice (some ⟨g, 0, none⟩) 4 4) ∧ Chg [] w w' ∧ Bs w' (some ⟨g, 0, none⟩) (leB v 4) ∧ w.heap.size ≤ g := by
  have HP := Lib.hid (bput_bs w v 4 (by omega) (by omega) (fun w => by kernel_rfl))
  go_enter Tryz.func117, Tryz.ntmps117
  go_wp2_with fail
  refine HP.out.mono ?_
  rintro e w' ⟨g, rfl, h1, h2, h3⟩
  go_wp2_with fail
  go_ret
  exact ⟨g, rfl, h1, h2, h3⟩
set_option maxRecDepth 100000 in
theorem put64_any (w : World) (v : Nat) (hv : v < 18446744073709551616) : Calls Tryz.prog 114 #[.int .u64 v] w fun e w' => ∃ g, e = .returned (.slice (some ⟨g, 0, none⟩) 8 8) ∧ Chg [] w w' ∧ Bs w' (some ⟨g, 0, none⟩) (leB v 8) ∧ w.heap.size ≤ g := by
  have HP := Lib.hid (bput_bs w v 8 (by omega) hv (fun w => by kernel_rfl))
  go_enter Tryz.func114, Tryz.ntmps114
  go_wp2_with fail
  refine HP.out.mono ?_
  rintro e w' ⟨g, rfl, h1, h2, h3⟩
  go_wp2_with fail
  go_ret
  exact ⟨g, rfl, h1, h2, h3⟩
end Go.Proofs.YtfodeeejolkkfaaGreat
namespace Go.Proofs.YtfodeeejolkkfaaGreat
open Go.RowKit Go.Lib

/-- a turn of the register. -/
def crcBit (r : Int) : Int := bits .xor .u32 (r / 2) (bits .and .u32 2197175160 (-(bits .and .u32 r 1) % 4294967296))
def crcBits : Nat → Int → Int
  | 0, r => r
  | n + 1, r => crcBit (crcBits n r)
/-- .. behind a byte. -/
def crcByte (r : Int) (c : UInt8) : Int := crcBits 8 (bits .xor .u32 r (c.toNat : Int))
def crcRun (r : Int) (l : List UInt8) : Int := l.foldl crcByte r
/-- the check sum of bytes. -/
def crcI (l : List UInt8) : Int := bits .xor .u32 IntKind.u32.max (crcRun (bits .xor .u32 IntKind.u32.max 0) l)
theorem wrap_u32 (n : Int) : 0 ≤ IntKind.u32.wrap n ∧ IntKind.u32.wrap n < 4294967296 := by
  have : IntKind.u32.wrap n = n % 4294967296 := by simp [IntKind.wrap, IntKind.signed, IntKind.bits]
  rw [this]; omega
theorem bits_u32 (op : BinOp) (x y : Int) : 0 ≤ bits op .u32 x y ∧ bits op .u32 x y < 4294967296 := wrap_u32 _
theorem crcI_ge (l : List UInt8) : 0 ≤ crcI l ∧ crcI l < 4294967296 := bits_u32 _ _ _
theorem crcBits_ge (n : Nat) (r : Int) (h0 : 0 ≤ r) (h1 : r < 4294967296) : 0 ≤ crcBits n r ∧ crcBits n r < 4294967296 := by
  cases n with
  | zero => exact ⟨h0, h1⟩
  | succ n => exact bits_u32 .xor (crcBits n r / 2) (bits .and .u32 2197175160 (-(bits .and .u32 (crcBits n r) 1) % 4294967296))
/-- .. as a number. -/
def crcN (l : List UInt8) : Nat := (crcI l).toNat
theorem crcN_lt (l : List UInt8) : crcN l < 4294967296 := by have := crcI_ge l; unfold crcN; omega
theorem crcN_eq (l : List UInt8) : ((crcN l : Nat) : Int) = crcI l := by have := crcI_ge l; unfold crcN; omega
set_option maxRecDepth 100000 in
set_option maxHeartbeats 2000000 in
theorem cadd_crc (w : World) {C : Nat} {pa : Option Addr} {m c : Nat} {l : List UInt8} (hC : w.heap[C]? = some (.cells #[.int .u32 0] 344 (0, 0))) (hb : Bs w pa l) (hl : l.length = m) (hm : m ≤ 1000000) :
    Calls Tryz.prog 225 #[.pointer (some ⟨C, 0, none⟩), .slice pa m c] w fun e w' => e = .returned (.pointer (some ⟨C, 0, none⟩)) ∧ Chg [C] w w' ∧ w'.heap[C]? = some (.cells #[.int .u32 (crcI l)] 344 (0, 0)) := by
  have c0 : w.cell? ⟨C, 0, none⟩ = some (.int .u32 0) := cell_is hC 0 rfl
  have f0 := unfrozen hC 0
  have HC := Lib.hid hC
  have HB := Lib.hid hb
  clear hC hb
  go_enter Tryz.func225, Tryz.ntmps225
  go_wp2_with fail
  go_loopw [5, 7, 17] (fun r _ i wr => ∃ j : Nat, j ≤ m ∧ i = .int .i64 j ∧ r = .int .u32 (crcRun (bits .xor .u32 IntKind.u32.max 0) (l.take j)) ∧ w = wr) (fun _ _ i _ => m - (intOf i).toNat)
  case atStart => exact ⟨0, by omega, rfl, rfl, rfl⟩
  case round =>
    obtain ⟨j, hj, rfl, rfl, rfl⟩ := hrel
    by_cases hlt : j < m
    · obtain ⟨b, o, rfl, cj⟩ : ∃ b o, pa = some ⟨b, o, none⟩ ∧ w.cell? ⟨b, o + j, none⟩ = some (.int .u8 (l[j]'(by omega)).toNat) := by
        rcases HB.out with h | ⟨b, o, e, _, h⟩
        · rw [h] at hl; simp at hl; omega
        · exact ⟨b, o, e, h j (by omega)⟩
      have htk : l.take (j + 1) = l.take j ++ [l[j]'(by omega)] := by rw [List.take_succ_eq_append_getElem]
      have hrun : crcRun (bits .xor .u32 IntKind.u32.max 0) (l.take (j + 1)) = crcByte (crcRun (bits .xor .u32 IntKind.u32.max 0) (l.take j)) (l[j]'(by omega)) := by rw [htk]; unfold crcRun; rw [List.foldl_append]; rfl
      have HR := Lib.hid hrun
      clear hrun htk
      generalize l[j]'(by omega) = y at *
      generalize crcRun (bits .xor .u32 IntKind.u32.max 0) (l.take j) = r at *
      go_wp2_with fail
      go_loopw [5, 25] (fun q i wr => ∃ k : Nat, k ≤ 8 ∧ i = .int .i64 k ∧ q = .int .u32 (crcBits k (bits .xor .u32 r (y.toNat : Int))) ∧ w = wr) (fun _ i _ => 8 - (intOf i).toNat)
      case atStart =>
        have hy : (y.toNat : Int) % 4294967296 = y.toNat := by have := y.toNat_lt; omega
        exact ⟨0, by omega, rfl, by rw [hy]; rfl, rfl⟩
      case round =>
        obtain ⟨k, hk, rfl, rfl, rfl⟩ := hrel
        by_cases hlk : k < 8
        · generalize hq : crcBits k (bits .xor .u32 r (y.toNat : Int)) = q at *
          go_wp2_with fail
          exact ⟨⟨k + 1, by omega, by simp, by rw [← hq]; rfl, trivial⟩, by simp [intOf]; omega⟩
        · obtain rfl : k = 8 := by omega
          generalize hq : crcBits 8 (bits .xor .u32 r (y.toNat : Int)) = q at *
          go_wp2_with fail
          exact ⟨⟨j + 1, by omega, by simp, by rw [HR.out, ← hq]; rfl, trivial⟩, by simp [intOf]; omega⟩
    · obtain rfl : j = m := by omega
      have ht : l.take j = l := List.take_of_length_le (by omega)
      rw [ht] at *
      go_wp2_with fail
      go_ret
      exact ⟨rfl, Chg.set w C 0 _, heap_set HC.out 0 _ rfl⟩
theorem cnew_crc (w : World) : Calls Tryz.prog 224 #[] w fun e w' => e = .returned (.pointer (some ⟨w.heap.size, 0, none⟩)) ∧ w' = w.alloc (.cells #[.int .u32 0] 344) := by
  go_enter Tryz.func224, Tryz.ntmps224
  go_wp2_with fail
  go_ret
  exact ⟨rfl, rfl⟩
theorem cval_crc (w : World) {C : Nat} {r : Int} (hC : w.heap[C]? = some (.cells #[.int .u32 r] 344 (0, 0))) : Calls Tryz.prog 226 #[.pointer (some ⟨C, 0, none⟩)] w fun e w' => e = .returned (.int .u32 r) ∧ w' = w := by
  have c0 : w.cell? ⟨C, 0, none⟩ = some (.int .u32 r) := cell_is hC 0 rfl
  clear hC
  go_enter Tryz.func226, Tryz.ntmps226
  go_wp2_with fail
  go_ret
  exact ⟨rfl, rfl⟩
set_option maxRecDepth 100000 in
theorem crc_of (w : World) {pa : Option Addr} {m c : Nat} {l : List UInt8} (hb : Bs w pa l) (hl : l.length = m) (hm : m ≤ 1000000) :
    Calls Tryz.prog 204 #[.slice pa m c] w fun e w' => e = .returned (.int .u32 (crcN l : Nat)) ∧ Chg [] w w' := by
  have HB := Lib.hid hb
  clear hb
  rw [crcN_eq]
  go_enter Tryz.func204, Tryz.ntmps204
  go_wp2_with fail
  refine (cnew_crc w).mono ?_
  rintro e w1 ⟨rfl, rfl⟩
  have k1 : Chg [] w (w.alloc (.cells #[.int .u32 0] 344)) := Chg.alloc w _
  have h1 := heap_new w (.cells #[.int .u32 0] 344)
  have HB1 := Lib.hid (HB.out.chg k1)
  generalize w.alloc (.cells #[.int .u32 0] 344) = w1 at *
  generalize hz : w.heap.size = C at *
  go_wp2_with fail
  refine (cadd_crc w1 h1 HB1.out hl hm).mono ?_
  rintro e w2 ⟨rfl, k2, h2⟩
  go_wp2_with fail
  refine (cval_crc w2 h2).mono ?_
  rintro e w3 ⟨rfl, rfl⟩
  go_wp2_with fail
  go_ret
  exact ⟨rfl, k1.trans k2 (fun x hx hlt => by simp at hx; omega)⟩
end Go.Proofs.YtfodeeejolkkfaaGreat
namespace Go.Proofs.YtfodeeejolkkfaaGreat
open Go.RowKit Go.Lib

set_option maxRecDepth 100000 in
set_option maxHeartbeats 1000000 in
theorem bgrow_nil (w : World) {k : Nat} (h0 : 0 < k) (h1 : k ≤ 1000000) : Calls Tryz.prog 223 #[.slice none 0 0, .int .i64 k] w fun e w' => ∃ v, e = .returned v ∧ Chg [] w w' ∧ w'.ownsRow w.heap.size 5 1 v 0 (Lib.byteCells []) := by
  obtain ⟨i, hi0, hz, hz1, hz2⟩ := info_parts inf5c
  have hr := fun ty => run_append_nil_zeros (P := Tryz.prog) w 23 3 ty 5 i (.int .u8 0) .i64 .i64 ty23 (by kernel_rfl) hi0 hz k h0 (by omega) (by omega) (by rw [hz2]; omega)
  have hge := grownCap_ge w k 0 5
  have hle := grownCap_le_maxLen w k 0 5 (by unfold maxLen; omega)
  have hsz : (Builtin.zeroCells (Value.int .u8 0).cells k ++ Builtin.zeroCells (Value.int .u8 0).cells (grownCap w k 0 5 - k)).size = grownCap w k 0 5 * 1 := by
    simp only [Array.size_append, size_zeroCells, Value.cells]
    simp
    omega
  generalize (Builtin.zeroCells (Value.int .u8 0).cells k ++ Builtin.zeroCells (Value.int .u8 0).cells (grownCap w k 0 5 - k)) = Z at *
  generalize grownCap w k 0 5 = G at *
  clear hi0 hz hz1 hz2
  have hk : ¬ ((k : Int) < 0) := by omega
  have hk2 : (k : Int) > 0 := by omega
  have hG63 : G ≤ 9223372036854775807 := by unfold maxLen at hle; omega
  have hf : (w.drew.alloc (.cells Z 5)).ownsRow w.heap.size 5 1 (.slice (some ⟨w.heap.size, 0, none⟩) 0 G) 0 (Lib.byteCells []) := by
    refine ⟨rfl, Or.inr ⟨w.heap.size, G, Z, rfl, Nat.le_refl _, heap_new w.drew _, Nat.zero_le _, hle, hsz, by simp [Lib.byteCells]⟩⟩
  have kc : Chg [] w (w.drew.alloc (.cells Z 5)) := (Chg.refl [] w).drew.then_alloc _
  go_enter Tryz.func223, Tryz.ntmps223
  go_wp2_with (at_builtin; refine Lib.wpList_append_run (w := w) rfl (.tmp 20) (.tmp 21) 23 3 rfl (.slice none 0 0) (.int .i64 k) rfl rfl _ _ (hr _) ?_)
  go_ret
  exact ⟨_, rfl, kc, hf⟩
/-- rows of bytes stand here. -/
def Rws (w : World) (A o : Nat) (ls : List (List UInt8)) : Prop := ∀ i (h : i < ls.length), ∃ pa c, w.cell? ⟨A, o + i, none⟩ = some (.slice pa ls[i].length c) ∧ Bs w pa ls[i]
theorem Rws.keep {w w' : World} {A o : Nat} {ls : List (List UInt8)} (h : Rws w A o ls) (hc : Chg [] w w') : Rws w' A o ls := fun i hi => by
  obtain ⟨pa, c, h1, h2⟩ := h i hi
  exact ⟨pa, c, hc.cell h1 (by simp), h2.chg hc⟩
theorem flat_take {ls : List (List UInt8)} {j : Nat} (h : j < ls.length) : (ls.take (j + 1)).flatten = (ls.take j).flatten ++ ls[j] := by
  rw [List.take_succ_eq_append_getElem h, List.flatten_append]
  simp
theorem flat_le (ls : List (List UInt8)) (j : Nat) : (ls.take j).flatten.length ≤ ls.flatten.length := by
  conv => rhs; rw [← List.take_append_drop j ls, List.flatten_append, List.length_append]
  omega
/-- how many bytes the first rows have. -/
def flatN (ls : List (List UInt8)) (j : Nat) : Nat := (ls.take j).flatten.length
theorem flatN_succ {ls : List (List UInt8)} {j : Nat} (h : j < ls.length) : flatN ls (j + 1) = flatN ls j + ls[j].length := by
  unfold flatN
  rw [flat_take h, List.length_append]
theorem flatN_le (ls : List (List UInt8)) (j : Nat) : flatN ls j ≤ flatN ls ls.length := by
  unfold flatN
  rw [List.take_of_length_le (Nat.le_refl ls.length)]
  exact flat_le ls j
set_option maxRecDepth 100000 in
set_option maxHeartbeats 2000000 in
theorem bconcat_any (w : World) {E o cp k n : Nat} {ls : List (List UInt8)} {F : List UInt8} (hs : Rws w E o ls) (hk : ls.length = k) (hk1 : k ≤ 1000) (hF : ls.flatten = F) (hn : F.length = n) (hm0 : 0 < n) (hm : n ≤ 100000) :
    Calls Tryz.prog 203 #[.slice (some ⟨E, o, none⟩) k cp] w fun e w' => ∃ v, e = .returned v ∧ Chg [] w w' ∧ w'.ownsRow w.heap.size 5 1 v n (Lib.byteCells F) := by
  have HS := Lib.hid hs
  have HM0 := Lib.hid hm0
  have HM := Lib.hid hm
  have hN : flatN ls k = n := by unfold flatN; rw [List.take_of_length_le (by omega), hF, hn]
  have HN := Lib.hid hN
  have HF := Lib.hid hF
  have HL := Lib.hid hn
  clear hs hm0 hm hF hn hN
  go_enter Tryz.func203, Tryz.ntmps203
  go_wp2_with fail
  go_loopw [3, 5, 11] (fun s _ i wr => ∃ j : Nat, j ≤ k ∧ i = .int .i64 j ∧ s = .int .i64 (flatN ls j : Nat) ∧ w = wr) (fun _ _ i _ => k - (intOf i).toNat)
  case atStart => exact ⟨0, by omega, rfl, rfl, rfl⟩
  case round =>
    obtain ⟨j, hj, rfl, rfl, rfl⟩ := hrel
    by_cases hlt : j < k
    · obtain ⟨pa, c, c0, -⟩ := HS.out j (by omega)
      have e1 := flatN_succ (ls := ls) (j := j) (by omega)
      have hb := flatN_le ls (j + 1)
      rw [hk, HN.out] at hb
      have hM := HM.out
      have hwr : wrap64 ((flatN ls j : Int) + (ls[j]'(by omega)).length) = (flatN ls (j + 1) : Nat) := by unfold wrap64; omega
      have hge : ¬ (wrap64 ((flatN ls j : Int) + (ls[j]'(by omega)).length) < 0) := by omega
      have HW := Lib.hid hwr
      clear hwr e1 hb hM
      generalize (ls[j]'(by omega)).length = q at *
      generalize flatN ls j = p at *
      go_wp2_with fail
      exact ⟨⟨j + 1, by omega, by simp, by rw [HW.out], trivial⟩, by simp [intOf]; omega⟩
    · obtain rfl : j = k := by omega
      rw [HN.out]
      have HG := Lib.hid (bgrow_nil w HM0.out (by have := HM.out; omega))
      go_wp2_with fail
      refine HG.out.mono ?_
      rintro e w1 ⟨v0, rfl, kc, ho0⟩
      have HA := Lib.hid (HS.out.keep kc)
      have hsz := kc.size
      have hn0 : flatN ls 0 = 0 := rfl
      have ho1 : w1.ownsRow w.heap.size 5 1 v0 (flatN ls 0) (Lib.byteCells (ls.take 0).flatten) := ho0
      go_wp2_with fail
      go_loopw [6, 8, 27] (fun v _ i wr => ∃ t : Nat, t ≤ j ∧ i = .int .i64 t ∧ Chg [] w wr ∧ wr.ownsRow w.heap.size 5 1 v (flatN ls t) (Lib.byteCells (ls.take t).flatten)) (fun _ _ i _ => j - (intOf i).toNat)
      case atStart => exact ⟨0, by omega, rfl, kc, ho1⟩
      case round =>
        obtain ⟨t, ht, rfl, k1, o1⟩ := hrel
        by_cases hlt : t < j
        · obtain ⟨pa, c, c0, hbs⟩ := (HS.out.keep k1) t (by omega)
          have HB := Lib.hid hbs
          have e1 := flatN_succ (ls := ls) (j := t) (by omega)
          have hb := flatN_le ls (t + 1)
          rw [hk, HN.out] at hb
          have hM := HM.out
          have hsum : flatN ls t + (ls[t]'(by omega)).length ≤ 100000 := by omega
          have HSu := Lib.hid hsum
          have HE := Lib.hid e1
          have HT := Lib.hid (flat_take (ls := ls) (j := t) (by omega))
          have hsz1 := k1.size
          have HO := Lib.hid o1
          clear hbs e1 hb hM hsum o1
          generalize hq : ls[t]'(by omega) = q at *
          generalize flatN ls t = p at *
          generalize (ls.take t).flatten = G at *
          go_wp2_with (at_builtin; refine wpList_append_bs rfl (.tmp 31) (.tmp 32) 23 5 rfl ty23 inf5c w.heap.size _ p G rfl HO.out pa q.length c q rfl rfl HB.out (by have := HSu.out; omega) hsz1 ?_; intro v1 w2 h1)
          go_roundw
          case rel => exact ⟨t + 1, by omega, by simp, Chg.of_below (k1.below0.trans h1.2.1), by rw [HE.out, HT.out]; exact h1.1⟩
          case measure => simp [intOf]; omega
        · obtain rfl : t = j := by omega
          go_wp2_with fail
          go_ret
          rw [HN.out, List.take_of_length_le (by omega), HF.out] at o1
          exact ⟨_, rfl, k1, o1⟩
end Go.Proofs.YtfodeeejolkkfaaGreat
