/- Lemmas and walks: Walks: a view reads one block. Walks: the store's Read of one block; what stands of a store with one transaction. Walks: versions of blocks are read. Walks: a view reads one block, versions and its own writes too. A view reads a block, the spans told exactly. Printed by mkNa.py. Walks: an open transaction of a store, whatever was committed before: reads and writes. -/
import Derived.Deep.AppendLies
import Derived.Test.YtfodeeejolkkfaaGreatJd
namespace Go.Proofs.YtfodeeejolkkfaaGreat
open Go.RowKit Go.Lib

theorem ty68 : Tryz.prog.underlying 68 = some (.slice 285) := by kernel_rfl
theorem inf285 : (Tryz.prog.info? 285).map (fun i => (i.zero, i.size, i.bytes)) = some (some (.agg #[.int .i64 0, .slice none 0 0, .bool false]), 3, 40) := by kernel_rfl
/-- one read is put behind reads of an own row, as a step of a region that draws. -/
theorem step_append_rd {ops : Array Oper} {o : Oper} {a : Act} {w : World} {K : Act → World → Prop} {Q : Exit → Act → World → Prop} {E : Prop} (hgd : o.guard = none) (s x : Operand)
    (ho : o.op = .call { callee := .builtin .append, args := #[s, x], argTypes := #[68, 68] }) (base : Nat) (v : Value) (n : Nat) (xs : List Value) (hs : a.eval s = v) (hown : w.ownsRow base 285 3 v n xs) (b c : Nat) (u0 u1 u2 : Value)
    (hx : a.eval x = .slice (some ⟨b, 0, none⟩) 1 c) (c0 : w.cell? ⟨b, 0, none⟩ = some u0) (c1 : w.cell? ⟨b, 1, none⟩ = some u1) (c2 : w.cell? ⟨b, 2, none⟩ = some u2) (h1 : u0.oneCell' = true ∧ u1.oneCell' = true ∧ u2.oneCell' = true) (hn : n ≤ 1000000) (hbase : base ≤ w.heap.size)
    (h : ∀ g cap w', w'.ownsRow base 285 3 (.slice (some ⟨g, 0, none⟩) (n + 1) cap) (n + 1) (xs ++ [u0, u1, u2]) → Chg v.ownBlock.toList w w' → K (a.put o.dst (.slice (some ⟨g, 0, none⟩) (n + 1) cap)) w') :
    if Region.wanted o (yielded ops a.tmps) = true then Oper.wp Tryz.prog o a w K Q else E := by
  obtain ⟨i, hi0, hz, hz1, hz2⟩ := info_parts inf285
  refine step_append_lies w hgd s x 68 ho base 285 i _ 3 40 ty68 hi0 hz hz1 hz2 rfl (by decide) v n xs hs hown ⟨b, 0, none⟩ 1 c [u0, u1, u2] hx rfl ?_ ?_ (by decide) (by unfold maxLen; omega) (by omega) hbase _ rfl ?_
  · intro j u hu
    rw [add_lit, Nat.zero_add]
    match j with
    | 0 => cases hu; exact c0
    | 1 => cases hu; exact c1
    | 2 => cases hu; exact c2
    | j + 3 => simp at hu
  · intro u hu
    simp at hu
    rcases hu with rfl | rfl | rfl
    · exact h1.1
    · exact h1.2.1
    · exact h1.2.2
  · intro g cap w' h2 h3 _ _
    refine h g cap w' h2 ?_
    cases hv : v.ownBlock with
    | none => rw [hv] at h3; exact Chg.of_grown0 h3
    | some k => rw [hv] at h3; exact Chg.of_grown h3
/-- a block's bytes in a buffer, or noughts. -/
def Blk (w : World) (L : List (Int × Value)) (b : Int) (l : List UInt8) : Prop := (getL L b = none ∧ l = zeroB) ∨ ∃ g c, getL L b = some (.slice (some ⟨g, 0, none⟩) 40 c) ∧ Bs w (some ⟨g, 0, none⟩) l ∧ l.length = 40 ∧ Bt w g
/-- a view, with at most n reads in a row behind base. -/
def Vw (w : World) (base Q X W V n : Nat) : Prop := ∃ s m xs, ViewAt w Q X W V s ∧ m ≤ n ∧ w.ownsRow base 285 3 s m xs
theorem Vw.keep {w w' : World} {S : List Nat} {base Q X W V n : Nat} (h : Vw w base Q X W V n) (hc : Chg S w w') (hS : Av w S [275, 285]) : Vw w' base Q X W V n := by
  obtain ⟨s, m, xs, h1, h2, h3⟩ := h
  refine ⟨s, m, xs, hc.heap h1 (hS.ne h1 (by simp)), h2, h3.1, ?_⟩
  rcases h3.2 with hn | ⟨g, cap, cur, hv, hb, hg, rest⟩
  · exact Or.inl hn
  · exact Or.inr ⟨g, cap, cur, hv, hb, hc.heap hg (hS.ne hg (by simp)), rest⟩
theorem Blk.len {w : World} {L : List (Int × Value)} {b : Int} {l : List UInt8} (h : Blk w L b l) : l.length = 40 := by
  rcases h with ⟨_, rfl⟩ | ⟨g, c, _, _, h, _⟩
  · rfl
  · exact h
/-- a buffer's Get. -/
theorem bget_any (w : World) {W rw : Nat} {L : List (Int × Value)} {b : Int} {l : List UInt8} (h : BufAt w W rw L) (hb : Blk w L b l) : Calls Tryz.prog 211 #[.pointer (some ⟨W, 0, none⟩), .int .i64 b] w fun e w' =>
    (e = .returned (.tuple #[.slice none 0 0, .bool false]) ∧ l = zeroB ∧ w = w') ∨ ∃ g' c', e = .returned (.tuple #[.slice (some ⟨g', 0, none⟩) 40 c', .bool true]) ∧ Chg [] w w' ∧ Bs w' (some ⟨g', 0, none⟩) l ∧ w.heap.size ≤ g' := by
  rcases hb with ⟨h1, h2⟩ | ⟨g, c, h1, h2, h3, _⟩
  · exact (bget_none w h h1).mono fun e w' ⟨he, hw⟩ => Or.inl ⟨he, h2, hw⟩
  · exact (bget_some w h h1 h2 h3).mono fun e w' hh => Or.inr hh
/-- the blocks of T are those of a transaction's reads: a view, a set of spans, a row of reads. -/
def Rt (w : World) (base : Nat) (T : List Nat) : Prop := ∀ x ∈ T, base ≤ x ∧ ∃ cs t fr, w.heap[x]? = some (.cells cs t fr) ∧ (t = 275 ∨ t = 312 ∨ t = 285)
theorem Rt.cells {w : World} {base : Nat} {T : List Nat} (h : Rt w base T) {g : Nat} {cs : Array Value} {t : TypeId} {fr : Nat × Nat} (hg : w.heap[g]? = some (.cells cs t fr)) (ht : t ≠ 275 ∧ t ≠ 312 ∧ t ≠ 285) : g ∉ T := by
  intro hm
  obtain ⟨_, cs', t', fr', h1, h2⟩ := h g hm
  rw [hg] at h1
  cases h1
  rcases h2 with h | h | h
  · exact ht.1 h
  · exact ht.2.1 h
  · exact ht.2.2 h
theorem Rt.map {w : World} {base : Nat} {T : List Nat} (h : Rt w base T) {r : Nat} {L : List (Int × Value)} (hg : MapAt w r L) : r ∉ T := by
  intro hm
  obtain ⟨_, cs', t', fr', h1, _⟩ := h r hm
  exact map_cells hg h1 rfl
theorem Rt.low {w : World} {base : Nat} {T : List Nat} (h : Rt w base T) {g : Nat} (hg : g < base) : g ∉ T := fun hm => by have := (h g hm).1; omega
/-- what a view's Read holds on to. -/
structure Vr (w : World) (Q X rx W rw : Nat) (L : List (Int × Value)) (b : Int) (l : List UInt8) : Prop where
  ver : VerAt w X rx
  buf : BufAt w W rw L
  blk : Blk w L b l
theorem Blk.keepT {w w' : World} {T : List Nat} {base : Nat} {L : List (Int × Value)} {b : Int} {l : List UInt8} (h : Blk w L b l) (hc : Chg T w w') (hT : Rt w base T) : Blk w' L b l := by
  rcases h with h | ⟨g, c, h1, h2, h3, cs, hcs⟩
  · exact Or.inl h
  · have hg := hT.cells hcs (by simp)
    exact Or.inr ⟨g, c, h1, h2.chgT hc hg, h3, cs, hc.heap hcs hg⟩
theorem Rt.nil (w : World) (base : Nat) : Rt w base [] := fun x hx => by cases hx
theorem Blk.keep {w w' : World} {L : List (Int × Value)} {b : Int} {l : List UInt8} (h : Blk w L b l) (hc : Chg [] w w') : Blk w' L b l := h.keepT hc (Rt.nil w 0)
theorem VerAt.keep0 {w w' : World} {X rx : Nat} (h : VerAt w X rx) (hc : Chg [] w w') : VerAt w' X rx := ⟨hc.heap h.1 (by simp), h.2.keep hc (by simp)⟩
theorem ownsRow_chgV {w w' : World} {V : Nat} {base n : Nat} {v : Value} {xs : List Value} {v2 : Value} (h : w.ownsRow base 285 3 v n xs) (hc : Chg [V] w w') (hV : SpansAt w V v2) : w'.ownsRow base 285 3 v n xs := by
  refine ⟨h.1, ?_⟩
  rcases h.2 with hn | ⟨g, cap, cur, hv, hb, hg, rest⟩
  · exact Or.inl hn
  · exact Or.inr ⟨g, cap, cur, hv, hb, hc.heap hg (by simpa using heap_ne hg hV (by simp)), rest⟩
theorem chg_setRow (w : World) (g : Nat) (cs : Array Value) : Chg [g] w (w.setRow g cs) := ⟨rfl, rfl, rfl, by simp [World.setRow], fun k _ hs => setRow_other w g k cs (fun e => hs (by simp [e]))⟩
theorem ownsRow_chg2 {w w' : World} {g : Nat} {base n : Nat} {v : Value} {xs : List Value} {cs : Array Value} (h : w.ownsRow base 285 3 v n xs) (hc : Chg [g] w w') (hV : w.heap[g]? = some (.cells cs 5 (0, 0))) : w'.ownsRow base 285 3 v n xs := by
  refine ⟨h.1, ?_⟩
  rcases h.2 with hn | ⟨k, cap, cur, hv, hb, hg, rest⟩
  · exact Or.inl hn
  · exact Or.inr ⟨k, cap, cur, hv, hb, hc.heap hg (by simpa using heap_ne hg hV (by simp)), rest⟩
theorem own_block_ne {w : World} {g : Nat} {base n e size : Nat} {v : Value} {xs : List Value} {cs : Array Value} {t : TypeId} {fr : Nat × Nat} (h : w.ownsRow base e size v n xs) (hg : w.heap[g]? = some (.cells cs t fr)) (ht : t ≠ e) : g ∉ v.ownBlock.toList := by
  rcases h.2 with ⟨rfl, _⟩ | ⟨k, cap, cur, rfl, hb, hk, rest⟩
  · simp [Value.ownBlock]
  · simpa [Value.ownBlock] using heap_ne hg hk (by intro e; cases e; exact ht rfl)
theorem ownsRow_av {w w' : World} {S : List Nat} {base n e size : Nat} {v : Value} {xs : List Value} (h : w.ownsRow base e size v n xs) (hc : Chg S w w') (hS : Av w S [e]) : w'.ownsRow base e size v n xs := by
  refine ⟨h.1, ?_⟩
  rcases h.2 with hn | ⟨g, cap, cur, hv, hb, hg, rest⟩
  · exact Or.inl hn
  · exact Or.inr ⟨g, cap, cur, hv, hb, hc.heap hg (hS.ne hg (by simp)), rest⟩
/-- what stands behind a Read's last store. -/
theorem vread_end {w wb wc w5 : World} {base Q X W V n m g g5 cp5 : Nat} {s : Value} {xs : List Value} {ys : List Value} {l : List UInt8} {Cb : Array Value} (HRt : Rt w base (V :: Q :: s.ownBlock.toList)) (k9 : Chg [V] w wb) (ky : Chg [] wb wc) (hm : m ≤ n) (hB : Bs wb (some ⟨g, 0, none⟩) l)
    (gy : wc.heap[g]? = some (.cells Cb 5 (0, 0))) (hgn : g ∉ s.ownBlock.toList) (hgQ : Q ∉ [g]) (oy : wc.ownsRow base 285 3 s m xs) (qy : ViewAt wc Q X W V s) (hQn : Q ∉ s.ownBlock.toList) (sb : SpV wc base V (n + 1))
    (o5 : w5.ownsRow base 285 3 (.slice (some ⟨g5, 0, none⟩) (m + 1) cp5) (m + 1) ys) (k5 : Chg s.ownBlock.toList wc w5) :
    ∃ T, Chg T w (w5.setCell ⟨Q, 4, none⟩ (.slice (some ⟨g5, 0, none⟩) (m + 1) cp5)) ∧ Rt w base T ∧ Bs (w5.setCell ⟨Q, 4, none⟩ (.slice (some ⟨g5, 0, none⟩) (m + 1) cp5)) (some ⟨g, 0, none⟩) l ∧ Vw (w5.setCell ⟨Q, 4, none⟩ (.slice (some ⟨g5, 0, none⟩) (m + 1) cp5)) base Q X W V (n + 1) ∧ SpV (w5.setCell ⟨Q, 4, none⟩ (.slice (some ⟨g5, 0, none⟩) (m + 1) cp5)) base V (n + 1) := by
  have q5 := k5.heap qy hQn
  have g5h := k5.heap gy hgn
  have kS := Chg.set w5 Q 4 (.slice (some ⟨g5, 0, none⟩) (m + 1) cp5)
  have hgQ' : g ∉ [Q] := by simpa using (fun e => hgQ (by simp [e]))
  have hav : Av wc s.ownBlock.toList [117, 312] := by
    intro x hx cs t fr hh
    rcases oy.2 with ⟨rfl, _⟩ | ⟨k, cap, cur, rfl, hb, hk, rest⟩
    · simp [Value.ownBlock] at hx
    · simp [Value.ownBlock] at hx
      subst hx
      rw [hk] at hh
      cases hh
      simp
  have hq1 : Av w5 [Q] [117, 312] := fun x hx cs t fr hh => by
    rw [List.mem_singleton] at hx; subst hx; rw [q5] at hh; cases hh; simp
  have hq2 : Av w5 [Q] [285] := fun x hx cs t fr hh => by
    rw [List.mem_singleton] at hx; subst hx; rw [q5] at hh; cases hh; simp
  refine ⟨V :: Q :: s.ownBlock.toList, ?_, HRt, ((hB.chg ky).chgT k5 hgn).chgT kS hgQ', ⟨_, m + 1, ys, heap_set q5 4 _ rfl, by omega, ownsRow_av o5 kS hq2⟩, (sb.keep k5 hav).keep kS hq1⟩
  refine (((k9.mono ?_).then (ky.mono ?_)).then (k5.mono ?_)).then (kS.mono ?_)
  · intro x hx _; simp at hx; simp [hx]
  · intro x hx _; cases hx
  · intro x hx _; simp only [List.mem_cons]; exact Or.inr (Or.inr hx)
  · intro x hx _; simp at hx; simp [hx]
theorem Bs.cells_at {w : World} {g : Nat} {l : List UInt8} (h : Bs w (some ⟨g, 0, none⟩) l) : ∀ j v, (Lib.byteCells l)[j]? = some v → w.cell? ((⟨g, 0, none⟩ : Addr).add j) = some v := by
  intro j u hu
  rcases h with rfl | ⟨b, off, e, hb, hc⟩
  · simp [Lib.byteCells] at hu
  · cases e
    have hj : j < l.length := by
      rcases Nat.lt_or_ge j l.length with h | h
      · exact h
      · rw [List.getElem?_eq_none (by simpa [Lib.byteCells] using h)] at hu; cases hu
    rw [add_lit, hc j hj, ← hu]
    simp [Lib.byteCells, hj]
theorem byteCells_one (l : List UInt8) : ∀ v ∈ Lib.byteCells l, v.oneCell' = true := by
  intro u hu
  simp only [Lib.byteCells, List.mem_map] at hu
  obtain ⟨x, _, rfl⟩ := hu
  rfl
set_option maxRecDepth 100000 in
set_option maxHeartbeats 20000000 in
theorem vread_one (w : World) {base Q X rx W rw V n : Nat} {L : List (Int × Value)} {b : Int} {l : List UInt8} (hX : VerAt w X rx) (hW : BufAt w W rw L) (hB : Blk w L b l) (hV : Vw w base Q X W V n) (hS : SpV w base V n) (hn : n ≤ 11) (hbase : base ≤ Q ∧ base ≤ V) (h0 : 0 ≤ b) (h1 : b < 258) :
    Calls Tryz.prog 175 #[.pointer (some ⟨Q, 0, none⟩), .agg #[.int .i64 b, .int .i64 1]] w fun e w' =>
    ∃ g c' T, e = .returned (.tuple #[.slice (some ⟨g, 0, none⟩) 40 c', .int .i64 0]) ∧ 40 ≤ c' ∧ Chg T w w' ∧ Rt w base T ∧ w.heap.size ≤ g ∧ Bs w' (some ⟨g, 0, none⟩) l ∧ Vw w' base Q X W V (n + 1) ∧ SpV w' base V (n + 1) := by
  have k0 : Chg [] w (w.alloc (.cells #[.int .i64 b, .int .i64 1] 117)) := Chg.alloc w _
  have K0 := heap_new w (.cells #[.int .i64 b, .int .i64 1] 117)
  have hX1 := hX.keep0 k0
  have hW1 := hW.keep k0 (by simp) (by simp)
  have hB1 := hB.keep k0
  obtain ⟨s, m, xs, qw, hm, how⟩ := hV
  have q := k0.heap qw (by simp)
  have ho := ownsRow_chg how k0
  have hS1 := hS.keep0 k0
  have HRt : Rt w base (V :: Q :: s.ownBlock.toList) := by
    intro x hx
    simp only [List.mem_cons] at hx
    rcases hx with rfl | rfl | hx
    · exact ⟨hbase.2, _, _, _, hS.choose_spec.choose_spec.1, by simp⟩
    · exact ⟨hbase.1, _, _, _, qw, by simp⟩
    · rcases how.2 with ⟨rfl, _⟩ | ⟨k, cap, cur, rfl, hb, hk, rest⟩
      · simp [Value.ownBlock] at hx
      · simp [Value.ownBlock] at hx
        subst hx
        exact ⟨hb, _, _, _, hk, by simp⟩
  clear qw how
  have q0 : (w.alloc (.cells #[.int .i64 b, .int .i64 1] 117)).cell? ⟨Q, 0, none⟩ = some (.pointer (some ⟨X, 0, none⟩)) := cell_is q 0 rfl
  have q1 : (w.alloc (.cells #[.int .i64 b, .int .i64 1] 117)).cell? ⟨Q, 1, none⟩ = some (.pointer (some ⟨W, 0, none⟩)) := cell_is q 1 rfl
  have q2 : (w.alloc (.cells #[.int .i64 b, .int .i64 1] 117)).cell? ⟨Q, 2, none⟩ = some (.int .i64 0) := cell_is q 2 rfl
  have q3 : (w.alloc (.cells #[.int .i64 b, .int .i64 1] 117)).cell? ⟨Q, 3, none⟩ = some (.pointer (some ⟨V, 0, none⟩)) := cell_is q 3 rfl
  have a0 : (w.alloc (.cells #[.int .i64 b, .int .i64 1] 117)).cell? ⟨w.heap.size, 0, none⟩ = some (.int .i64 b) := cell_is K0 0 rfl
  have a1 : (w.alloc (.cells #[.int .i64 b, .int .i64 1] 117)).cell? ⟨w.heap.size, 1, none⟩ = some (.int .i64 1) := cell_is K0 1 rfl
  go_enter Tryz.func175, Tryz.ntmps175
  go_wp2_with fail
  go_step3
  go_wp2_with fail
  generalize w.alloc (.cells #[.int .i64 b, .int .i64 1] 117) = w1 at *
  generalize hK : w.heap.size = K at *
  go_region_held3 (fun wx => wx.cell? ⟨Q, 0, none⟩ = some (.pointer (some ⟨X, 0, none⟩)) ∧ wx.cell? ⟨Q, 2, none⟩ = some (.int .i64 0) ∧ wx.cell? ⟨K, 0, none⟩ = some (.int .i64 b) ∧ wx.cell? ⟨K, 1, none⟩ = some (.int .i64 1))
    (first | (exact ⟨q0, q2, a0, a1⟩) | (exact ⟨k2.cell q0 (by simp), k2.cell q2 (by simp), k2.cell a0 (by simp), k2.cell a1 (by simp)⟩))
    (first | (go_at_call 210; refine (range_one w1.drew (hX1.keep0 (Chg.refl [] w1).drew) h0 h1).mono ?_; rintro e w2 ⟨g, c', rfl, hc', k2, o2⟩))
  have kk2 := (Chg.refl [] w1).drew.then k2
  have q := kk2.heap q (by simp)
  have K0 := kk2.heap K0 (by simp)
  have ho := ownsRow_chg ho kk2
  have hW2 := hW1.keep kk2 (by simp) (by simp)
  have hB2 := hB1.keep kk2
  have hS2 := hS1.keep0 kk2
  have hK2 : K ≤ w2.heap.size := by have := k0.size; have := kk2.size; omega
  have ho2 : w2.ownsRow K 5 1 (.slice (some ⟨g, 0, none⟩) 40 c') 40 (Lib.byteCells zeroB) := ownsRow_base o2 (by have := k0.size; show K ≤ w1.heap.size; omega)
  have kk := k0.then kk2
  clear q0 q1 q2 q3 a0 a1 hX1 hW1 hB1 hS1 o2 k0 k2 kk2
  have q3 : w2.cell? ⟨Q, 3, none⟩ = some (.pointer (some ⟨V, 0, none⟩)) := cell_is q 3 rfl
  have a0 : w2.cell? ⟨K, 0, none⟩ = some (.int .i64 b) := cell_is K0 0 rfl
  have a1 : w2.cell? ⟨K, 1, none⟩ = some (.int .i64 1) := cell_is K0 1 rfl
  go_wp2_with fail
  have kx : Chg [] w2 (w2.drew.alloc (.cells #[.int .i64 b, .int .i64 1] 117)) := (Chg.refl [] w2).drew.then_alloc _
  have kx0 := heap_new w2.drew (.cells #[.int .i64 b, .int .i64 1] 117)
  have hVK : V ≠ K := by obtain ⟨_, _, hh, _⟩ := hS2; exact heap_ne hh K0 (by simp)
  have hVQ : V ≠ Q := by obtain ⟨_, _, hh, _⟩ := hS2; exact heap_ne hh q (by simp)
  have hbw : base ≤ (w2.drew.alloc (.cells #[.int .i64 b, .int .i64 1] 117)).heap.size := by have := heap_lt q; have := kx.size; omega
  have kx2 : Chg [V] w2 (w2.drew.alloc (.cells #[.int .i64 b, .int .i64 1] 117)) := kx.mono (fun x hx _ => by cases hx)
  go_region_held3 (fun wx => wx.cell? ⟨Q, 3, none⟩ = some (.pointer (some ⟨V, 0, none⟩)) ∧ wx.cell? ⟨K, 0, none⟩ = some (.int .i64 b) ∧ wx.cell? ⟨K, 1, none⟩ = some (.int .i64 1))
    (first | (exact ⟨q3, a0, a1⟩) | (exact ⟨kx.cell q3 (by simp), kx.cell a0 (by simp), kx.cell a1 (by simp)⟩) | (exact ⟨(kx2.then k3).cell q3 (by simpa using hVQ.symm), (kx2.then k3).cell a0 (by simpa using hVK.symm), (kx2.then k3).cell a1 (by simpa using hVK.symm)⟩))
    (first | (go_at_call 197; refine (iadd_one (w2.drew.alloc (.cells #[.int .i64 b, .int .i64 1] 117)) (base := base) (V := V) (n := n) (E := w2.drew.heap.size) (hS2.keep0 kx) hn hbw h0 h1 (cell_is kx0 0 rfl) (cell_is kx0 1 rfl)).mono ?_; rintro e w3 ⟨rfl, k3, hS3⟩))
  have k4 := kx2.then k3
  have hR4 : Rt w2 base [V] := fun x hx => by
    rw [List.mem_singleton] at hx
    subst hx
    obtain ⟨_, _, hh, _⟩ := hS2
    exact ⟨hbase.2, _, _, _, hh, by simp⟩
  have q := k4.heap q (by simpa using hVQ.symm)
  have K0 := k4.heap K0 (by simpa using hVK.symm)
  have hW3 := hW2.keep k4 (hR4.cells hW2.1 (by simp)) (hR4.map hW2.2)
  have hB3 := hB2.keepT k4 hR4
  have hz : Bs w2 (some ⟨g, 0, none⟩) zeroB ∧ Bt w2 g ∧ K ≤ g := by
    rcases ho2.2 with ⟨e, h0⟩ | ⟨g', cap, cur, e, hA, hgt, _⟩
    · cases h0
    · cases e; exact ⟨Bs.own ho2, ⟨_, hgt⟩, hA⟩
  have hgV : g ∉ [V] := hR4.cells hz.2.1.choose_spec (by simp)
  have kw3 : Chg [V] w w3 := (kk.mono (fun x hx _ => by cases hx)).then k4
  have hRw : Rt w base [V] := fun x hx => by
    rw [List.mem_singleton] at hx
    subst hx
    obtain ⟨_, _, hh, _⟩ := hS
    exact ⟨hbase.2, _, _, _, hh, by simp⟩
  have ho3 := ownsRow_chgV ho k4 hS2.choose_spec.choose_spec.1
  obtain ⟨cur, hg3, hcur⟩ : ∃ cur, w3.heap[g]? = some (.cells cur 5 (0, 0)) ∧ cur.size = c' * 1 ∧ cur.toList.take (40 * 1) = Lib.byteCells zeroB := by
    rcases ho2.2 with ⟨e, h0⟩ | ⟨g', cap, cur, e, hA, hgt, _, _, hsz, htk⟩
    · cases h0
    · cases e; exact ⟨cur, k4.heap hgt hgV, hsz, htk⟩
  have HC := Lib.hid hcur
  clear hcur
  have hgK := hz.2.2
  clear q3 a0 a1 hW2 hB2 hS2 hz ho2 kx kx2 kx0 k3 k4 hR4 hgV hX hW hS kk hbw hB
  clear ho
  have a0 : w3.cell? ⟨K, 0, none⟩ = some (.int .i64 b) := cell_is K0 0 rfl
  have a1 : w3.cell? ⟨K, 1, none⟩ = some (.int .i64 1) := cell_is K0 1 rfl
  have q1 : w3.cell? ⟨Q, 1, none⟩ = some (.pointer (some ⟨W, 0, none⟩)) := cell_is q 1 rfl
  have q4 : w3.cell? ⟨Q, 4, none⟩ = some s := cell_is q 4 rfl
  go_wp2_with fail
  go_step3
  go_wp2_with fail
  have hb0 : IntKind.i64.wrap b = b := by rw [IntKind.wrap_i64]; omega
  go_loopw [55] (fun i wr => (i = .int .i64 0 ∧ wr = w3) ∨ (i = .int .i64 1 ∧ ∃ T, Chg T w wr ∧ Rt w base T ∧ Bs wr (some ⟨g, 0, none⟩) l ∧ Vw wr base Q X W V (n + 1) ∧ SpV wr base V (n + 1))) (fun i _ => 1 - (intOf i).toNat)
  case atStart => exact Or.inl ⟨rfl, rfl⟩
  case round =>
    rcases hrel with ⟨rfl, rfl⟩ | ⟨rfl, T, kT, hT, hBs, hVw, hSp⟩
    · rcases hB3 with ⟨hg0, rfl⟩ | ⟨gb, cb, hg1, hbs, hl40, hbt⟩
      · go_wp2_with fail
        go_region_held3 (fun wx => wx.cell? ⟨Q, 1, none⟩ = some (.pointer (some ⟨W, 0, none⟩)) ∧ wx.cell? ⟨K, 0, none⟩ = some (.int .i64 b)) (first | (exact ⟨q1, a0⟩))
          (first | (go_at_call 211; refine (bget_none wr.drew (hW3.keep (Chg.refl [] wr).drew (by simp) (by simp)) hg0).mono ?_; rintro e wa ⟨rfl, rfl⟩))
        have k7 : Chg [] wr wr.drew := (Chg.refl [] wr).drew
        have hgb : wr.drew.heap[g]? = some (.cells cur 5 (0, 0)) := hg3
        have qb : ViewAt wr.drew Q X W V s := q
        have Kb : wr.drew.heap[K]? = some (.cells #[.int .i64 b, .int .i64 1] 117 (0, 0)) := K0
        have ob := ownsRow_chg ho3 k7
        have sb := hS3.keep0 k7
        have k9 : Chg [V] w wr.drew := kw3.drew
        have hBb : Bs wr.drew (some ⟨g, 0, none⟩) zeroB := Bs.block hgb (by have := HC.out.2; rw [show zeroB.length = 40 from rfl]; simpa using this)
        have hKQ : K ≠ Q := heap_ne Kb qb (by simp)
        have hgQ : Q ∉ [g] := by simpa using heap_ne qb hgb (by simp)
        clear hg3 q K0 ho3 hS3 kw3 k7 hW3 q1 a0 a1 q4
        generalize wr.drew = wb at *
        have a0 : wb.cell? ⟨K, 0, none⟩ = some (.int .i64 b) := cell_is Kb 0 rfl
        have q4 : wb.cell? ⟨Q, 4, none⟩ = some s := cell_is qb 4 rfl
        have a0d : wb.drew.cell? ⟨K, 0, none⟩ = some (.int .i64 b) := a0
        have q4d : wb.drew.cell? ⟨Q, 4, none⟩ = some s := q4
        have HBb := Lib.hid hBb
        go_wp2_with fail
        go_region_law
          (first
            | (go_simp; go_at_call 113; refine (clone_bs wb.drew (l := zeroB) (m := 40) rfl (by decide) (by decide) (HBb.out.chg (Chg.refl [] wb).drew)).mono ?_; rintro e w6 ⟨g2, c2, rfl, k6, _, _⟩; have a06 := k6.cell a0d (by simp); have q46 := k6.cell q4d (by simp); have ky : Chg [] wb (w6.alloc (.cells #[.int .i64 b, .slice (some ⟨g2, 0, none⟩) 40 c2, .bool false] 285)) := ((Chg.refl [] wb).drew.then k6).then_alloc _; have y0 := heap_new w6 (.cells #[.int .i64 b, .slice (some ⟨g2, 0, none⟩) 40 c2, .bool false] 285); have oy := ownsRow_chg ob ky; have qy := ky.heap qb (by simp); have q4y := cell_is qy 4 rfl; have a0y := cell_is (ky.heap Kb (by simp)) 0 rfl; have hQn := own_block_ne oy qy (by decide); have hby : base ≤ (w6.alloc (.cells #[.int .i64 b, .slice (some ⟨g2, 0, none⟩) 40 c2, .bool false] 285)).heap.size := (by have := heap_lt qy; omega); have gy := ky.heap hgb (by simp); have hgn := own_block_ne oy gy (by decide))
            | (refine step_append_rd rfl (.tmp 100) (.tmp 108) rfl base _ m xs rfl oy w6.heap.size 1 _ _ _ rfl (cell_is y0 0 rfl) (cell_is y0 1 rfl) (cell_is y0 2 rfl) ⟨rfl, rfl, rfl⟩ (by omega) hby ?_; intro g5 cp5 w5 o5 k5; have q5 := k5.heap qy hQn; have q45 := cell_is q5 4 rfl; have f45 := unfrozen q5 4))
        all_goals
          have HZ := Lib.hid (vread_end HRt k9 ky hm HBb.out gy hgn hgQ oy qy hQn (sb.keep0 ky) (g5 := g5) (cp5 := cp5) (w5 := w5) o5 k5)
          clear HBb gy hgn sb o5 k5 q5 f45 q45 hBb
          go_wp2_with fail
          go_roundw
          case rel => exact Or.inr ⟨rfl, HZ.out⟩
          case measure => decide
      · have HG := Lib.hid hg1
        have HL := Lib.hid hl40
        have HB := Lib.hid hbs
        clear hg1 hl40 hbs
        go_wp2_with fail
        go_region_held3 (fun wx => wx.cell? ⟨Q, 1, none⟩ = some (.pointer (some ⟨W, 0, none⟩)) ∧ wx.cell? ⟨K, 0, none⟩ = some (.int .i64 b)) (first | (exact ⟨q1, a0⟩) | (exact ⟨k6.cell q1 (by simp), k6.cell a0 (by simp)⟩))
          (first | (go_at_call 211; refine (bget_some wr.drew (hW3.keep (Chg.refl [] wr).drew (by simp) (by simp)) HG.out HB.out HL.out).mono ?_; rintro e wa ⟨g2, c2, rfl, k6, hbs6, l6⟩))
        have k7 := (Chg.refl [] wr).drew.then k6
        have hga := k7.heap hg3 (by simp)
        have hqa := k7.heap q (by simp)
        have hKa := k7.heap K0 (by simp)
        have hoa := ownsRow_chg ho3 k7
        have hSa := hS3.keep0 k7
        have k8 := kw3.then (k7.mono (T := [V]) (fun x hx _ => by cases hx))
        have hsrc : ∀ j v, (Lib.byteCells l)[j]? = some v → wa.cell? ((⟨g2, 0, none⟩ : Addr).add j) = some v := hbs6.cells_at
        have hlc : (Lib.byteCells l).length = 40 := by simpa [Lib.byteCells] using HL.out
        have H1 := Lib.hid hsrc
        have H2 := Lib.hid hlc
        have hfit : 0 + (Lib.byteCells l).length ≤ cur.size := by have := HC.out.1; omega
        have H3 := Lib.hid hfit
        clear hsrc hlc hfit
        go_wp2_with (refine wpList_copy_own rfl (.tmp 78) (.tmp 79) 23 23 rfl 5 ty23 (by kernel_rfl) g 0 40 c' ⟨g2, 0, none⟩ 40 c2 rfl rfl cur 5 hga (Lib.byteCells l) H2.out H1.out H3.out (fun v hv => byteCells_one l v hv) ?_)
        have kb : Chg [g] wa (wa.setRow g (List.take 0 cur.toList ++ (Lib.byteCells l ++ List.drop (0 + (Lib.byteCells l).length) cur.toList)).toArray) := chg_setRow _ _ _
        have hgb := setRow_heap wa g cur (List.take 0 cur.toList ++ (Lib.byteCells l ++ List.drop (0 + (Lib.byteCells l).length) cur.toList)).toArray 5 (0, 0) hga
        have hBb : Bs (wa.setRow g (List.take 0 cur.toList ++ (Lib.byteCells l ++ List.drop (0 + (Lib.byteCells l).length) cur.toList)).toArray) (some ⟨g, 0, none⟩) l := Bs.block hgb (by rw [HL.out, List.take_zero, List.nil_append, List.toList_toArray]; rw [show (40 : Nat) = (Lib.byteCells l).length from H2.out.symm]; exact List.take_left)
        generalize hwb : (wa.setRow g (List.take 0 cur.toList ++ (Lib.byteCells l ++ List.drop (0 + (Lib.byteCells l).length) cur.toList)).toArray) = wb at *
        clear hwb
        generalize (List.take 0 cur.toList ++ (Lib.byteCells l ++ List.drop (0 + (Lib.byteCells l).length) cur.toList)).toArray = Cb at hgb
        simp only [Act.put, List.setIfInBounds_toArray, List.set_cons_zero, List.set_cons_succ]
        have hgQ : Q ∉ [g] := by simpa using heap_ne hqa hga (by simp)
        have hgK2 : K ∉ [g] := by simpa using heap_ne hKa hga (by simp)
        have qb := kb.heap hqa hgQ
        have Kb := kb.heap hKa hgK2
        have ob := ownsRow_chg2 hoa kb hga
        have sb := hSa.keep kb (fun x hx cs t fr hh => by rw [List.mem_singleton] at hx; subst hx; rw [hga] at hh; cases hh; simp)
        have k9 : Chg [V] w wb := k8.trans kb (fun x hx hlt => by rw [List.mem_singleton] at hx; omega)
        have hKQ : K ≠ Q := heap_ne Kb qb (by simp)
        clear hga hqa hKa hoa hSa k7 k8 kb H1 H2 H3 hbs6 k6
        have a0 : wb.cell? ⟨K, 0, none⟩ = some (.int .i64 b) := cell_is Kb 0 rfl
        have q4 : wb.cell? ⟨Q, 4, none⟩ = some s := cell_is qb 4 rfl
        have ky : Chg [] wb (wb.drew.alloc (.cells #[.int .i64 b, .slice (some ⟨g2, 0, none⟩) 40 c2, .bool true] 285)) := (Chg.refl [] wb).drew.then_alloc _
        have y0 := heap_new wb.drew (.cells #[.int .i64 b, .slice (some ⟨g2, 0, none⟩) 40 c2, .bool true] 285)
        have oy := ownsRow_chg ob ky
        have qy := ky.heap qb (by simp)
        have Ky := ky.heap Kb (by simp)
        have q4y := cell_is qy 4 rfl
        have a0y := cell_is Ky 0 rfl
        have hQn := own_block_ne oy qy (by decide)
        have hKn := own_block_ne oy Ky (by decide)
        have hby : base ≤ (wb.drew.alloc (.cells #[.int .i64 b, .slice (some ⟨g2, 0, none⟩) 40 c2, .bool true] 285)).heap.size := by have := heap_lt qy; omega
        have q4d : wb.drew.cell? ⟨Q, 4, none⟩ = some s := q4
        have q4e : (wb.alloc (.cells #[.int .i64 b, .slice (some ⟨g2, 0, none⟩) 40 c2, .bool true] 285)).cell? ⟨Q, 4, none⟩ = some s := q4y
        have a0e : (wb.alloc (.cells #[.int .i64 b, .slice (some ⟨g2, 0, none⟩) 40 c2, .bool true] 285)).cell? ⟨K, 0, none⟩ = some (.int .i64 b) := a0y
        have a0d : wb.drew.cell? ⟨K, 0, none⟩ = some (.int .i64 b) := a0
        have gy := ky.heap hgb (by simp)
        have hgn := own_block_ne oy gy (by decide)
        have HF := Lib.hid (fun (g5 cp5 : Nat) (w5 : World) (o5 : w5.ownsRow base 285 3 (.slice (some ⟨g5, 0, none⟩) (m + 1) cp5) (m + 1) (xs ++ [.int .i64 b, .slice (some ⟨g2, 0, none⟩) 40 c2, .bool true])) (k5 : Chg s.ownBlock.toList (wb.drew.alloc (.cells #[.int .i64 b, .slice (some ⟨g2, 0, none⟩) 40 c2, .bool true] 285)) w5) =>
          vread_end HRt k9 ky hm hBb gy hgn hgQ oy qy hQn (sb.keep0 ky) o5 k5)
        clear hBb gy hgn sb
        go_region_law
          (first | (refine step_append_rd rfl (.tmp 85) (.tmp 92) rfl base _ m xs rfl oy wb.drew.heap.size 1 _ _ _ rfl (cell_is y0 0 rfl) (cell_is y0 1 rfl) (cell_is y0 2 rfl) ⟨rfl, rfl, rfl⟩ (by omega) hby ?_; intro g5 cp5 w5 o5 k5; have q5 := k5.heap qy hQn; have q45 := cell_is q5 4 rfl; have f45 := unfrozen q5 4; have a05 := k5.cell a0y hKn))
        all_goals
          have HZ := Lib.hid (HF.out g5 cp5 w5 o5 k5)
          clear HF o5 k5 q5 f45 q45
          go_wp2_with fail
          go_roundw
          case rel => exact Or.inr ⟨rfl, HZ.out⟩
          case measure => decide
    · have hgw : w.heap.size ≤ g := by omega
      go_wp2_with fail
      simp only [Exit.noGoto]
      go_ret2
      exact ⟨g, c', T, rfl, hc', kT, hT, hgw, hBs, hVw, hSp⟩
end Go.Proofs.YtfodeeejolkkfaaGreat
namespace Go.Proofs.YtfodeeejolkkfaaGreat
open Go.RowKit Go.Lib

/-- where the parts of a store with one transaction lie. -/
structure Ids where
  P : Nat
  N : Nat
  S : Nat
  M : Nat
  X : Nat
  rx : Nat
  B : Nat
  rb : Nat
  r : Nat
  A : Nat
  c : Nat
  Z : List Nat
  T : Nat
  W : Nat
  rw : Nat
  Q : Nat
  V : Nat
/-- the store's own parts; they lie below base. -/
structure Sta (w : World) (base : Nat) (d : Ids) : Prop where
  store : StoreAt w d.P d.N d.S (some ⟨d.M, 0, none⟩)
  dev : ∃ ops, DevAt w d.N d.A d.c ops d.Z
  mg : Mg w d.M d.X d.rx d.B d.rb d.r 1 [(1, .int .i64 0)] [(1, .pointer (some ⟨d.T, 0, none⟩))]
  low : d.P < base ∧ d.N < base ∧ d.A < base ∧ d.M < base ∧ d.X < base ∧ d.rx < base ∧ d.B < base ∧ d.rb < base ∧ d.r < base
  lowZ : ∀ z ∈ d.Z, z < base
theorem Sta.keep {w w' : World} {base : Nat} {d : Ids} {T : List Nat} (h : Sta w base d) (hc : Chg T w w') (hT : ∀ x ∈ T, base ≤ x) : Sta w' base d := by
  obtain ⟨l1, l2, l3, l4, l5, l6, l7, l8, l9⟩ := h.low
  have n : ∀ x, x < base → x ∉ T := fun x hx hm => by have := hT x hm; omega
  obtain ⟨ops, hd⟩ := h.dev
  have m := h.mg
  exact ⟨h.store.keep hc (n _ l1), ⟨ops, hd.keep hc (n _ l2) (n _ l3) (fun z hz => n _ (h.lowZ z hz))⟩,
    ⟨hc.heap m.mgr (n _ l4), ⟨hc.heap m.ver.1 (n _ l5), m.ver.2.keep hc (n _ l6)⟩, m.book.keep hc (n _ l7) (n _ l8), m.map.keep hc (n _ l9), m.n1, m.n2, m.n3⟩, h.low, h.lowZ⟩
/-- what of memory behind base may change while one transaction goes on. -/
def Ow (base : Nat) (w w' : World) : Prop := ∃ T, Chg T w w' ∧ ∀ x ∈ T, base ≤ x ∧ ∀ cs t fr, w.heap[x]? = some (.cells cs t fr) → t = 275 ∨ t = 312 ∨ t = 285
theorem Ow.refl (base : Nat) (w : World) : Ow base w w := ⟨[], Chg.refl _ _, fun x hx => by cases hx⟩
theorem Ow.of_chg {base : Nat} {w w' : World} (h : Chg [] w w') : Ow base w w' := ⟨[], h, fun x hx => by cases hx⟩
theorem Ow.trans {base : Nat} {a b c : World} (h : Ow base a b) (k : Ow base b c) : Ow base a c := by
  obtain ⟨T, h1, h2⟩ := h
  obtain ⟨U, k1, k2⟩ := k
  refine ⟨T ++ U, (h1.mono (fun x hx _ => List.mem_append_left _ hx)).then (k1.mono (fun x hx _ => List.mem_append_right _ hx)), fun x hx => ?_⟩
  by_cases hT : x ∈ T
  · exact h2 x hT
  · rcases List.mem_append.1 hx with hx | hx
    · exact absurd hx hT
    · exact ⟨(k2 x hx).1, fun cs t fr hh => (k2 x hx).2 cs t fr (h1.heap hh hT)⟩
theorem Ow.then {base : Nat} {a b c : World} (h : Ow base a b) (k : Chg [] b c) : Ow base a c := h.trans (Ow.of_chg k)
theorem Ow.heap {base : Nat} {w w' : World} (h : Ow base w w') {g : Nat} {cs : Array Value} {t : TypeId} {fr : Nat × Nat} (hg : w.heap[g]? = some (.cells cs t fr)) (ht : t ≠ 275 ∧ t ≠ 312 ∧ t ≠ 285) : w'.heap[g]? = some (.cells cs t fr) := by
  obtain ⟨T, h1, h2⟩ := h
  refine h1.heap hg (fun hm => ?_)
  rcases (h2 g hm).2 cs t fr hg with h | h | h
  · exact ht.1 h
  · exact ht.2.1 h
  · exact ht.2.2 h
theorem Ow.below {base : Nat} {w w' : World} (h : Ow base w w') {B : Nat} (hB : B ≤ w.heap.size) (hb : B ≤ base) : Below B w w' := by
  obtain ⟨T, h1, h2⟩ := h
  exact h1.below hB (fun x hx => Nat.le_trans hb (h2 x hx).1)
theorem Ow.size {base : Nat} {w w' : World} (h : Ow base w w') : w.heap.size ≤ w'.heap.size := by obtain ⟨T, h1, _⟩ := h; exact h1.size
theorem av_map {w : World} {r : Nat} {L : List (Int × Value)} (h : MapAt w r L) (ts : List Nat) : Av w [r] ts := fun x hx cs t fr hh => by rw [List.mem_singleton] at hx; subst hx; exact absurd rfl (map_cells h hh)
/-- a store with one transaction, whose blocks are q, behind n reads and k writes. -/
structure St (w : World) (base : Nat) (d : Ids) (q : Int → List UInt8) (n k : Nat) : Prop where
  sta : Sta w base d
  tx : TxAt w d.T d.W d.Q
  buf : ∃ L, BufAt w d.W d.rw L ∧ L.length ≤ k ∧ ∀ b, 0 ≤ b → b < 258 → Blk w L b (q b)
  vw : Vw w base d.Q d.X d.W d.V n
  sp : SpV w base d.V n
  high : base ≤ d.Q ∧ base ≤ d.V ∧ base ≤ d.rw
theorem St.keep {w w' : World} {base : Nat} {d : Ids} {q : Int → List UInt8} {n k : Nat} (h : St w base d q n k) (hc : Chg [] w w') : St w' base d q n k := by
  obtain ⟨L, h1, h2, h3⟩ := h.buf
  exact ⟨h.sta.keep hc (fun x hx => by cases hx), hc.heap h.tx (by simp), ⟨L, h1.keep hc (by simp) (by simp), h2, fun b hb hb' => (h3 b hb hb').keep hc⟩, h.vw.keep hc (Av.nil _ _), h.sp.keep0 hc, h.high⟩
theorem St.tx4 {w : World} {base : Nat} {d : Ids} {q : Int → List UInt8} {n k : Nat} (h : St w base d q n k) : ∃ L v s, Tx w d.X d.T d.W d.rw d.Q d.V L v s ∧ L.length ≤ k ∧ BufAt w d.W d.rw L ∧ ∀ b, 0 ≤ b → b < 258 → Blk w L b (q b) := by
  obtain ⟨L, h1, h2, h3⟩ := h.buf
  obtain ⟨s, m, xs, h4, _, _⟩ := h.vw
  obtain ⟨v, l, h5, _, _⟩ := h.sp
  exact ⟨L, v, s, ⟨h.tx, h1, h4, h5⟩, h2, h1, h3⟩
set_option maxRecDepth 100000 in
set_option maxHeartbeats 2000000 in
theorem tread_one (w : World) {base : Nat} {d : Ids} {q : Int → List UInt8} {n k : Nat} {b : Int} (h : St w base d q n k) (hn : n ≤ 11) (h0 : 0 ≤ b) (h1 : b < 258) :
    Calls Tryz.prog 125 #[.pointer (some ⟨d.M, 0, none⟩), .int .i64 1, .agg #[.int .i64 b, .int .i64 1]] w fun e w' =>
    ∃ g c', e = .returned (.tuple #[.slice (some ⟨g, 0, none⟩) 40 c', .int .i64 0]) ∧ 40 ≤ c' ∧ Ow base w w' ∧ St w' base d q (n + 1) k ∧ w.heap.size ≤ g ∧ Bs w' (some ⟨g, 0, none⟩) (q b) := by
  have k0 : Chg [] w (w.alloc (.cells #[.int .i64 b, .int .i64 1] 117)) := Chg.alloc w _
  have K0 := heap_new w (.cells #[.int .i64 b, .int .i64 1] 117)
  have h2 := h.keep k0
  have HO := Lib.hid (topen_one _ h2.sta.mg h2.tx)
  clear h
  go_enter Tryz.func125, Tryz.ntmps125
  go_wp2_with fail
  generalize w.alloc (.cells #[.int .i64 b, .int .i64 1] 117) = w1 at *
  generalize hK : w.heap.size = K at *
  refine HO.out.mono ?_
  rintro e w2 ⟨rfl, rfl⟩
  have t5 : w1.cell? ⟨d.T, 5, none⟩ = some (.pointer (some ⟨d.Q, 0, none⟩)) := cell_is h2.tx 5 rfl
  have a0 : w1.cell? ⟨K, 0, none⟩ = some (.int .i64 b) := cell_is K0 0 rfl
  have a1 : w1.cell? ⟨K, 1, none⟩ = some (.int .i64 1) := cell_is K0 1 rfl
  go_wp2_with fail
  obtain ⟨L, hbuf, hL, hq⟩ := h2.buf
  have h3 := h2.keep (Chg.refl [] w1).drew
  go_region_held3 (fun wx => wx.cell? ⟨d.T, 5, none⟩ = some (.pointer (some ⟨d.Q, 0, none⟩)) ∧ wx.cell? ⟨K, 0, none⟩ = some (.int .i64 b) ∧ wx.cell? ⟨K, 1, none⟩ = some (.int .i64 1))
    (first | (exact ⟨t5, a0, a1⟩) | (exact ⟨cell_is t6 5 rfl, cell_is K6 0 rfl, cell_is K6 1 rfl⟩))
    (first | (go_at_call 175; refine (vread_one w1.drew h3.sta.mg.ver (hbuf.keep (Chg.refl [] w1).drew (by simp) (by simp)) (hq b h0 h1) h3.vw h3.sp hn ⟨h3.high.1, h3.high.2.1⟩ h0 h1).mono ?_; rintro e w6 ⟨g, c', T, rfl, hc', k6, hT, hg, hB6, hV6, hS6⟩; have t6 := k6.heap h3.tx (hT.cells h3.tx (by simp)); have K6 := k6.heap K0 (hT.cells K0 (by simp))))
  have hlow : ∀ x ∈ T, base ≤ x := fun x hx => (hT x hx).1
  have hfin : St w6 base d q (n + 1) k := ⟨h3.sta.keep k6 hlow, t6, ⟨L, (hbuf.keep (Chg.refl [] w1).drew (by simp) (by simp)).keep k6 (hT.cells hbuf.1 (by simp)) (hT.map hbuf.2), hL, fun x hx hx' => ((hq x hx hx').keep (Chg.refl [] w1).drew).keepT k6 hT⟩, hV6, hS6, h3.high⟩
  have how : Ow base w w6 := by
    refine ⟨T, ((k0.drew.mono (T := T) (fun x hx _ => by cases hx))).then k6, fun x hx => ⟨hlow x hx, fun cs t fr hh => ?_⟩⟩
    have := k0.drew.heap hh (by simp)
    obtain ⟨_, cs', t', fr', hx', ht⟩ := hT x hx
    rw [this] at hx'
    cases hx'
    exact ht
  have hsz : w.heap.size ≤ g := by have := k0.size; have h9 : w1.drew.heap.size = w1.heap.size := rfl; omega
  clear hq hbuf h2 h3 hV6 hS6 k6 hT t6 K6
  go_wp2_with fail
  go_ret2
  exact ⟨g, c', rfl, hc', how, hfin, hsz, hB6⟩
set_option maxRecDepth 100000 in
set_option maxHeartbeats 2000000 in
theorem sread_one (w : World) {base : Nat} {d : Ids} {q : Int → List UInt8} {n k : Nat} {b : Int} (h : St w base d q n k) (hn : n ≤ 11) (h0 : 0 ≤ b) (h1 : b < 258) :
    Calls Tryz.prog 66 #[.pointer (some ⟨d.P, 0, none⟩), .int .i64 1, .agg #[.int .i64 b, .int .i64 1]] w fun e w' =>
    ∃ g c', e = .returned (.tuple #[.slice (some ⟨g, 0, none⟩) 40 c', .int .i64 0]) ∧ 40 ≤ c' ∧ Ow base w w' ∧ St w' base d q (n + 1) k ∧ w.heap.size ≤ g ∧ Bs w' (some ⟨g, 0, none⟩) (q b) := by
  have k0 : Chg [] w (w.alloc (.cells #[.int .i64 b, .int .i64 1] 117)) := Chg.alloc w _
  have K0 := heap_new w (.cells #[.int .i64 b, .int .i64 1] 117)
  have h2 := h.keep k0
  have HO := Lib.hid (dead_any _ h2.sta.store)
  clear h
  go_enter Tryz.func66, Tryz.ntmps66
  go_wp2_with fail
  generalize w.alloc (.cells #[.int .i64 b, .int .i64 1] 117) = w1 at *
  generalize hK : w.heap.size = K at *
  refine HO.out.mono ?_
  rintro e w2 ⟨rfl, rfl⟩
  have t5 : w1.cell? ⟨d.P, 5, none⟩ = some (.pointer (some ⟨d.M, 0, none⟩)) := cell_is h2.sta.store 5 rfl
  have a0 : w1.cell? ⟨K, 0, none⟩ = some (.int .i64 b) := cell_is K0 0 rfl
  have a1 : w1.cell? ⟨K, 1, none⟩ = some (.int .i64 1) := cell_is K0 1 rfl
  go_wp2_with fail
  have h3 := h2.keep (Chg.refl [] w1).drew
  go_region_held3 (fun wx => wx.cell? ⟨d.P, 5, none⟩ = some (.pointer (some ⟨d.M, 0, none⟩)) ∧ wx.cell? ⟨K, 0, none⟩ = some (.int .i64 b) ∧ wx.cell? ⟨K, 1, none⟩ = some (.int .i64 1))
    (first | (exact ⟨t5, a0, a1⟩) | (exact ⟨cell_is t6 5 rfl, cell_is K6 0 rfl, cell_is K6 1 rfl⟩))
    (first | (go_at_call 125; refine (tread_one w1.drew h3 hn h0 h1).mono ?_; rintro e w6 ⟨g, c', rfl, hc', k6, h6, hg, hB6⟩; have t6 := h6.sta.store; have K6 := k6.heap K0 (by simp)))
  have hsz : w.heap.size ≤ g := by have := k0.size; have h9 : w1.drew.heap.size = w1.heap.size := rfl; omega
  have how := (Ow.of_chg (base := base) k0.drew).trans k6
  clear h2 h3 t6 K6 k6
  go_wp2_with fail
  go_ret2
  exact ⟨g, c', rfl, hc', how, h6, hsz, hB6⟩
/-- the blocks behind a write. -/
def putQ (q : Int → List UInt8) (b : Int) (l : List UInt8) (x : Int) : List UInt8 := if x = b then l else q x
set_option maxRecDepth 100000 in
theorem swrite_st (w : World) {base : Nat} {d : Ids} {q : Int → List UInt8} {n k : Nat} {E eo cp D o c : Nat} {b : Int} {l : List UInt8} (h : St w base d q n k) (hk : k ≤ 15) (h0 : 0 ≤ b) (h1 : b < 258)
    (e0 : w.cell? ⟨E, eo, none⟩ = some (.int .i64 b)) (e1 : w.cell? ⟨E, eo + 1, none⟩ = some (.slice (some ⟨D, o, none⟩) 40 c)) (hb : Bs w (some ⟨D, o, none⟩) l) (hl : l.length = 40) :
    Calls Tryz.prog 48 #[.pointer (some ⟨d.P, 0, none⟩), .int .i64 1, .slice (some ⟨E, eo, none⟩) 1 cp] w fun e w' => e = .returned (.int .i64 0) ∧ Ow base w w' ∧ St w' base d (putQ q b l) n (k + 1) := by
  obtain ⟨L, v, s, hT, hL, hbuf, hq⟩ := h.tx4
  refine (swrite_one w h.sta.store h.sta.mg hT e0 e1 hb hl h0 h1 (by omega)).mono ?_
  rintro e w' ⟨g, c', rfl, kc, hB, hbs, hbt⟩
  have hr : ∀ {x : Nat} {cs : Array Value} {t : TypeId} {fr : Nat × Nat}, w.heap[x]? = some (.cells cs t fr) → x ∉ [d.rw] := fun hx => by simpa using (map_cells hbuf.2 hx).symm
  refine ⟨rfl, ⟨[d.rw], kc, fun x hx => ?_⟩, h.sta.keep kc (fun x hx => by rw [List.mem_singleton] at hx; subst hx; exact h.high.2.2), kc.heap h.tx (hr h.tx), ⟨_, hB, Nat.le_trans (putL_len _ _ _) (by omega), fun x hx hx' => ?_⟩, h.vw.keep kc (av_map hbuf.2 _), h.sp.keep kc (av_map hbuf.2 _), h.high⟩
  · rw [List.mem_singleton] at hx
    subst hx
    exact ⟨h.high.2.2, fun cs t fr hh => absurd rfl (map_cells hbuf.2 hh)⟩
  · unfold putQ
    by_cases hxb : x = b
    · rw [if_pos hxb]
      exact Or.inr ⟨g, c', by rw [getL_put, if_pos hxb], hbs, hl, hbt⟩
    · rw [if_neg hxb]
      rcases hq x hx hx' with ⟨hg, hz⟩ | ⟨g2, c2, hg, hb2, hl2, cs, ht2⟩
      · exact Or.inl ⟨by rw [getL_put, if_neg hxb]; exact hg, hz⟩
      · exact Or.inr ⟨g2, c2, by rw [getL_put, if_neg hxb]; exact hg, hb2.chgT kc (hr ht2), hl2, cs, kc.heap ht2 (hr ht2)⟩
end Go.Proofs.YtfodeeejolkkfaaGreat
namespace Go.Proofs.YtfodeeejolkkfaaGreat
open Go.RowKit Go.Lib

/-- versions (a time, a block's bytes) in an own row, the eldest first. -/
def VRow (w : World) (lo : Nat) (v : Value) (l : List (Int × List UInt8)) : Prop :=
  ∃ xs, w.ownsRow lo 267 2 v l.length xs ∧ ∀ i (h : i < l.length), xs[i * 2]? = some (.int .i64 l[i].1) ∧ ∃ g c, xs[i * 2 + 1]? = some (.slice (some ⟨g, 0, none⟩) 40 c) ∧ Bs w (some ⟨g, 0, none⟩) l[i].2 ∧ l[i].2.length = 40 ∧ Bt w g
/-- block X is a map of versions of 258 blocks, block rx holds its entries; vs b are the versions of block b. -/
structure VerG (w : World) (lo X rx : Nat) (last : Int) (L : List (Int × Value)) (vs : Int → List (Int × List UInt8)) : Prop where
  x : w.heap[X]? = some (.cells #[.int .i64 258, .map (some rx), .int .i64 last] 260 (0, 0))
  m : MapAt w rx L
  row : ∀ b, 0 ≤ b → b < 258 → (getL L b = none ∧ vs b = []) ∨ ∃ v, getL L b = some v ∧ VRow w lo v (vs b) ∧ vs b ≠ []
  small : ∀ b, (vs b).length ≤ 1000000
theorem VRow.keep {w w' : World} {T : List Nat} {lo : Nat} {v : Value} {l : List (Int × List UInt8)} (h : VRow w lo v l) (hc : Chg T w w') (hT : Av w T [5]) (hv : ∀ g, v.ownBlock = some g → g ∉ T) : VRow w' lo v l := by
  obtain ⟨xs, ho, hx⟩ := h
  refine ⟨xs, ?_, fun i hi => ?_⟩
  · refine ⟨ho.1, ?_⟩
    rcases ho.2 with hn | ⟨g, cap, cur, rfl, hb, hg, rest⟩
    · exact Or.inl hn
    · exact Or.inr ⟨g, cap, cur, rfl, hb, hc.heap hg (hv g rfl), rest⟩
  · obtain ⟨h0, g, c, h1, h2, h3, cs, h4⟩ := hx i hi
    have hg : g ∉ T := hT.ne h4 (by simp)
    exact ⟨h0, g, c, h1, h2.chgT hc hg, h3, cs, hc.heap h4 hg⟩
theorem VRow.block {w : World} {lo : Nat} {v : Value} {l : List (Int × List UInt8)} (h : VRow w lo v l) : ∀ g, v.ownBlock = some g → ∃ cs, w.heap[g]? = some (.cells cs 267 (0, 0)) := by
  intro g hg
  obtain ⟨xs, ho, -⟩ := h
  exact (own_elem ho hg).2
theorem VerG.keepA {w w' : World} {T : List Nat} {lo X rx : Nat} {last : Int} {L : List (Int × Value)} {vs : Int → List (Int × List UInt8)} (h : VerG w lo X rx last L vs) (hc : Chg T w w') (hT : Av w T [260, 267, 5]) (hm : rx ∉ T) : VerG w' lo X rx last L vs := by
  refine ⟨hc.heap h.x (hT.ne h.x (by simp)), h.m.keep hc hm, fun b h0 h1 => ?_, h.small⟩
  rcases h.row b h0 h1 with hn | ⟨v, h2, h3, h4⟩
  · exact Or.inl hn
  · refine Or.inr ⟨v, h2, h3.keep hc (fun x hx cs t fr hh ht => hT x hx cs t fr hh (by simp at ht; simp [ht])) (fun g hg => ?_), h4⟩
    obtain ⟨cs, hb⟩ := h3.block g hg
    exact hT.ne hb (by simp)
theorem VerG.keep {w w' : World} {lo X rx : Nat} {last : Int} {L : List (Int × Value)} {vs : Int → List (Int × List UInt8)} (h : VerG w lo X rx last L vs) (hc : Chg [] w w') : VerG w' lo X rx last L vs := h.keepA hc (Av.nil _ _) (by simp)
theorem VerAt.full {w : World} {X rx : Nat} (h : VerAt w X rx) (lo : Nat) : VerG w lo X rx 0 [] (fun _ => []) := ⟨h.1, h.2, fun _ _ _ => Or.inl ⟨rfl, rfl⟩, fun _ => by simp⟩
/-- the newest version that is not above a time. -/
def verT (l : List (Int × List UInt8)) (t : Int) : Option (Int × List UInt8) := l.reverse.find? (fun p => decide (p.1 ≤ t))
/-- a block's bytes at a time. -/
def bytT (l : List (Int × List UInt8)) (t : Int) : List UInt8 := ((verT l t).map Prod.snd).getD zeroB
set_option maxRecDepth 100000 in
theorem gblocks_any (w : World) {lo X rx : Nat} {last : Int} {L : List (Int × Value)} {vs : Int → List (Int × List UInt8)} (h : VerG w lo X rx last L vs) : Calls Tryz.prog 108 #[.pointer (some ⟨X, 0, none⟩)] w fun e w' => e = .returned (.int .i64 258) ∧ w = w' := by
  have c0 : w.cell? ⟨X, 0, none⟩ = some (.int .i64 258) := cell_is h.x 0 rfl
  clear h
  go_enter Tryz.func108, Tryz.ntmps108
  go_wp2_with fail
  go_ret
  exact ⟨rfl, rfl⟩
set_option maxRecDepth 100000 in
theorem gblock_any (w : World) {lo X rx : Nat} {last : Int} {L : List (Int × Value)} {vs : Int → List (Int × List UInt8)} {b : Int} (h : VerG w lo X rx last L vs) (h0 : 0 ≤ b) (h1 : b < 258) : Calls Tryz.prog 162 #[.pointer (some ⟨X, 0, none⟩), .int .i64 b] w fun e w' => e = .returned (.bool true) ∧ w = w' := by
  have HB := Lib.hid (gblocks_any w h)
  clear h
  go_enter Tryz.func162, Tryz.ntmps162
  go_wp2_with fail
  refine HB.out.mono ?_
  rintro e w1 ⟨rfl, rfl⟩
  go_wp2_with fail
  go_ret
  exact ⟨by simp, rfl⟩
set_option maxRecDepth 100000 in
set_option maxHeartbeats 1000000 in
theorem gwithin_one (w : World) {lo X rx : Nat} {last : Int} {L : List (Int × Value)} {vs : Int → List (Int × List UInt8)} {b : Int} (h : VerG w lo X rx last L vs) (h0 : 0 ≤ b) (h1 : b < 258) : Calls Tryz.prog 229 #[.pointer (some ⟨X, 0, none⟩), .agg #[.int .i64 b, .int .i64 1]] w fun e w' => e = .returned (.bool true) ∧ Chg [] w w' := by
  have kc : Chg [] w (w.alloc (.cells #[.int .i64 b, .int .i64 1] 117)) := Chg.alloc w _
  have h2 : VerG (w.alloc (.cells #[.int .i64 b, .int .i64 1] 117)) lo X rx last L vs := h.keep kc
  have a0 : (w.alloc (.cells #[.int .i64 b, .int .i64 1] 117)).cell? ⟨w.heap.size, 0, none⟩ = some (.int .i64 b) := cell_is (heap_new w _) 0 rfl
  have a1 : (w.alloc (.cells #[.int .i64 b, .int .i64 1] 117)).cell? ⟨w.heap.size, 1, none⟩ = some (.int .i64 1) := cell_is (heap_new w _) 1 rfl
  have n0 : decide (0 ≤ b) = true := decide_eq_true h0
  clear h
  go_enter Tryz.func229, Tryz.ntmps229
  go_wp2_with fail
  generalize w.alloc (.cells #[.int .i64 b, .int .i64 1] 117) = w1 at *
  generalize w.heap.size = z at *
  have h3 : VerG w1.drew lo X rx last L vs := h2.keep (Chg.refl [] w1).drew
  go_region_held3 (fun wx => wx.cell? ⟨z, 0, none⟩ = some (.int .i64 b) ∧ wx.cell? ⟨z, 1, none⟩ = some (.int .i64 1)) (first | (exact ⟨a0, a1⟩))
    (first | (go_at_call 108; refine (gblocks_any w1.drew h3).mono ?_; rintro e w2 ⟨rfl, rfl⟩))
  all_goals
    go_wp2_with fail
    go_ret
    exact ⟨by simp [show IntKind.i64.wrap 257 = 257 by decide]; omega, kc.drew⟩
theorem lookup258g {w : World} {r : Nat} {L : List (Int × Value)} (hM : MapAt w r L) (k : Int) :
    (Instr.lookup 258 (.map (some r)) (.int .i64 k) false).run Tryz.prog w = .ok ((getL L k).getD (.slice none 0 0)) w := lookup258 hM k false
set_option maxRecDepth 100000 in
set_option maxHeartbeats 1000000 in
theorem gat_any (w : World) {lo X rx : Nat} {last : Int} {L : List (Int × Value)} {vs : Int → List (Int × List UInt8)} {b t : Int} (h : VerG w lo X rx last L vs) (h0 : 0 ≤ b) (h1 : b < 258) : Calls Tryz.prog 251 #[.pointer (some ⟨X, 0, none⟩), .int .i64 b, .int .i64 t] w fun e w' =>
    w = w' ∧ ((e = .returned (.int .i64 (-1)) ∧ verT (vs b) t = none) ∨ ∃ k : Nat, e = .returned (.int .i64 k) ∧ ∃ hk : k < (vs b).length, verT (vs b) t = some (vs b)[k]) := by
  have c1 : w.cell? ⟨X, 1, none⟩ = some (.map (some rx)) := cell_is h.x 1 rfl
  have hl := lookup258g h.m b
  have hrow : ∃ pa c xs, (getL L b).getD (.slice none 0 0) = .slice pa (vs b).length c ∧ (vs b).length ≤ c ∧ w.ownsRow lo 267 2 (.slice pa (vs b).length c) (vs b).length xs ∧ ∀ i (h : i < (vs b).length), xs[i * 2]? = some (.int .i64 (vs b)[i].1) := by
    rcases h.row b h0 h1 with ⟨e1, e2⟩ | ⟨v, e1, ⟨xs, ho, hx⟩, -⟩
    · rw [e1, e2]
      exact ⟨none, 0, [], rfl, Nat.le_refl _, World.ownsRow_nil _ _ _ _, fun i h => by simp at h⟩
    · obtain ⟨pa, c, rfl, hc⟩ := own_form ho
      rw [e1]
      exact ⟨pa, c, xs, rfl, hc, ho, fun i hi => (hx i hi).1⟩
  have hsm := h.small b
  obtain ⟨pa, c, xs, e1, hcap, ho, hx⟩ := hrow
  rw [e1] at hl
  clear h e1
  have HO := Lib.hid ho
  have HX := Lib.hid hx
  clear ho hx
  generalize vs b = l at *
  go_enter Tryz.func251, Tryz.ntmps251
  go_wp2_with fail
  go_step3
  go_wp2_with fail
  go_step3
  go_wp2_with fail
  go_loop [8] (fun i => ∃ k : Nat, k ≤ l.length ∧ i = .int .i64 ((k : Int) - 1) ∧ verT (l.take k) t = verT l t) (fun i => (intOf i + 1).toNat)
  case atStart => exact ⟨l.length, Nat.le_refl _, rfl, by rw [List.take_length]⟩
  case round =>
    obtain ⟨k, hk, rfl, hv⟩ := hrel
    by_cases hk0 : k = 0
    · subst hk0
      have e1 : ((0 : Nat) : Int) - 1 = -1 := rfl
      rw [e1]
      go_wp2_with fail
      go_ret
      exact ⟨rfl, Or.inl ⟨rfl, by rw [← hv]; rfl⟩⟩
    · obtain ⟨j, rfl⟩ : ∃ j, k = j + 1 := ⟨k - 1, by omega⟩
      have hj : j < l.length := by omega
      have e1 : ((j + 1 : Nat) : Int) - 1 = j := by omega
      rw [e1]
      have hkn : ¬ l.length = 0 := by omega
      obtain ⟨g, cap, cur, hcur, hpa, hcells⟩ : ∃ g cap cur, w.heap[g]? = some (.cells cur 267 (0, 0)) ∧ Value.slice pa l.length c = .slice (some ⟨g, 0, none⟩) l.length cap ∧ w.cell? ⟨g, j * 2, none⟩ = some (.int .i64 l[j].1) := by
        rcases HO.out.2 with ⟨_, h0⟩ | ⟨g, cap, cur, e, hA, hg, hc1, hc2, hc3, ht⟩
        · exact absurd h0 hkn
        · refine ⟨g, cap, cur, hg, e, cell_is hg (j * 2) ?_⟩
          have h1 := HX.out j hj
          rw [← ht] at h1
          rw [List.getElem?_take_of_lt (by omega), Array.getElem?_toList] at h1
          exact h1
      cases hpa
      have hs : verT (l.take (j + 1)) t = if l[j].1 ≤ t then some l[j] else verT (l.take j) t := by
        unfold verT
        rw [List.take_succ_eq_append_getElem hj, List.reverse_append]
        by_cases hle : l[j].1 ≤ t
        · simp [hle]
        · simp [hle]
      rw [hv] at hs
      have HS := Lib.hid hs
      clear hs hv
      by_cases hle : l[j].1 ≤ t
      · have e2 : decide (l[j].1 ≤ t) = true := decide_eq_true hle
        have HR := Lib.hid (show verT l t = some l[j] by rw [HS.out, if_pos hle])
        clear hle HS
        generalize hlj : l[j].1 = tj at *
        go_wp2_with fail
        go_ret
        exact ⟨rfl, Or.inr ⟨j, rfl, hj, HR.out⟩⟩
      · have e2 : decide (l[j].1 ≤ t) = false := decide_eq_false hle
        have HR := Lib.hid (show verT l t = verT (l.take j) t by rw [HS.out, if_neg hle])
        clear hle HS
        generalize hlj : l[j].1 = tj at *
        go_wp2_with fail
        go_round
        case rel => exact ⟨j, by omega, by simp, HR.out.symm⟩
        case measure => simp [intOf]
/-- one version, at its place. -/
theorem VRow.get {w : World} {lo : Nat} {v : Value} {l : List (Int × List UInt8)} (h : VRow w lo v l) (k : Nat) (hk : k < l.length) : ∃ g cap gd cd, v = .slice (some ⟨g, 0, none⟩) l.length cap ∧ l.length ≤ cap ∧
    w.cell? ⟨g, k * 2, none⟩ = some (.int .i64 l[k].1) ∧ w.cell? ⟨g, k * 2 + 1, none⟩ = some (.slice (some ⟨gd, 0, none⟩) 40 cd) ∧ Bs w (some ⟨gd, 0, none⟩) l[k].2 ∧ l[k].2.length = 40 ∧ Bt w gd := by
  obtain ⟨xs, ho, hx⟩ := h
  obtain ⟨h0, gd, cd, h1, h2, h3, h4⟩ := hx k hk
  rcases ho.2 with ⟨_, e⟩ | ⟨g, cap, cur, rfl, hA, hg, hc1, hc2, hc3, ht⟩
  · omega
  · refine ⟨g, cap, gd, cd, rfl, hc1, cell_is hg _ ?_, cell_is hg _ ?_, h2, h3, h4⟩
    · rw [← ht, List.getElem?_take_of_lt (by omega), Array.getElem?_toList] at h0
      exact h0
    · rw [← ht, List.getElem?_take_of_lt (by omega), Array.getElem?_toList] at h1
      exact h1
set_option maxRecDepth 100000 in
set_option maxHeartbeats 2000000 in
theorem gget_any (w : World) {lo X rx : Nat} {last : Int} {L : List (Int × Value)} {vs : Int → List (Int × List UInt8)} {b t : Int} (h : VerG w lo X rx last L vs) (h0 : 0 ≤ b) (h1 : b < 258) : Calls Tryz.prog 230 #[.pointer (some ⟨X, 0, none⟩), .int .i64 b, .int .i64 t] w fun e w' =>
    ∃ g c tm, e = .returned (.tuple #[.slice (some ⟨g, 0, none⟩) 40 c, .int .i64 tm]) ∧ Chg [] w w' ∧ Bs w' (some ⟨g, 0, none⟩) (bytT (vs b) t) ∧ w.heap.size ≤ g ∧ (bytT (vs b) t).length = 40 := by
  have hmk := make40
  have HB := Lib.hid (gblock_any w h h0 h1)
  have HA := Lib.hid (gat_any w (b := b) (t := t) h h0 h1)
  have kc : Chg [] w (w.alloc (.cells zero40 5)) := Chg.alloc w _
  have hz : Bs (w.alloc (.cells zero40 5)) (some ⟨w.heap.size, 0, none⟩) zeroB := by
    rw [zero40_is]
    exact Bs.row (heap_new w _)
  have c1 : w.cell? ⟨X, 1, none⟩ = some (.map (some rx)) := cell_is h.x 1 rfl
  have HL := Lib.hid (lookup258g h.m b)
  have HR := Lib.hid (h.row b h0 h1)
  have hsm := h.small b
  clear h
  go_enter Tryz.func230, Tryz.ntmps230
  go_wp2_with fail
  refine HB.out.mono ?_
  rintro e w1 ⟨rfl, rfl⟩
  go_wp2_with fail
  refine HA.out.mono ?_
  rintro e w1 ⟨rfl, ⟨rfl, hv⟩ | ⟨k, rfl, hk, hv⟩⟩
  · have hy : bytT (vs b) t = zeroB := by unfold bytT; rw [hv]; rfl
    go_wp2_with fail
    go_ret2
    exact ⟨_, _, _, rfl, kc, by rw [hy]; exact hz, Nat.le_refl _, by rw [hy]; rfl⟩
  · have hy : bytT (vs b) t = (vs b)[k].2 := by unfold bytT; rw [hv]; rfl
    rcases HR.out with ⟨_, e⟩ | ⟨v, e1, hr, _⟩
    · rw [e] at hk; simp at hk
    · obtain ⟨g, cap, gd, cd, rfl, hcap, d0, d1, hb2, hl2, -⟩ := hr.get k hk
      have hl := HL.out
      rw [e1, Option.getD_some] at hl
      have HB2 := Lib.hid hb2
      have HL2 := Lib.hid hl2
      have HY := Lib.hid hy
      have hkk : (k : Int) < (vs b).length := by omega
      clear kc hz hb2 hl2 hy hr e1 hv
      generalize hj : (vs b)[k].1 = tj at *
      go_wp2_with fail
      have ka : Chg [] w (w.alloc (.cells #[.int .i64 tj, .slice (some ⟨gd, 0, none⟩) 40 cd] 267)) := Chg.alloc w _
      have za := heap_new w (.cells #[.int .i64 tj, .slice (some ⟨gd, 0, none⟩) 40 cd] 267)
      have HB3 := Lib.hid ((HB2.out.chg ka).chg (Chg.refl [] _).drew)
      generalize w.alloc (.cells #[.int .i64 tj, .slice (some ⟨gd, 0, none⟩) 40 cd] 267) = w2 at *
      generalize hzz : w.heap.size = z at *
      have e0 : w2.cell? ⟨z, 0, none⟩ = some (.int .i64 tj) := cell_is za 0 rfl
      have e1 : w2.cell? ⟨z, 1, none⟩ = some (.slice (some ⟨gd, 0, none⟩) 40 cd) := cell_is za 1 rfl
      go_region_held3 (fun wx => wx.cell? ⟨z, 0, none⟩ = some (.int .i64 tj) ∧ wx.cell? ⟨z, 1, none⟩ = some (.slice (some ⟨gd, 0, none⟩) 40 cd)) (first | (with_reducible exact ⟨f0, f1⟩) | (exact ⟨e0, e1⟩))
        (first | (go_at_call 113; refine (clone_bs w2.drew HL2.out (by decide) (by decide) HB3.out).mono ?_; rintro e w6 ⟨g6, c6, rfl, k6, b6, l6⟩; have f0 := k6.cell (show w2.drew.cell? ⟨z, 0, none⟩ = _ from e0) (by simp); have f1 := k6.cell (show w2.drew.cell? ⟨z, 1, none⟩ = _ from e1) (by simp)))
      all_goals
        have hsz := ka.size
        have hd : w2.drew.heap.size = w2.heap.size := rfl
        go_wp2_with fail
        go_ret2
        exact ⟨g6, c6, tj, rfl, ka.drew.then k6, by rw [HY.out]; exact b6, by omega, by rw [HY.out]; exact HL2.out⟩
set_option maxRecDepth 100000 in
set_option maxHeartbeats 1000000 in
theorem grange_one (w : World) {lo X rx : Nat} {last : Int} {L : List (Int × Value)} {vs : Int → List (Int × List UInt8)} {b t : Int} (h : VerG w lo X rx last L vs) (h0 : 0 ≤ b) (h1 : b < 258) : Calls Tryz.prog 210 #[.pointer (some ⟨X, 0, none⟩), .agg #[.int .i64 b, .int .i64 1], .int .i64 t] w fun e w' =>
    ∃ g c', e = .returned (.tuple #[.slice (some ⟨g, 0, none⟩) 40 c', .int .i64 0]) ∧ 40 ≤ c' ∧ Chg [] w w' ∧ w'.ownsRow w.heap.size 5 1 (.slice (some ⟨g, 0, none⟩) 40 c') 40 (Lib.byteCells (bytT (vs b) t)) ∧ (bytT (vs b) t).length = 40 := by
  have kc : Chg [] w (w.alloc (.cells #[.int .i64 b, .int .i64 1] 117)) := Chg.alloc w _
  have h2 : VerG (w.alloc (.cells #[.int .i64 b, .int .i64 1] 117)) lo X rx last L vs := h.keep kc
  have a0 : (w.alloc (.cells #[.int .i64 b, .int .i64 1] 117)).cell? ⟨w.heap.size, 0, none⟩ = some (.int .i64 b) := cell_is (heap_new w _) 0 rfl
  have a1 : (w.alloc (.cells #[.int .i64 b, .int .i64 1] 117)).cell? ⟨w.heap.size, 1, none⟩ = some (.int .i64 1) := cell_is (heap_new w _) 1 rfl
  clear h
  go_enter Tryz.func210, Tryz.ntmps210
  go_wp2_with fail
  generalize w.alloc (.cells #[.int .i64 b, .int .i64 1] 117) = w1 at *
  generalize hz : w.heap.size = z at *
  refine (gwithin_one w1 h2 h0 h1).mono ?_
  rintro e w2 ⟨rfl, k2⟩
  have h3 : VerG w2 lo X rx last L vs := h2.keep k2
  have b0 := k2.cell a0 (by simp)
  have b1 := k2.cell a1 (by simp)
  have kk := kc.then k2
  have hs2 := kk.size
  clear h2 a0 a1 kc k2
  go_wp2_with fail
  go_loopw [6, 17] (fun v i wr => (i = .int .i64 0 ∧ v = .slice none 0 0 ∧ wr = w2) ∨ (i = .int .i64 1 ∧ Chg [] w wr ∧ wr.ownsRow z 5 1 v 40 (Lib.byteCells (bytT (vs b) t)) ∧ (bytT (vs b) t).length = 40)) (fun _ i _ => 1 - (intOf i).toNat)
  case atStart => exact Or.inl ⟨rfl, rfl, rfl⟩
  case round =>
    rcases hrel with ⟨rfl, rfl, rfl⟩ | ⟨rfl, k5, ho, hl⟩
    · go_wp2_with fail
      refine (gget_any wr (t := t) h3 h0 h1).mono ?_
      rintro e w3 ⟨g, cg, tm, rfl, k3, hb3, l3, hlen⟩
      have hs3 : z ≤ w3.heap.size := Nat.le_trans (by omega) k3.size
      have HB3 := Lib.hid hb3
      have HLn := Lib.hid hlen
      clear hb3 hlen
      go_wp2_with (at_builtin; refine wpList_append_bs rfl (.tmp 30) (.tmp 31) 23 5 rfl ty23 inf5c z _ 0 [] rfl (World.ownsRow_nil _ _ _ _) _ 40 cg (bytT (vs b) t) rfl HLn.out HB3.out (by omega) hs3 ?_; intro v1 w4 h4)
      go_roundw
      case rel => exact Or.inr ⟨rfl, Chg.of_below ((kk.then k3).below0.trans (by rw [hz]; exact h4.2.1)), by simpa using h4.1, HLn.out⟩
      case measure => decide
    · go_wp2_with fail
      go_ret2
      rcases ho.2 with ⟨e, h0⟩ | ⟨g, cap, cur, e, hA, hr⟩
      · cases h0
      · subst hz
        refine ⟨g, cap, by rw [e]; rfl, ?_, k5, by rw [← e]; exact ho, hl⟩
        have := own_form ho
        obtain ⟨pa, c, h5, h6⟩ := this
        rw [e] at h5
        cases h5
        exact h6
end Go.Proofs.YtfodeeejolkkfaaGreat
namespace Go.Proofs.YtfodeeejolkkfaaGreat
open Go.RowKit Go.Lib

/-- block Q is a view of a time t. -/
def ViewT (w : World) (Q X W V : Nat) (t : Int) (v : Value) : Prop := w.heap[Q]? = some (.cells #[.pointer (some ⟨X, 0, none⟩), .pointer (some ⟨W, 0, none⟩), .int .i64 t, .pointer (some ⟨V, 0, none⟩), v] 275 (0, 0))
/-- .. with at most n reads in a row behind base. -/
def VwT (w : World) (base Q X W V : Nat) (t : Int) (n : Nat) : Prop := ∃ s m xs, ViewT w Q X W V t s ∧ m ≤ n + 100000 ∧ w.ownsRow base 285 3 s m xs
theorem VwT.keep {w w' : World} {S : List Nat} {base Q X W V n : Nat} {t : Int} (h : VwT w base Q X W V t n) (hc : Chg S w w') (hS : Av w S [275, 285]) : VwT w' base Q X W V t n := by
  obtain ⟨s, m, xs, h1, h2, h3⟩ := h
  refine ⟨s, m, xs, hc.heap h1 (hS.ne h1 (by simp)), h2, h3.1, ?_⟩
  rcases h3.2 with hn | ⟨g, cap, cur, hv, hb, hg, rest⟩
  · exact Or.inl hn
  · exact Or.inr ⟨g, cap, cur, hv, hb, hc.heap hg (hS.ne hg (by simp)), rest⟩
theorem Vw.full {w : World} {base Q X W V n : Nat} (h : Vw w base Q X W V n) : VwT w base Q X W V 0 n := by
  obtain ⟨s, m, xs, h1, h2, h3⟩ := h
  exact ⟨s, m, xs, h1, by omega, h3⟩
/-- a block's bytes: one's own write, or what the versions have at a time. -/
def BlkT (w : World) (L : List (Int × Value)) (vb : List (Int × List UInt8)) (t b : Int) (l : List UInt8) : Prop := (getL L b = none ∧ l = bytT vb t) ∨ ∃ g c, getL L b = some (.slice (some ⟨g, 0, none⟩) 40 c) ∧ Bs w (some ⟨g, 0, none⟩) l ∧ l.length = 40 ∧ Bt w g
theorem BlkT.keepT {w w' : World} {T : List Nat} {base : Nat} {L : List (Int × Value)} {vb : List (Int × List UInt8)} {t b : Int} {l : List UInt8} (h : BlkT w L vb t b l) (hc : Chg T w w') (hT : Rt w base T) : BlkT w' L vb t b l := by
  rcases h with h | ⟨g, c, h1, h2, h3, cs, hcs⟩
  · exact Or.inl h
  · have hg := hT.cells hcs (by simp)
    exact Or.inr ⟨g, c, h1, h2.chgT hc hg, h3, cs, hc.heap hcs hg⟩
theorem BlkT.keep {w w' : World} {L : List (Int × Value)} {vb : List (Int × List UInt8)} {t b : Int} {l : List UInt8} (h : BlkT w L vb t b l) (hc : Chg [] w w') : BlkT w' L vb t b l := h.keepT hc (Rt.nil w 0)
/-- what stands behind a Read's last store. -/
theorem gread_end {w wb wc w5 : World} {base Q X W V n m g g5 cp5 : Nat} {t : Int} {s : Value} {xs : List Value} {ys : List Value} {l : List UInt8} {Cb : Array Value} (HRt : Rt w base (V :: Q :: s.ownBlock.toList)) (k9 : Chg [V] w wb) (ky : Chg [] wb wc) (hm : m ≤ n + 100000) (hB : Bs wb (some ⟨g, 0, none⟩) l)
    (gy : wc.heap[g]? = some (.cells Cb 5 (0, 0))) (hgn : g ∉ s.ownBlock.toList) (hgQ : Q ∉ [g]) (oy : wc.ownsRow base 285 3 s m xs) (qy : ViewT wc Q X W V t s) (hQn : Q ∉ s.ownBlock.toList) (sb : SpV wc base V (n + 1))
    (o5 : w5.ownsRow base 285 3 (.slice (some ⟨g5, 0, none⟩) (m + 1) cp5) (m + 1) ys) (k5 : Chg s.ownBlock.toList wc w5) :
    ∃ T, Chg T w (w5.setCell ⟨Q, 4, none⟩ (.slice (some ⟨g5, 0, none⟩) (m + 1) cp5)) ∧ Rt w base T ∧ Bs (w5.setCell ⟨Q, 4, none⟩ (.slice (some ⟨g5, 0, none⟩) (m + 1) cp5)) (some ⟨g, 0, none⟩) l ∧ VwT (w5.setCell ⟨Q, 4, none⟩ (.slice (some ⟨g5, 0, none⟩) (m + 1) cp5)) base Q X W V t (n + 1) ∧ SpV (w5.setCell ⟨Q, 4, none⟩ (.slice (some ⟨g5, 0, none⟩) (m + 1) cp5)) base V (n + 1) := by
  have q5 := k5.heap qy hQn
  have g5h := k5.heap gy hgn
  have kS := Chg.set w5 Q 4 (.slice (some ⟨g5, 0, none⟩) (m + 1) cp5)
  have hgQ' : g ∉ [Q] := by simpa using (fun e => hgQ (by simp [e]))
  have hav : Av wc s.ownBlock.toList [117, 312] := by
    intro x hx cs t fr hh
    rcases oy.2 with ⟨rfl, _⟩ | ⟨k, cap, cur, rfl, hb, hk, rest⟩
    · simp [Value.ownBlock] at hx
    · simp [Value.ownBlock] at hx
      subst hx
      rw [hk] at hh
      cases hh
      simp
  have hq1 : Av w5 [Q] [117, 312] := fun x hx cs t fr hh => by
    rw [List.mem_singleton] at hx; subst hx; rw [q5] at hh; cases hh; simp
  have hq2 : Av w5 [Q] [285] := fun x hx cs t fr hh => by
    rw [List.mem_singleton] at hx; subst hx; rw [q5] at hh; cases hh; simp
  refine ⟨V :: Q :: s.ownBlock.toList, ?_, HRt, ((hB.chg ky).chgT k5 hgn).chgT kS hgQ', ⟨_, m + 1, ys, heap_set q5 4 _ rfl, by omega, ownsRow_av o5 kS hq2⟩, (sb.keep k5 hav).keep kS hq1⟩
  refine (((k9.mono ?_).then (ky.mono ?_)).then (k5.mono ?_)).then (kS.mono ?_)
  · intro x hx _; simp at hx; simp [hx]
  · intro x hx _; cases hx
  · intro x hx _; simp only [List.mem_cons]; exact Or.inr (Or.inr hx)
  · intro x hx _; simp at hx; simp [hx]
set_option maxRecDepth 100000 in
set_option maxHeartbeats 20000000 in
theorem gread_one (w : World) {base Q X rx W rw V n lo : Nat} {last t : Int} {Lv : List (Int × Value)} {vs : Int → List (Int × List UInt8)} {L : List (Int × Value)} {b : Int} {l : List UInt8} (hX : VerG w lo X rx last Lv vs) (hW : BufAt w W rw L) (hB : BlkT w L (vs b) t b l) (hV : VwT w base Q X W V t n) (hS : SpV w base V n) (hn : n ≤ 11) (hbase : base ≤ Q ∧ base ≤ V) (h0 : 0 ≤ b) (h1 : b < 258) :
    Calls Tryz.prog 175 #[.pointer (some ⟨Q, 0, none⟩), .agg #[.int .i64 b, .int .i64 1]] w fun e w' =>
    ∃ g c' T, e = .returned (.tuple #[.slice (some ⟨g, 0, none⟩) 40 c', .int .i64 0]) ∧ 40 ≤ c' ∧ Chg T w w' ∧ Rt w base T ∧ w.heap.size ≤ g ∧ Bs w' (some ⟨g, 0, none⟩) l ∧ VwT w' base Q X W V t (n + 1) ∧ SpV w' base V (n + 1) := by
  have k0 : Chg [] w (w.alloc (.cells #[.int .i64 b, .int .i64 1] 117)) := Chg.alloc w _
  have K0 := heap_new w (.cells #[.int .i64 b, .int .i64 1] 117)
  have hX1 := hX.keep k0
  have hW1 := hW.keep k0 (by simp) (by simp)
  have hB1 := hB.keep k0
  obtain ⟨s, m, xs, qw, hm, how⟩ := hV
  have q := k0.heap qw (by simp)
  have ho := ownsRow_chg how k0
  have hS1 := hS.keep0 k0
  have HRt : Rt w base (V :: Q :: s.ownBlock.toList) := by
    intro x hx
    simp only [List.mem_cons] at hx
    rcases hx with rfl | rfl | hx
    · exact ⟨hbase.2, _, _, _, hS.choose_spec.choose_spec.1, by simp⟩
    · exact ⟨hbase.1, _, _, _, qw, by simp⟩
    · rcases how.2 with ⟨rfl, _⟩ | ⟨k, cap, cur, rfl, hb, hk, rest⟩
      · simp [Value.ownBlock] at hx
      · simp [Value.ownBlock] at hx
        subst hx
        exact ⟨hb, _, _, _, hk, by simp⟩
  clear qw how
  have q0 : (w.alloc (.cells #[.int .i64 b, .int .i64 1] 117)).cell? ⟨Q, 0, none⟩ = some (.pointer (some ⟨X, 0, none⟩)) := cell_is q 0 rfl
  have q1 : (w.alloc (.cells #[.int .i64 b, .int .i64 1] 117)).cell? ⟨Q, 1, none⟩ = some (.pointer (some ⟨W, 0, none⟩)) := cell_is q 1 rfl
  have q2 : (w.alloc (.cells #[.int .i64 b, .int .i64 1] 117)).cell? ⟨Q, 2, none⟩ = some (.int .i64 t) := cell_is q 2 rfl
  have q3 : (w.alloc (.cells #[.int .i64 b, .int .i64 1] 117)).cell? ⟨Q, 3, none⟩ = some (.pointer (some ⟨V, 0, none⟩)) := cell_is q 3 rfl
  have a0 : (w.alloc (.cells #[.int .i64 b, .int .i64 1] 117)).cell? ⟨w.heap.size, 0, none⟩ = some (.int .i64 b) := cell_is K0 0 rfl
  have a1 : (w.alloc (.cells #[.int .i64 b, .int .i64 1] 117)).cell? ⟨w.heap.size, 1, none⟩ = some (.int .i64 1) := cell_is K0 1 rfl
  go_enter Tryz.func175, Tryz.ntmps175
  go_wp2_with fail
  go_step3
  go_wp2_with fail
  generalize w.alloc (.cells #[.int .i64 b, .int .i64 1] 117) = w1 at *
  generalize hK : w.heap.size = K at *
  go_region_held3 (fun wx => wx.cell? ⟨Q, 0, none⟩ = some (.pointer (some ⟨X, 0, none⟩)) ∧ wx.cell? ⟨Q, 2, none⟩ = some (.int .i64 t) ∧ wx.cell? ⟨K, 0, none⟩ = some (.int .i64 b) ∧ wx.cell? ⟨K, 1, none⟩ = some (.int .i64 1))
    (first | (exact ⟨q0, q2, a0, a1⟩) | (exact ⟨k2.cell q0 (by simp), k2.cell q2 (by simp), k2.cell a0 (by simp), k2.cell a1 (by simp)⟩))
    (first | (go_at_call 210; refine (grange_one w1.drew (t := t) (hX1.keep (Chg.refl [] w1).drew) h0 h1).mono ?_; rintro e w2 ⟨g, c', rfl, hc', k2, o2, hy40⟩))
  have HY := Lib.hid hy40
  clear hy40
  have kk2 := (Chg.refl [] w1).drew.then k2
  have q := kk2.heap q (by simp)
  have K0 := kk2.heap K0 (by simp)
  have ho := ownsRow_chg ho kk2
  have hW2 := hW1.keep kk2 (by simp) (by simp)
  have hB2 := hB1.keep kk2
  have hS2 := hS1.keep0 kk2
  have hK2 : K ≤ w2.heap.size := by have := k0.size; have := kk2.size; omega
  have ho2 : w2.ownsRow K 5 1 (.slice (some ⟨g, 0, none⟩) 40 c') 40 (Lib.byteCells (bytT (vs b) t)) := ownsRow_base o2 (by have := k0.size; show K ≤ w1.heap.size; omega)
  have kk := k0.then kk2
  clear q0 q1 q2 q3 a0 a1 hX1 hW1 hB1 hS1 o2 k0 k2 kk2
  have q3 : w2.cell? ⟨Q, 3, none⟩ = some (.pointer (some ⟨V, 0, none⟩)) := cell_is q 3 rfl
  have a0 : w2.cell? ⟨K, 0, none⟩ = some (.int .i64 b) := cell_is K0 0 rfl
  have a1 : w2.cell? ⟨K, 1, none⟩ = some (.int .i64 1) := cell_is K0 1 rfl
  go_wp2_with fail
  have kx : Chg [] w2 (w2.drew.alloc (.cells #[.int .i64 b, .int .i64 1] 117)) := (Chg.refl [] w2).drew.then_alloc _
  have kx0 := heap_new w2.drew (.cells #[.int .i64 b, .int .i64 1] 117)
  have hVK : V ≠ K := by obtain ⟨_, _, hh, _⟩ := hS2; exact heap_ne hh K0 (by simp)
  have hVQ : V ≠ Q := by obtain ⟨_, _, hh, _⟩ := hS2; exact heap_ne hh q (by simp)
  have hbw : base ≤ (w2.drew.alloc (.cells #[.int .i64 b, .int .i64 1] 117)).heap.size := by have := heap_lt q; have := kx.size; omega
  have kx2 : Chg [V] w2 (w2.drew.alloc (.cells #[.int .i64 b, .int .i64 1] 117)) := kx.mono (fun x hx _ => by cases hx)
  go_region_held3 (fun wx => wx.cell? ⟨Q, 3, none⟩ = some (.pointer (some ⟨V, 0, none⟩)) ∧ wx.cell? ⟨K, 0, none⟩ = some (.int .i64 b) ∧ wx.cell? ⟨K, 1, none⟩ = some (.int .i64 1))
    (first | (exact ⟨q3, a0, a1⟩) | (exact ⟨kx.cell q3 (by simp), kx.cell a0 (by simp), kx.cell a1 (by simp)⟩) | (exact ⟨(kx2.then k3).cell q3 (by simpa using hVQ.symm), (kx2.then k3).cell a0 (by simpa using hVK.symm), (kx2.then k3).cell a1 (by simpa using hVK.symm)⟩))
    (first | (go_at_call 197; refine (iadd_one (w2.drew.alloc (.cells #[.int .i64 b, .int .i64 1] 117)) (base := base) (V := V) (n := n) (E := w2.drew.heap.size) (hS2.keep0 kx) hn hbw h0 h1 (cell_is kx0 0 rfl) (cell_is kx0 1 rfl)).mono ?_; rintro e w3 ⟨rfl, k3, hS3⟩))
  have k4 := kx2.then k3
  have hR4 : Rt w2 base [V] := fun x hx => by
    rw [List.mem_singleton] at hx
    subst hx
    obtain ⟨_, _, hh, _⟩ := hS2
    exact ⟨hbase.2, _, _, _, hh, by simp⟩
  have q := k4.heap q (by simpa using hVQ.symm)
  have K0 := k4.heap K0 (by simpa using hVK.symm)
  have hW3 := hW2.keep k4 (hR4.cells hW2.1 (by simp)) (hR4.map hW2.2)
  have hB3 := hB2.keepT k4 hR4
  have hz : Bs w2 (some ⟨g, 0, none⟩) (bytT (vs b) t) ∧ Bt w2 g ∧ K ≤ g := by
    rcases ho2.2 with ⟨e, h0⟩ | ⟨g', cap, cur, e, hA, hgt, _⟩
    · cases h0
    · cases e; exact ⟨Bs.own ho2, ⟨_, hgt⟩, hA⟩
  have hgV : g ∉ [V] := hR4.cells hz.2.1.choose_spec (by simp)
  have kw3 : Chg [V] w w3 := (kk.mono (fun x hx _ => by cases hx)).then k4
  have hRw : Rt w base [V] := fun x hx => by
    rw [List.mem_singleton] at hx
    subst hx
    obtain ⟨_, _, hh, _⟩ := hS
    exact ⟨hbase.2, _, _, _, hh, by simp⟩
  have ho3 := ownsRow_chgV ho k4 hS2.choose_spec.choose_spec.1
  obtain ⟨cur, hg3, hcur⟩ : ∃ cur, w3.heap[g]? = some (.cells cur 5 (0, 0)) ∧ cur.size = c' * 1 ∧ cur.toList.take (40 * 1) = Lib.byteCells (bytT (vs b) t) := by
    rcases ho2.2 with ⟨e, h0⟩ | ⟨g', cap, cur, e, hA, hgt, _, _, hsz, htk⟩
    · cases h0
    · cases e; exact ⟨cur, k4.heap hgt hgV, hsz, htk⟩
  have HC := Lib.hid hcur
  clear hcur
  have hgK := hz.2.2
  clear q3 a0 a1 hW2 hB2 hS2 hz ho2 kx kx2 kx0 k3 k4 hR4 hgV hX hW hS kk hbw hB
  clear ho
  have a0 : w3.cell? ⟨K, 0, none⟩ = some (.int .i64 b) := cell_is K0 0 rfl
  have a1 : w3.cell? ⟨K, 1, none⟩ = some (.int .i64 1) := cell_is K0 1 rfl
  have q1 : w3.cell? ⟨Q, 1, none⟩ = some (.pointer (some ⟨W, 0, none⟩)) := cell_is q 1 rfl
  have q4 : w3.cell? ⟨Q, 4, none⟩ = some s := cell_is q 4 rfl
  go_wp2_with fail
  go_step3
  go_wp2_with fail
  have hb0 : IntKind.i64.wrap b = b := by rw [IntKind.wrap_i64]; omega
  go_loopw [55] (fun i wr => (i = .int .i64 0 ∧ wr = w3) ∨ (i = .int .i64 1 ∧ ∃ T, Chg T w wr ∧ Rt w base T ∧ Bs wr (some ⟨g, 0, none⟩) l ∧ VwT wr base Q X W V t (n + 1) ∧ SpV wr base V (n + 1))) (fun i _ => 1 - (intOf i).toNat)
  case atStart => exact Or.inl ⟨rfl, rfl⟩
  case round =>
    rcases hrel with ⟨rfl, rfl⟩ | ⟨rfl, T, kT, hT, hBs, hVw, hSp⟩
    · rcases hB3 with ⟨hg0, rfl⟩ | ⟨gb, cb, hg1, hbs, hl40, hbt⟩
      · go_wp2_with fail
        go_region_held3 (fun wx => wx.cell? ⟨Q, 1, none⟩ = some (.pointer (some ⟨W, 0, none⟩)) ∧ wx.cell? ⟨K, 0, none⟩ = some (.int .i64 b)) (first | (exact ⟨q1, a0⟩))
          (first | (go_at_call 211; refine (bget_none wr.drew (hW3.keep (Chg.refl [] wr).drew (by simp) (by simp)) hg0).mono ?_; rintro e wa ⟨rfl, rfl⟩))
        have k7 : Chg [] wr wr.drew := (Chg.refl [] wr).drew
        have hgb : wr.drew.heap[g]? = some (.cells cur 5 (0, 0)) := hg3
        have qb : ViewT wr.drew Q X W V t s := q
        have Kb : wr.drew.heap[K]? = some (.cells #[.int .i64 b, .int .i64 1] 117 (0, 0)) := K0
        have ob := ownsRow_chg ho3 k7
        have sb := hS3.keep0 k7
        have k9 : Chg [V] w wr.drew := kw3.drew
        have hBb : Bs wr.drew (some ⟨g, 0, none⟩) (bytT (vs b) t) := Bs.block hgb (by have := HC.out.2; rw [HY.out]; simpa using this)
        have hKQ : K ≠ Q := heap_ne Kb qb (by simp)
        have hgQ : Q ∉ [g] := by simpa using heap_ne qb hgb (by simp)
        clear hg3 q K0 ho3 hS3 kw3 k7 hW3 q1 a0 a1 q4
        generalize wr.drew = wb at *
        have a0 : wb.cell? ⟨K, 0, none⟩ = some (.int .i64 b) := cell_is Kb 0 rfl
        have q4 : wb.cell? ⟨Q, 4, none⟩ = some s := cell_is qb 4 rfl
        have a0d : wb.drew.cell? ⟨K, 0, none⟩ = some (.int .i64 b) := a0
        have q4d : wb.drew.cell? ⟨Q, 4, none⟩ = some s := q4
        have HBb := Lib.hid hBb
        go_wp2_with fail
        go_region_law
          (first
            | (go_simp; go_at_call 113; refine (clone_bs wb.drew (l := bytT (vs b) t) (m := 40) HY.out (by decide) (by decide) (HBb.out.chg (Chg.refl [] wb).drew)).mono ?_; rintro e w6 ⟨g2, c2, rfl, k6, _, _⟩; have a06 := k6.cell a0d (by simp); have q46 := k6.cell q4d (by simp); have ky : Chg [] wb (w6.alloc (.cells #[.int .i64 b, .slice (some ⟨g2, 0, none⟩) 40 c2, .bool false] 285)) := ((Chg.refl [] wb).drew.then k6).then_alloc _; have y0 := heap_new w6 (.cells #[.int .i64 b, .slice (some ⟨g2, 0, none⟩) 40 c2, .bool false] 285); have oy := ownsRow_chg ob ky; have qy := ky.heap qb (by simp); have q4y := cell_is qy 4 rfl; have a0y := cell_is (ky.heap Kb (by simp)) 0 rfl; have hQn := own_block_ne oy qy (by decide); have hby : base ≤ (w6.alloc (.cells #[.int .i64 b, .slice (some ⟨g2, 0, none⟩) 40 c2, .bool false] 285)).heap.size := (by have := heap_lt qy; omega); have gy := ky.heap hgb (by simp); have hgn := own_block_ne oy gy (by decide))
            | (refine step_append_rd rfl (.tmp 100) (.tmp 108) rfl base _ m xs rfl oy w6.heap.size 1 _ _ _ rfl (cell_is y0 0 rfl) (cell_is y0 1 rfl) (cell_is y0 2 rfl) ⟨rfl, rfl, rfl⟩ (by omega) hby ?_; intro g5 cp5 w5 o5 k5; have q5 := k5.heap qy hQn; have q45 := cell_is q5 4 rfl; have f45 := unfrozen q5 4))
        all_goals
          have HZ := Lib.hid (gread_end HRt k9 ky hm HBb.out gy hgn hgQ oy qy hQn (sb.keep0 ky) (g5 := g5) (cp5 := cp5) (w5 := w5) o5 k5)
          clear HBb gy hgn sb o5 k5 q5 f45 q45 hBb
          go_wp2_with fail
          go_roundw
          case rel => exact Or.inr ⟨rfl, HZ.out⟩
          case measure => decide
      · have HG := Lib.hid hg1
        have HL := Lib.hid hl40
        have HB := Lib.hid hbs
        clear hg1 hl40 hbs
        go_wp2_with fail
        go_region_held3 (fun wx => wx.cell? ⟨Q, 1, none⟩ = some (.pointer (some ⟨W, 0, none⟩)) ∧ wx.cell? ⟨K, 0, none⟩ = some (.int .i64 b)) (first | (exact ⟨q1, a0⟩) | (exact ⟨k6.cell q1 (by simp), k6.cell a0 (by simp)⟩))
          (first | (go_at_call 211; refine (bget_some wr.drew (hW3.keep (Chg.refl [] wr).drew (by simp) (by simp)) HG.out HB.out HL.out).mono ?_; rintro e wa ⟨g2, c2, rfl, k6, hbs6, l6⟩))
        have k7 := (Chg.refl [] wr).drew.then k6
        have hga := k7.heap hg3 (by simp)
        have hqa := k7.heap q (by simp)
        have hKa := k7.heap K0 (by simp)
        have hoa := ownsRow_chg ho3 k7
        have hSa := hS3.keep0 k7
        have k8 := kw3.then (k7.mono (T := [V]) (fun x hx _ => by cases hx))
        have hsrc : ∀ j v, (Lib.byteCells l)[j]? = some v → wa.cell? ((⟨g2, 0, none⟩ : Addr).add j) = some v := hbs6.cells_at
        have hlc : (Lib.byteCells l).length = 40 := by simpa [Lib.byteCells] using HL.out
        have H1 := Lib.hid hsrc
        have H2 := Lib.hid hlc
        have hfit : 0 + (Lib.byteCells l).length ≤ cur.size := by have := HC.out.1; omega
        have H3 := Lib.hid hfit
        clear hsrc hlc hfit
        go_wp2_with (refine wpList_copy_own rfl (.tmp 78) (.tmp 79) 23 23 rfl 5 ty23 (by kernel_rfl) g 0 40 c' ⟨g2, 0, none⟩ 40 c2 rfl rfl cur 5 hga (Lib.byteCells l) H2.out H1.out H3.out (fun v hv => byteCells_one l v hv) ?_)
        have kb : Chg [g] wa (wa.setRow g (List.take 0 cur.toList ++ (Lib.byteCells l ++ List.drop (0 + (Lib.byteCells l).length) cur.toList)).toArray) := chg_setRow _ _ _
        have hgb := setRow_heap wa g cur (List.take 0 cur.toList ++ (Lib.byteCells l ++ List.drop (0 + (Lib.byteCells l).length) cur.toList)).toArray 5 (0, 0) hga
        have hBb : Bs (wa.setRow g (List.take 0 cur.toList ++ (Lib.byteCells l ++ List.drop (0 + (Lib.byteCells l).length) cur.toList)).toArray) (some ⟨g, 0, none⟩) l := Bs.block hgb (by rw [HL.out, List.take_zero, List.nil_append, List.toList_toArray]; rw [show (40 : Nat) = (Lib.byteCells l).length from H2.out.symm]; exact List.take_left)
        generalize hwb : (wa.setRow g (List.take 0 cur.toList ++ (Lib.byteCells l ++ List.drop (0 + (Lib.byteCells l).length) cur.toList)).toArray) = wb at *
        clear hwb
        generalize (List.take 0 cur.toList ++ (Lib.byteCells l ++ List.drop (0 + (Lib.byteCells l).length) cur.toList)).toArray = Cb at hgb
        simp only [Act.put, List.setIfInBounds_toArray, List.set_cons_zero, List.set_cons_succ]
        have hgQ : Q ∉ [g] := by simpa using heap_ne hqa hga (by simp)
        have hgK2 : K ∉ [g] := by simpa using heap_ne hKa hga (by simp)
        have qb := kb.heap hqa hgQ
        have Kb := kb.heap hKa hgK2
        have ob := ownsRow_chg2 hoa kb hga
        have sb := hSa.keep kb (fun x hx cs t fr hh => by rw [List.mem_singleton] at hx; subst hx; rw [hga] at hh; cases hh; simp)
        have k9 : Chg [V] w wb := k8.trans kb (fun x hx hlt => by rw [List.mem_singleton] at hx; omega)
        have hKQ : K ≠ Q := heap_ne Kb qb (by simp)
        clear hga hqa hKa hoa hSa k7 k8 kb H1 H2 H3 hbs6 k6
        have a0 : wb.cell? ⟨K, 0, none⟩ = some (.int .i64 b) := cell_is Kb 0 rfl
        have q4 : wb.cell? ⟨Q, 4, none⟩ = some s := cell_is qb 4 rfl
        have ky : Chg [] wb (wb.drew.alloc (.cells #[.int .i64 b, .slice (some ⟨g2, 0, none⟩) 40 c2, .bool true] 285)) := (Chg.refl [] wb).drew.then_alloc _
        have y0 := heap_new wb.drew (.cells #[.int .i64 b, .slice (some ⟨g2, 0, none⟩) 40 c2, .bool true] 285)
        have oy := ownsRow_chg ob ky
        have qy := ky.heap qb (by simp)
        have Ky := ky.heap Kb (by simp)
        have q4y := cell_is qy 4 rfl
        have a0y := cell_is Ky 0 rfl
        have hQn := own_block_ne oy qy (by decide)
        have hKn := own_block_ne oy Ky (by decide)
        have hby : base ≤ (wb.drew.alloc (.cells #[.int .i64 b, .slice (some ⟨g2, 0, none⟩) 40 c2, .bool true] 285)).heap.size := by have := heap_lt qy; omega
        have q4d : wb.drew.cell? ⟨Q, 4, none⟩ = some s := q4
        have q4e : (wb.alloc (.cells #[.int .i64 b, .slice (some ⟨g2, 0, none⟩) 40 c2, .bool true] 285)).cell? ⟨Q, 4, none⟩ = some s := q4y
        have a0e : (wb.alloc (.cells #[.int .i64 b, .slice (some ⟨g2, 0, none⟩) 40 c2, .bool true] 285)).cell? ⟨K, 0, none⟩ = some (.int .i64 b) := a0y
        have a0d : wb.drew.cell? ⟨K, 0, none⟩ = some (.int .i64 b) := a0
        have gy := ky.heap hgb (by simp)
        have hgn := own_block_ne oy gy (by decide)
        have HF := Lib.hid (fun (g5 cp5 : Nat) (w5 : World) (o5 : w5.ownsRow base 285 3 (.slice (some ⟨g5, 0, none⟩) (m + 1) cp5) (m + 1) (xs ++ [.int .i64 b, .slice (some ⟨g2, 0, none⟩) 40 c2, .bool true])) (k5 : Chg s.ownBlock.toList (wb.drew.alloc (.cells #[.int .i64 b, .slice (some ⟨g2, 0, none⟩) 40 c2, .bool true] 285)) w5) =>
          gread_end HRt k9 ky hm hBb gy hgn hgQ oy qy hQn (sb.keep0 ky) o5 k5)
        clear hBb gy hgn sb
        go_region_law
          (first | (refine step_append_rd rfl (.tmp 85) (.tmp 92) rfl base _ m xs rfl oy wb.drew.heap.size 1 _ _ _ rfl (cell_is y0 0 rfl) (cell_is y0 1 rfl) (cell_is y0 2 rfl) ⟨rfl, rfl, rfl⟩ (by omega) hby ?_; intro g5 cp5 w5 o5 k5; have q5 := k5.heap qy hQn; have q45 := cell_is q5 4 rfl; have f45 := unfrozen q5 4; have a05 := k5.cell a0y hKn))
        all_goals
          have HZ := Lib.hid (HF.out g5 cp5 w5 o5 k5)
          clear HF o5 k5 q5 f45 q45
          go_wp2_with fail
          go_roundw
          case rel => exact Or.inr ⟨rfl, HZ.out⟩
          case measure => decide
    · have hgw : w.heap.size ≤ g := by omega
      go_wp2_with fail
      simp only [Exit.noGoto]
      go_ret2
      exact ⟨g, c', T, rfl, hc', kT, hT, hgw, hBs, hVw, hSp⟩
end Go.Proofs.YtfodeeejolkkfaaGreat
namespace Go.Proofs.YtfodeeejolkkfaaGreat
open Go.RowKit Go.Lib

/-- a view with its reads, at most n. -/
def VwX (w : World) (base Q X W V : Nat) (t : Int) (n : Nat) : Prop := ∃ s m xs, ViewT w Q X W V t s ∧ m ≤ n ∧ w.ownsRow base 285 3 s m xs
theorem VwX.keep {w w' : World} {S : List Nat} {base Q X W V n : Nat} {t : Int} (h : VwX w base Q X W V t n) (hc : Chg S w w') (hS : Av w S [275, 285]) : VwX w' base Q X W V t n := by
  obtain ⟨s, m, xs, h1, h2, h3⟩ := h
  refine ⟨s, m, xs, hc.heap h1 (hS.ne h1 (by simp)), h2, h3.1, ?_⟩
  rcases h3.2 with hn | ⟨g, cap, cur, hv, hb, hg, rest⟩
  · exact Or.inl hn
  · exact Or.inr ⟨g, cap, cur, hv, hb, hc.heap hg (hS.ne hg (by simp)), rest⟩
theorem VwX.vwt {w : World} {base Q X W V n k : Nat} {t : Int} (h : VwX w base Q X W V t n) (hn : n ≤ 90000) : VwT w base Q X W V t k := by
  obtain ⟨s, m, xs, h1, h2, h3⟩ := h
  exact ⟨s, m, xs, h1, by omega, h3⟩
theorem xread_end {w wb wc w5 : World} {base Q X W V n m g g5 cp5 : Nat} {t : Int} {s : Value} {xs : List Value} {ys : List Value} {l : List UInt8} {Cb : Array Value} (HRt : Rt w base (V :: Q :: s.ownBlock.toList)) (k9 : Chg [V] w wb) (ky : Chg [] wb wc) (hm : m ≤ n) (hB : Bs wb (some ⟨g, 0, none⟩) l)
    (gy : wc.heap[g]? = some (.cells Cb 5 (0, 0))) (hgn : g ∉ s.ownBlock.toList) (hgQ : Q ∉ [g]) (oy : wc.ownsRow base 285 3 s m xs) (qy : ViewT wc Q X W V t s) (hQn : Q ∉ s.ownBlock.toList) {sl : List (Int × Int)} (sb : SpX wc base V sl)
    (o5 : w5.ownsRow base 285 3 (.slice (some ⟨g5, 0, none⟩) (m + 1) cp5) (m + 1) ys) (k5 : Chg s.ownBlock.toList wc w5) :
    ∃ T, Chg T w (w5.setCell ⟨Q, 4, none⟩ (.slice (some ⟨g5, 0, none⟩) (m + 1) cp5)) ∧ Rt w base T ∧ Bs (w5.setCell ⟨Q, 4, none⟩ (.slice (some ⟨g5, 0, none⟩) (m + 1) cp5)) (some ⟨g, 0, none⟩) l ∧ VwX (w5.setCell ⟨Q, 4, none⟩ (.slice (some ⟨g5, 0, none⟩) (m + 1) cp5)) base Q X W V t (n + 1) ∧ SpX (w5.setCell ⟨Q, 4, none⟩ (.slice (some ⟨g5, 0, none⟩) (m + 1) cp5)) base V sl := by
  have q5 := k5.heap qy hQn
  have g5h := k5.heap gy hgn
  have kS := Chg.set w5 Q 4 (.slice (some ⟨g5, 0, none⟩) (m + 1) cp5)
  have hgQ' : g ∉ [Q] := by simpa using (fun e => hgQ (by simp [e]))
  have hav : Av wc s.ownBlock.toList [117, 312] := by
    intro x hx cs t fr hh
    rcases oy.2 with ⟨rfl, _⟩ | ⟨k, cap, cur, rfl, hb, hk, rest⟩
    · simp [Value.ownBlock] at hx
    · simp [Value.ownBlock] at hx
      subst hx
      rw [hk] at hh
      cases hh
      simp
  have hq1 : Av w5 [Q] [117, 312] := fun x hx cs t fr hh => by
    rw [List.mem_singleton] at hx; subst hx; rw [q5] at hh; cases hh; simp
  have hq2 : Av w5 [Q] [285] := fun x hx cs t fr hh => by
    rw [List.mem_singleton] at hx; subst hx; rw [q5] at hh; cases hh; simp
  refine ⟨V :: Q :: s.ownBlock.toList, ?_, HRt, ((hB.chg ky).chgT k5 hgn).chgT kS hgQ', ⟨_, m + 1, ys, heap_set q5 4 _ rfl, by omega, ownsRow_av o5 kS hq2⟩, (sb.keep k5 hav).keep kS hq1⟩
  refine (((k9.mono ?_).then (ky.mono ?_)).then (k5.mono ?_)).then (kS.mono ?_)
  · intro x hx _; simp at hx; simp [hx]
  · intro x hx _; cases hx
  · intro x hx _; simp only [List.mem_cons]; exact Or.inr (Or.inr hx)
  · intro x hx _; simp at hx; simp [hx]
set_option maxRecDepth 100000 in
set_option maxHeartbeats 20000000 in
theorem xread_one (w : World) {base Q X rx W rw V n lo : Nat} {last t : Int} {Lv : List (Int × Value)} {vs : Int → List (Int × List UInt8)} {L : List (Int × Value)} {b : Int} {l : List UInt8} (hX : VerG w lo X rx last Lv vs) (hW : BufAt w W rw L) (hB : BlkT w L (vs b) t b l) (hV : VwX w base Q X W V t n) {sl : List (Int × Int)} (hS : SpX w base V sl) (hn : sl.length ≤ 11) (hN : n ≤ 100000) (hbase : base ≤ Q ∧ base ≤ V) (h0 : 0 ≤ b) (h1 : b < 258) :
    Calls Tryz.prog 175 #[.pointer (some ⟨Q, 0, none⟩), .agg #[.int .i64 b, .int .i64 1]] w fun e w' =>
    ∃ g c' T, e = .returned (.tuple #[.slice (some ⟨g, 0, none⟩) 40 c', .int .i64 0]) ∧ 40 ≤ c' ∧ Chg T w w' ∧ Rt w base T ∧ w.heap.size ≤ g ∧ Bs w' (some ⟨g, 0, none⟩) l ∧ VwX w' base Q X W V t (n + 1) ∧ SpX w' base V (joinS sl b 1) := by
  have k0 : Chg [] w (w.alloc (.cells #[.int .i64 b, .int .i64 1] 117)) := Chg.alloc w _
  have K0 := heap_new w (.cells #[.int .i64 b, .int .i64 1] 117)
  have hX1 := hX.keep k0
  have hW1 := hW.keep k0 (by simp) (by simp)
  have hB1 := hB.keep k0
  obtain ⟨s, m, xs, qw, hm, how⟩ := hV
  have q := k0.heap qw (by simp)
  have ho := ownsRow_chg how k0
  have hS1 := hS.keep0 k0
  have HRt : Rt w base (V :: Q :: s.ownBlock.toList) := by
    intro x hx
    simp only [List.mem_cons] at hx
    rcases hx with rfl | rfl | hx
    · exact ⟨hbase.2, _, _, _, hS.choose_spec.1, by simp⟩
    · exact ⟨hbase.1, _, _, _, qw, by simp⟩
    · rcases how.2 with ⟨rfl, _⟩ | ⟨k, cap, cur, rfl, hb, hk, rest⟩
      · simp [Value.ownBlock] at hx
      · simp [Value.ownBlock] at hx
        subst hx
        exact ⟨hb, _, _, _, hk, by simp⟩
  clear qw how
  have q0 : (w.alloc (.cells #[.int .i64 b, .int .i64 1] 117)).cell? ⟨Q, 0, none⟩ = some (.pointer (some ⟨X, 0, none⟩)) := cell_is q 0 rfl
  have q1 : (w.alloc (.cells #[.int .i64 b, .int .i64 1] 117)).cell? ⟨Q, 1, none⟩ = some (.pointer (some ⟨W, 0, none⟩)) := cell_is q 1 rfl
  have q2 : (w.alloc (.cells #[.int .i64 b, .int .i64 1] 117)).cell? ⟨Q, 2, none⟩ = some (.int .i64 t) := cell_is q 2 rfl
  have q3 : (w.alloc (.cells #[.int .i64 b, .int .i64 1] 117)).cell? ⟨Q, 3, none⟩ = some (.pointer (some ⟨V, 0, none⟩)) := cell_is q 3 rfl
  have a0 : (w.alloc (.cells #[.int .i64 b, .int .i64 1] 117)).cell? ⟨w.heap.size, 0, none⟩ = some (.int .i64 b) := cell_is K0 0 rfl
  have a1 : (w.alloc (.cells #[.int .i64 b, .int .i64 1] 117)).cell? ⟨w.heap.size, 1, none⟩ = some (.int .i64 1) := cell_is K0 1 rfl
  go_enter Tryz.func175, Tryz.ntmps175
  go_wp2_with fail
  go_step3
  go_wp2_with fail
  generalize w.alloc (.cells #[.int .i64 b, .int .i64 1] 117) = w1 at *
  generalize hK : w.heap.size = K at *
  go_region_held3 (fun wx => wx.cell? ⟨Q, 0, none⟩ = some (.pointer (some ⟨X, 0, none⟩)) ∧ wx.cell? ⟨Q, 2, none⟩ = some (.int .i64 t) ∧ wx.cell? ⟨K, 0, none⟩ = some (.int .i64 b) ∧ wx.cell? ⟨K, 1, none⟩ = some (.int .i64 1))
    (first | (exact ⟨q0, q2, a0, a1⟩) | (exact ⟨k2.cell q0 (by simp), k2.cell q2 (by simp), k2.cell a0 (by simp), k2.cell a1 (by simp)⟩))
    (first | (go_at_call 210; refine (grange_one w1.drew (t := t) (hX1.keep (Chg.refl [] w1).drew) h0 h1).mono ?_; rintro e w2 ⟨g, c', rfl, hc', k2, o2, hy40⟩))
  have HY := Lib.hid hy40
  clear hy40
  have kk2 := (Chg.refl [] w1).drew.then k2
  have q := kk2.heap q (by simp)
  have K0 := kk2.heap K0 (by simp)
  have ho := ownsRow_chg ho kk2
  have hW2 := hW1.keep kk2 (by simp) (by simp)
  have hB2 := hB1.keep kk2
  have hS2 := hS1.keep0 kk2
  have hK2 : K ≤ w2.heap.size := by have := k0.size; have := kk2.size; omega
  have ho2 : w2.ownsRow K 5 1 (.slice (some ⟨g, 0, none⟩) 40 c') 40 (Lib.byteCells (bytT (vs b) t)) := ownsRow_base o2 (by have := k0.size; show K ≤ w1.heap.size; omega)
  have kk := k0.then kk2
  clear q0 q1 q2 q3 a0 a1 hX1 hW1 hB1 hS1 o2 k0 k2 kk2
  have q3 : w2.cell? ⟨Q, 3, none⟩ = some (.pointer (some ⟨V, 0, none⟩)) := cell_is q 3 rfl
  have a0 : w2.cell? ⟨K, 0, none⟩ = some (.int .i64 b) := cell_is K0 0 rfl
  have a1 : w2.cell? ⟨K, 1, none⟩ = some (.int .i64 1) := cell_is K0 1 rfl
  go_wp2_with fail
  have kx : Chg [] w2 (w2.drew.alloc (.cells #[.int .i64 b, .int .i64 1] 117)) := (Chg.refl [] w2).drew.then_alloc _
  have kx0 := heap_new w2.drew (.cells #[.int .i64 b, .int .i64 1] 117)
  have hVK : V ≠ K := by obtain ⟨_, hh, _⟩ := hS2; exact heap_ne hh K0 (by simp)
  have hVQ : V ≠ Q := by obtain ⟨_, hh, _⟩ := hS2; exact heap_ne hh q (by simp)
  have hbw : base ≤ (w2.drew.alloc (.cells #[.int .i64 b, .int .i64 1] 117)).heap.size := by have := heap_lt q; have := kx.size; omega
  have kx2 : Chg [V] w2 (w2.drew.alloc (.cells #[.int .i64 b, .int .i64 1] 117)) := kx.mono (fun x hx _ => by cases hx)
  go_region_held3 (fun wx => wx.cell? ⟨Q, 3, none⟩ = some (.pointer (some ⟨V, 0, none⟩)) ∧ wx.cell? ⟨K, 0, none⟩ = some (.int .i64 b) ∧ wx.cell? ⟨K, 1, none⟩ = some (.int .i64 1))
    (first | (exact ⟨q3, a0, a1⟩) | (exact ⟨kx.cell q3 (by simp), kx.cell a0 (by simp), kx.cell a1 (by simp)⟩) | (exact ⟨(kx2.then k3).cell q3 (by simpa using hVQ.symm), (kx2.then k3).cell a0 (by simpa using hVK.symm), (kx2.then k3).cell a1 (by simpa using hVK.symm)⟩))
    (first | (go_at_call 197; refine (iadd_x (w2.drew.alloc (.cells #[.int .i64 b, .int .i64 1] 117)) (base := base) (V := V) (n := 1) (E := w2.drew.heap.size) (hS2.keep0 kx) hn hbw h0 (by decide) (by omega) (cell_is kx0 0 rfl) (cell_is kx0 1 rfl)).mono ?_; rintro e w3 ⟨rfl, k3, hS3⟩))
  have k4 := kx2.then k3
  have hR4 : Rt w2 base [V] := fun x hx => by
    rw [List.mem_singleton] at hx
    subst hx
    obtain ⟨_, hh, _⟩ := hS2
    exact ⟨hbase.2, _, _, _, hh, by simp⟩
  have q := k4.heap q (by simpa using hVQ.symm)
  have K0 := k4.heap K0 (by simpa using hVK.symm)
  have hW3 := hW2.keep k4 (hR4.cells hW2.1 (by simp)) (hR4.map hW2.2)
  have hB3 := hB2.keepT k4 hR4
  have hz : Bs w2 (some ⟨g, 0, none⟩) (bytT (vs b) t) ∧ Bt w2 g ∧ K ≤ g := by
    rcases ho2.2 with ⟨e, h0⟩ | ⟨g', cap, cur, e, hA, hgt, _⟩
    · cases h0
    · cases e; exact ⟨Bs.own ho2, ⟨_, hgt⟩, hA⟩
  have hgV : g ∉ [V] := hR4.cells hz.2.1.choose_spec (by simp)
  have kw3 : Chg [V] w w3 := (kk.mono (fun x hx _ => by cases hx)).then k4
  have hRw : Rt w base [V] := fun x hx => by
    rw [List.mem_singleton] at hx
    subst hx
    obtain ⟨_, hh, _⟩ := hS
    exact ⟨hbase.2, _, _, _, hh, by simp⟩
  have ho3 := ownsRow_chgV ho k4 hS2.choose_spec.1
  obtain ⟨cur, hg3, hcur⟩ : ∃ cur, w3.heap[g]? = some (.cells cur 5 (0, 0)) ∧ cur.size = c' * 1 ∧ cur.toList.take (40 * 1) = Lib.byteCells (bytT (vs b) t) := by
    rcases ho2.2 with ⟨e, h0⟩ | ⟨g', cap, cur, e, hA, hgt, _, _, hsz, htk⟩
    · cases h0
    · cases e; exact ⟨cur, k4.heap hgt hgV, hsz, htk⟩
  have HC := Lib.hid hcur
  clear hcur
  have hgK := hz.2.2
  clear q3 a0 a1 hW2 hB2 hS2 hz ho2 kx kx2 kx0 k3 k4 hR4 hgV hX hW hS kk hbw hB
  clear ho
  have a0 : w3.cell? ⟨K, 0, none⟩ = some (.int .i64 b) := cell_is K0 0 rfl
  have a1 : w3.cell? ⟨K, 1, none⟩ = some (.int .i64 1) := cell_is K0 1 rfl
  have q1 : w3.cell? ⟨Q, 1, none⟩ = some (.pointer (some ⟨W, 0, none⟩)) := cell_is q 1 rfl
  have q4 : w3.cell? ⟨Q, 4, none⟩ = some s := cell_is q 4 rfl
  go_wp2_with fail
  go_step3
  go_wp2_with fail
  have hb0 : IntKind.i64.wrap b = b := by rw [IntKind.wrap_i64]; omega
  go_loopw [55] (fun i wr => (i = .int .i64 0 ∧ wr = w3) ∨ (i = .int .i64 1 ∧ ∃ T, Chg T w wr ∧ Rt w base T ∧ Bs wr (some ⟨g, 0, none⟩) l ∧ VwX wr base Q X W V t (n + 1) ∧ SpX wr base V (joinS sl b 1))) (fun i _ => 1 - (intOf i).toNat)
  case atStart => exact Or.inl ⟨rfl, rfl⟩
  case round =>
    rcases hrel with ⟨rfl, rfl⟩ | ⟨rfl, T, kT, hT, hBs, hVw, hSp⟩
    · rcases hB3 with ⟨hg0, rfl⟩ | ⟨gb, cb, hg1, hbs, hl40, hbt⟩
      · go_wp2_with fail
        go_region_held3 (fun wx => wx.cell? ⟨Q, 1, none⟩ = some (.pointer (some ⟨W, 0, none⟩)) ∧ wx.cell? ⟨K, 0, none⟩ = some (.int .i64 b)) (first | (exact ⟨q1, a0⟩))
          (first | (go_at_call 211; refine (bget_none wr.drew (hW3.keep (Chg.refl [] wr).drew (by simp) (by simp)) hg0).mono ?_; rintro e wa ⟨rfl, rfl⟩))
        have k7 : Chg [] wr wr.drew := (Chg.refl [] wr).drew
        have hgb : wr.drew.heap[g]? = some (.cells cur 5 (0, 0)) := hg3
        have qb : ViewT wr.drew Q X W V t s := q
        have Kb : wr.drew.heap[K]? = some (.cells #[.int .i64 b, .int .i64 1] 117 (0, 0)) := K0
        have ob := ownsRow_chg ho3 k7
        have sb := hS3.keep0 k7
        have k9 : Chg [V] w wr.drew := kw3.drew
        have hBb : Bs wr.drew (some ⟨g, 0, none⟩) (bytT (vs b) t) := Bs.block hgb (by have := HC.out.2; rw [HY.out]; simpa using this)
        have hKQ : K ≠ Q := heap_ne Kb qb (by simp)
        have hgQ : Q ∉ [g] := by simpa using heap_ne qb hgb (by simp)
        clear hg3 q K0 ho3 hS3 kw3 k7 hW3 q1 a0 a1 q4
        generalize wr.drew = wb at *
        have a0 : wb.cell? ⟨K, 0, none⟩ = some (.int .i64 b) := cell_is Kb 0 rfl
        have q4 : wb.cell? ⟨Q, 4, none⟩ = some s := cell_is qb 4 rfl
        have a0d : wb.drew.cell? ⟨K, 0, none⟩ = some (.int .i64 b) := a0
        have q4d : wb.drew.cell? ⟨Q, 4, none⟩ = some s := q4
        have HBb := Lib.hid hBb
        go_wp2_with fail
        go_region_law
          (first
            | (go_simp; go_at_call 113; refine (clone_bs wb.drew (l := bytT (vs b) t) (m := 40) HY.out (by decide) (by decide) (HBb.out.chg (Chg.refl [] wb).drew)).mono ?_; rintro e w6 ⟨g2, c2, rfl, k6, _, _⟩; have a06 := k6.cell a0d (by simp); have q46 := k6.cell q4d (by simp); have ky : Chg [] wb (w6.alloc (.cells #[.int .i64 b, .slice (some ⟨g2, 0, none⟩) 40 c2, .bool false] 285)) := ((Chg.refl [] wb).drew.then k6).then_alloc _; have y0 := heap_new w6 (.cells #[.int .i64 b, .slice (some ⟨g2, 0, none⟩) 40 c2, .bool false] 285); have oy := ownsRow_chg ob ky; have qy := ky.heap qb (by simp); have q4y := cell_is qy 4 rfl; have a0y := cell_is (ky.heap Kb (by simp)) 0 rfl; have hQn := own_block_ne oy qy (by decide); have hby : base ≤ (w6.alloc (.cells #[.int .i64 b, .slice (some ⟨g2, 0, none⟩) 40 c2, .bool false] 285)).heap.size := (by have := heap_lt qy; omega); have gy := ky.heap hgb (by simp); have hgn := own_block_ne oy gy (by decide))
            | (refine step_append_rd rfl (.tmp 100) (.tmp 108) rfl base _ m xs rfl oy w6.heap.size 1 _ _ _ rfl (cell_is y0 0 rfl) (cell_is y0 1 rfl) (cell_is y0 2 rfl) ⟨rfl, rfl, rfl⟩ (by omega) hby ?_; intro g5 cp5 w5 o5 k5; have q5 := k5.heap qy hQn; have q45 := cell_is q5 4 rfl; have f45 := unfrozen q5 4))
        all_goals
          have HZ := Lib.hid (xread_end HRt k9 ky hm HBb.out gy hgn hgQ oy qy hQn (sb.keep0 ky) (g5 := g5) (cp5 := cp5) (w5 := w5) o5 k5)
          clear HBb gy hgn sb o5 k5 q5 f45 q45 hBb
          go_wp2_with fail
          go_roundw
          case rel => exact Or.inr ⟨rfl, HZ.out⟩
          case measure => decide
      · have HG := Lib.hid hg1
        have HL := Lib.hid hl40
        have HB := Lib.hid hbs
        clear hg1 hl40 hbs
        go_wp2_with fail
        go_region_held3 (fun wx => wx.cell? ⟨Q, 1, none⟩ = some (.pointer (some ⟨W, 0, none⟩)) ∧ wx.cell? ⟨K, 0, none⟩ = some (.int .i64 b)) (first | (exact ⟨q1, a0⟩) | (exact ⟨k6.cell q1 (by simp), k6.cell a0 (by simp)⟩))
          (first | (go_at_call 211; refine (bget_some wr.drew (hW3.keep (Chg.refl [] wr).drew (by simp) (by simp)) HG.out HB.out HL.out).mono ?_; rintro e wa ⟨g2, c2, rfl, k6, hbs6, l6⟩))
        have k7 := (Chg.refl [] wr).drew.then k6
        have hga := k7.heap hg3 (by simp)
        have hqa := k7.heap q (by simp)
        have hKa := k7.heap K0 (by simp)
        have hoa := ownsRow_chg ho3 k7
        have hSa := hS3.keep0 k7
        have k8 := kw3.then (k7.mono (T := [V]) (fun x hx _ => by cases hx))
        have hsrc : ∀ j v, (Lib.byteCells l)[j]? = some v → wa.cell? ((⟨g2, 0, none⟩ : Addr).add j) = some v := hbs6.cells_at
        have hlc : (Lib.byteCells l).length = 40 := by simpa [Lib.byteCells] using HL.out
        have H1 := Lib.hid hsrc
        have H2 := Lib.hid hlc
        have hfit : 0 + (Lib.byteCells l).length ≤ cur.size := by have := HC.out.1; omega
        have H3 := Lib.hid hfit
        clear hsrc hlc hfit
        go_wp2_with (refine wpList_copy_own rfl (.tmp 78) (.tmp 79) 23 23 rfl 5 ty23 (by kernel_rfl) g 0 40 c' ⟨g2, 0, none⟩ 40 c2 rfl rfl cur 5 hga (Lib.byteCells l) H2.out H1.out H3.out (fun v hv => byteCells_one l v hv) ?_)
        have kb : Chg [g] wa (wa.setRow g (List.take 0 cur.toList ++ (Lib.byteCells l ++ List.drop (0 + (Lib.byteCells l).length) cur.toList)).toArray) := chg_setRow _ _ _
        have hgb := setRow_heap wa g cur (List.take 0 cur.toList ++ (Lib.byteCells l ++ List.drop (0 + (Lib.byteCells l).length) cur.toList)).toArray 5 (0, 0) hga
        have hBb : Bs (wa.setRow g (List.take 0 cur.toList ++ (Lib.byteCells l ++ List.drop (0 + (Lib.byteCells l).length) cur.toList)).toArray) (some ⟨g, 0, none⟩) l := Bs.block hgb (by rw [HL.out, List.take_zero, List.nil_append, List.toList_toArray]; rw [show (40 : Nat) = (Lib.byteCells l).length from H2.out.symm]; exact List.take_left)
        generalize hwb : (wa.setRow g (List.take 0 cur.toList ++ (Lib.byteCells l ++ List.drop (0 + (Lib.byteCells l).length) cur.toList)).toArray) = wb at *
        clear hwb
        generalize (List.take 0 cur.toList ++ (Lib.byteCells l ++ List.drop (0 + (Lib.byteCells l).length) cur.toList)).toArray = Cb at hgb
        simp only [Act.put, List.setIfInBounds_toArray, List.set_cons_zero, List.set_cons_succ]
        have hgQ : Q ∉ [g] := by simpa using heap_ne hqa hga (by simp)
        have hgK2 : K ∉ [g] := by simpa using heap_ne hKa hga (by simp)
        have qb := kb.heap hqa hgQ
        have Kb := kb.heap hKa hgK2
        have ob := ownsRow_chg2 hoa kb hga
        have sb := hSa.keep kb (fun x hx cs t fr hh => by rw [List.mem_singleton] at hx; subst hx; rw [hga] at hh; cases hh; simp)
        have k9 : Chg [V] w wb := k8.trans kb (fun x hx hlt => by rw [List.mem_singleton] at hx; omega)
        have hKQ : K ≠ Q := heap_ne Kb qb (by simp)
        clear hga hqa hKa hoa hSa k7 k8 kb H1 H2 H3 hbs6 k6
        have a0 : wb.cell? ⟨K, 0, none⟩ = some (.int .i64 b) := cell_is Kb 0 rfl
        have q4 : wb.cell? ⟨Q, 4, none⟩ = some s := cell_is qb 4 rfl
        have ky : Chg [] wb (wb.drew.alloc (.cells #[.int .i64 b, .slice (some ⟨g2, 0, none⟩) 40 c2, .bool true] 285)) := (Chg.refl [] wb).drew.then_alloc _
        have y0 := heap_new wb.drew (.cells #[.int .i64 b, .slice (some ⟨g2, 0, none⟩) 40 c2, .bool true] 285)
        have oy := ownsRow_chg ob ky
        have qy := ky.heap qb (by simp)
        have Ky := ky.heap Kb (by simp)
        have q4y := cell_is qy 4 rfl
        have a0y := cell_is Ky 0 rfl
        have hQn := own_block_ne oy qy (by decide)
        have hKn := own_block_ne oy Ky (by decide)
        have hby : base ≤ (wb.drew.alloc (.cells #[.int .i64 b, .slice (some ⟨g2, 0, none⟩) 40 c2, .bool true] 285)).heap.size := by have := heap_lt qy; omega
        have q4d : wb.drew.cell? ⟨Q, 4, none⟩ = some s := q4
        have q4e : (wb.alloc (.cells #[.int .i64 b, .slice (some ⟨g2, 0, none⟩) 40 c2, .bool true] 285)).cell? ⟨Q, 4, none⟩ = some s := q4y
        have a0e : (wb.alloc (.cells #[.int .i64 b, .slice (some ⟨g2, 0, none⟩) 40 c2, .bool true] 285)).cell? ⟨K, 0, none⟩ = some (.int .i64 b) := a0y
        have a0d : wb.drew.cell? ⟨K, 0, none⟩ = some (.int .i64 b) := a0
        have gy := ky.heap hgb (by simp)
        have hgn := own_block_ne oy gy (by decide)
        have HF := Lib.hid (fun (g5 cp5 : Nat) (w5 : World) (o5 : w5.ownsRow base 285 3 (.slice (some ⟨g5, 0, none⟩) (m + 1) cp5) (m + 1) (xs ++ [.int .i64 b, .slice (some ⟨g2, 0, none⟩) 40 c2, .bool true])) (k5 : Chg s.ownBlock.toList (wb.drew.alloc (.cells #[.int .i64 b, .slice (some ⟨g2, 0, none⟩) 40 c2, .bool true] 285)) w5) =>
          xread_end HRt k9 ky hm hBb gy hgn hgQ oy qy hQn (sb.keep0 ky) o5 k5)
        clear hBb gy hgn sb
        go_region_law
          (first | (refine step_append_rd rfl (.tmp 85) (.tmp 92) rfl base _ m xs rfl oy wb.drew.heap.size 1 _ _ _ rfl (cell_is y0 0 rfl) (cell_is y0 1 rfl) (cell_is y0 2 rfl) ⟨rfl, rfl, rfl⟩ (by omega) hby ?_; intro g5 cp5 w5 o5 k5; have q5 := k5.heap qy hQn; have q45 := cell_is q5 4 rfl; have f45 := unfrozen q5 4; have a05 := k5.cell a0y hKn))
        all_goals
          have HZ := Lib.hid (HF.out g5 cp5 w5 o5 k5)
          clear HF o5 k5 q5 f45 q45
          go_wp2_with fail
          go_roundw
          case rel => exact Or.inr ⟨rfl, HZ.out⟩
          case measure => decide
    · have hgw : w.heap.size ≤ g := by omega
      go_wp2_with fail
      simp only [Exit.noGoto]
      go_ret2
      exact ⟨g, c', T, rfl, hc', kT, hT, hgw, hBs, hVw, hSp⟩
end Go.Proofs.YtfodeeejolkkfaaGreat
namespace Go.Proofs.YtfodeeejolkkfaaGreat
open Go.RowKit Go.Lib

/-- a transaction's handle and time; the versions: the last time, the map's entries, each block's versions. -/
structure Par where
  h : Int
  t : Int
  lo : Nat
  last : Int
  Lv : List (Int × Value)
  vs : Int → List (Int × List UInt8)
/-- what a transaction's calls ask of the store about it. -/
structure Need (w : World) (d : Ids) (p : Par) : Prop where
  p0 : w.cell? ⟨d.P, 0, none⟩ = some (.pointer (some ⟨d.N, 0, none⟩))
  p5 : w.cell? ⟨d.P, 5, none⟩ = some (.pointer (some ⟨d.M, 0, none⟩))
  p9 : w.cell? ⟨d.P, 9, none⟩ = some (.bool false)
  hdr : ∃ ops, w.heap[d.N]? = some (.cells #[.int .i64 8, .int .i64 96, .slice (some ⟨d.A, 0, none⟩) 8 d.c, .int .i64 ops, .int .i64 0, .bool false, .int .i64 0, .bool false] 130 (0, 0))
  m0 : w.cell? ⟨d.M, 0, none⟩ = some (.pointer (some ⟨d.X, 0, none⟩))
  m2 : w.cell? ⟨d.M, 2, none⟩ = some (.map (some d.r))
  map : ∃ Lr, MapAt w d.r Lr ∧ getL Lr p.h = some (.pointer (some ⟨d.T, 0, none⟩))
  ver : VerG w p.lo d.X d.rx p.last p.Lv p.vs
/-- what holds of the store about a transaction while it reads and writes. -/
structure Fr (base : Nat) (d : Ids) (p : Par) (F : World → Prop) : Prop where
  need : ∀ w, F w → Need w d p
  keep : ∀ a b, Ow base a b → F a → F b
/-- block T is an open transaction: its buffer W, its view Q, its time t. -/
def TxT (w : World) (T W Q : Nat) (t : Int) : Prop := w.heap[T]? = some (.cells #[.int .i64 1, .int .i64 0, .int .i64 0, .int .i64 t, .pointer (some ⟨W, 0, none⟩), .pointer (some ⟨Q, 0, none⟩)] 173 (0, 0))
/-- a store with an open transaction, whose blocks are q, whose buffer is L, behind n reads. -/
structure Su (w : World) (base : Nat) (d : Ids) (p : Par) (F : World → Prop) (q : Int → List UInt8) (L : List (Int × Value)) (n : Nat) : Prop where
  env : F w
  tx : TxT w d.T d.W d.Q p.t
  buf : BufAt w d.W d.rw L
  keys : ∀ x ∈ L, 0 ≤ x.1 ∧ x.1 < 258
  blk : ∀ b, 0 ≤ b → b < 258 → BlkT w L (p.vs b) p.t b (q b)
  vw : VwT w base d.Q d.X d.W d.V p.t n
  sp : SpV w base d.V n
  high : base ≤ d.Q ∧ base ≤ d.V ∧ base ≤ d.rw
theorem ow_rt {base : Nat} {w w' : World} {T : List Nat} (h : Chg T w w') (hT : Rt w base T) : Ow base w w' := by
  refine ⟨T, h, fun x hx => ⟨(hT x hx).1, fun cs t fr hh => ?_⟩⟩
  obtain ⟨_, cs', t', fr', h1, h2⟩ := hT x hx
  rw [hh] at h1
  cases h1
  exact h2
section
variable {base : Nat} {d : Ids} {p : Par} {F : World → Prop}
theorem Su.keep {w w' : World} {q : Int → List UInt8} {L : List (Int × Value)} {n : Nat} (hf : Fr base d p F) (h : Su w base d p F q L n) (hc : Chg [] w w') : Su w' base d p F q L n :=
  ⟨hf.keep w w' (Ow.of_chg hc) h.env, hc.heap h.tx (by simp), h.buf.keep hc (by simp) (by simp), h.keys, fun b hb hb' => (h.blk b hb hb').keep hc, h.vw.keep hc (Av.nil _ _), h.sp.keep0 hc, h.high⟩
set_option maxRecDepth 100000 in
theorem dead_gen (w : World) (h : Need w d p) : Calls Tryz.prog 53 #[.pointer (some ⟨d.P, 0, none⟩)] w fun e w' => e = .returned (.bool false) ∧ w = w' := by
  have c0 := h.p0
  have c9 := h.p9
  clear h
  go_enter Tryz.func53, Tryz.ntmps53
  go_wp2_with fail
  go_ret
  exact ⟨rfl, rfl⟩
set_option maxRecDepth 100000 in
theorem tgone_gen (w : World) (h : Need w d p) : Calls Tryz.prog 98 #[.pointer (some ⟨d.M, 0, none⟩)] w fun e w' => e = .returned (.bool false) ∧ w = w' := by
  have c0 := h.m0
  clear h
  go_enter Tryz.func98, Tryz.ntmps98
  go_wp2_with fail
  go_ret
  exact ⟨rfl, rfl⟩
set_option maxRecDepth 100000 in
theorem topen_gen (w : World) (h : Need w d p) (hT : TxT w d.T d.W d.Q p.t) : Calls Tryz.prog 94 #[.pointer (some ⟨d.M, 0, none⟩), .int .i64 p.h] w fun e w' => e = .returned (.pointer (some ⟨d.T, 0, none⟩)) ∧ w = w' := by
  have HG := Lib.hid (tgone_gen w h)
  have c2 := h.m2
  obtain ⟨Lr, hm, hg⟩ := h.map
  have hl : (Instr.lookup 178 (.map (some d.r)) (.int .i64 p.h) true).run Tryz.prog w = .ok (.tuple #[.pointer (some ⟨d.T, 0, none⟩), .bool true]) w := by
    have := lookup178 hm p.h true
    rw [hg] at this
    exact this
  have t0 : w.cell? ⟨d.T, 0, none⟩ = some (.int .i64 1) := cell_is hT 0 rfl
  clear h hT hg hm
  go_enter Tryz.func94, Tryz.ntmps94
  go_wp2_with fail
  refine HG.out.mono ?_
  rintro e w1 ⟨rfl, rfl⟩
  go_wp2_with fail
  go_ret
  exact ⟨rfl, rfl⟩
set_option maxRecDepth 100000 in
set_option maxHeartbeats 2000000 in
theorem tread_gen (w : World) {q : Int → List UInt8} {L : List (Int × Value)} {n : Nat} {b : Int} (hf : Fr base d p F) (h : Su w base d p F q L n) (hn : n ≤ 11) (h0 : 0 ≤ b) (h1 : b < 258) :
    Calls Tryz.prog 125 #[.pointer (some ⟨d.M, 0, none⟩), .int .i64 p.h, .agg #[.int .i64 b, .int .i64 1]] w fun e w' =>
    ∃ g c', e = .returned (.tuple #[.slice (some ⟨g, 0, none⟩) 40 c', .int .i64 0]) ∧ 40 ≤ c' ∧ Ow base w w' ∧ Su w' base d p F q L (n + 1) ∧ w.heap.size ≤ g ∧ Bs w' (some ⟨g, 0, none⟩) (q b) := by
  have k0 : Chg [] w (w.alloc (.cells #[.int .i64 b, .int .i64 1] 117)) := Chg.alloc w _
  have K0 := heap_new w (.cells #[.int .i64 b, .int .i64 1] 117)
  have h2 := h.keep hf k0
  have HO := Lib.hid (topen_gen _ (hf.need _ h2.env) h2.tx)
  clear h
  go_enter Tryz.func125, Tryz.ntmps125
  go_wp2_with fail
  generalize w.alloc (.cells #[.int .i64 b, .int .i64 1] 117) = w1 at *
  generalize hK : w.heap.size = K at *
  refine HO.out.mono ?_
  rintro e w2 ⟨rfl, rfl⟩
  have t5 : w1.cell? ⟨d.T, 5, none⟩ = some (.pointer (some ⟨d.Q, 0, none⟩)) := cell_is h2.tx 5 rfl
  have a0 : w1.cell? ⟨K, 0, none⟩ = some (.int .i64 b) := cell_is K0 0 rfl
  have a1 : w1.cell? ⟨K, 1, none⟩ = some (.int .i64 1) := cell_is K0 1 rfl
  go_wp2_with fail
  have hbuf := h2.buf
  have hq := h2.blk
  have h3 := h2.keep hf (Chg.refl [] w1).drew
  go_region_held3 (fun wx => wx.cell? ⟨d.T, 5, none⟩ = some (.pointer (some ⟨d.Q, 0, none⟩)) ∧ wx.cell? ⟨K, 0, none⟩ = some (.int .i64 b) ∧ wx.cell? ⟨K, 1, none⟩ = some (.int .i64 1))
    (first | (exact ⟨t5, a0, a1⟩) | (exact ⟨cell_is t6 5 rfl, cell_is K6 0 rfl, cell_is K6 1 rfl⟩))
    (first | (go_at_call 175; refine (gread_one w1.drew (hf.need _ h3.env).ver (hbuf.keep (Chg.refl [] w1).drew (by simp) (by simp)) (hq b h0 h1) h3.vw h3.sp hn ⟨h3.high.1, h3.high.2.1⟩ h0 h1).mono ?_; rintro e w6 ⟨g, c', T, rfl, hc', k6, hT, hg, hB6, hV6, hS6⟩; have t6 := k6.heap h3.tx (hT.cells h3.tx (by simp)); have K6 := k6.heap K0 (hT.cells K0 (by simp))))
  have hlow : ∀ x ∈ T, base ≤ x := fun x hx => (hT x hx).1
  have how0 : Ow base w1.drew w6 := ow_rt k6 hT
  have hfin : Su w6 base d p F q L (n + 1) := ⟨hf.keep _ _ how0 h3.env, t6, (hbuf.keep (Chg.refl [] w1).drew (by simp) (by simp)).keep k6 (hT.cells hbuf.1 (by simp)) (hT.map hbuf.2), h2.keys, fun x hx hx' => ((hq x hx hx').keep (Chg.refl [] w1).drew).keepT k6 hT, hV6, hS6, h3.high⟩
  have how : Ow base w w6 := (Ow.of_chg (base := base) k0.drew).trans how0
  have hsz : w.heap.size ≤ g := by have := k0.size; have h9 : w1.drew.heap.size = w1.heap.size := rfl; omega
  clear hq hbuf h2 h3 hV6 hS6 k6 hT t6 K6 how0
  go_wp2_with fail
  go_ret2
  exact ⟨g, c', rfl, hc', how, hfin, hsz, hB6⟩
set_option maxRecDepth 100000 in
set_option maxHeartbeats 2000000 in
theorem sread_gen (w : World) {q : Int → List UInt8} {L : List (Int × Value)} {n : Nat} {b : Int} (hf : Fr base d p F) (h : Su w base d p F q L n) (hn : n ≤ 11) (h0 : 0 ≤ b) (h1 : b < 258) :
    Calls Tryz.prog 66 #[.pointer (some ⟨d.P, 0, none⟩), .int .i64 p.h, .agg #[.int .i64 b, .int .i64 1]] w fun e w' =>
    ∃ g c', e = .returned (.tuple #[.slice (some ⟨g, 0, none⟩) 40 c', .int .i64 0]) ∧ 40 ≤ c' ∧ Ow base w w' ∧ Su w' base d p F q L (n + 1) ∧ w.heap.size ≤ g ∧ Bs w' (some ⟨g, 0, none⟩) (q b) := by
  have k0 : Chg [] w (w.alloc (.cells #[.int .i64 b, .int .i64 1] 117)) := Chg.alloc w _
  have K0 := heap_new w (.cells #[.int .i64 b, .int .i64 1] 117)
  have h2 := h.keep hf k0
  have HO := Lib.hid (dead_gen _ (hf.need _ h2.env))
  clear h
  go_enter Tryz.func66, Tryz.ntmps66
  go_wp2_with fail
  generalize w.alloc (.cells #[.int .i64 b, .int .i64 1] 117) = w1 at *
  generalize hK : w.heap.size = K at *
  refine HO.out.mono ?_
  rintro e w2 ⟨rfl, rfl⟩
  have t5 : w1.cell? ⟨d.P, 5, none⟩ = some (.pointer (some ⟨d.M, 0, none⟩)) := (hf.need _ h2.env).p5
  have a0 : w1.cell? ⟨K, 0, none⟩ = some (.int .i64 b) := cell_is K0 0 rfl
  have a1 : w1.cell? ⟨K, 1, none⟩ = some (.int .i64 1) := cell_is K0 1 rfl
  go_wp2_with fail
  have h3 := h2.keep hf (Chg.refl [] w1).drew
  go_region_held3 (fun wx => wx.cell? ⟨d.P, 5, none⟩ = some (.pointer (some ⟨d.M, 0, none⟩)) ∧ wx.cell? ⟨K, 0, none⟩ = some (.int .i64 b) ∧ wx.cell? ⟨K, 1, none⟩ = some (.int .i64 1))
    (first | (exact ⟨t5, a0, a1⟩) | (exact ⟨t6, cell_is K6 0 rfl, cell_is K6 1 rfl⟩))
    (first | (go_at_call 125; refine (tread_gen w1.drew hf h3 hn h0 h1).mono ?_; rintro e w6 ⟨g, c', rfl, hc', k6, h6, hg, hB6⟩; have t6 := (hf.need _ h6.env).p5; have K6 := k6.heap K0 (by simp)))
  have hsz : w.heap.size ≤ g := by have := k0.size; have h9 : w1.drew.heap.size = w1.heap.size := rfl; omega
  have how := (Ow.of_chg (base := base) k0.drew).trans k6
  clear h2 h3 t6 K6 k6
  go_wp2_with fail
  go_ret2
  exact ⟨g, c', rfl, hc', how, h6, hsz, hB6⟩
set_option maxRecDepth 100000 in
theorem twrite_gen (w : World) {q : Int → List UInt8} {L : List (Int × Value)} {n E eo cp D o c : Nat} {b : Int} {l : List UInt8} (hf : Fr base d p F) (h : Su w base d p F q L n)
    (e0 : w.cell? ⟨E, eo, none⟩ = some (.int .i64 b)) (e1 : w.cell? ⟨E, eo + 1, none⟩ = some (.slice (some ⟨D, o, none⟩) 40 c)) (hb : Bs w (some ⟨D, o, none⟩) l) (hl : l.length = 40) (h0 : 0 ≤ b) (h1 : b < 258) (hroom : L.length ≤ 15) :
    Calls Tryz.prog 92 #[.pointer (some ⟨d.M, 0, none⟩), .int .i64 p.h, .slice (some ⟨E, eo, none⟩) 1 cp] w fun e w' =>
    ∃ g c', e = .returned (.int .i64 0) ∧ Chg [d.rw] w w' ∧ BufAt w' d.W d.rw (putL L b (.slice (some ⟨g, 0, none⟩) 40 c')) ∧ Bs w' (some ⟨g, 0, none⟩) l ∧ Bt w' g := by
  have t4 : w.cell? ⟨d.T, 4, none⟩ = some (.pointer (some ⟨d.W, 0, none⟩)) := cell_is h.tx 4 rfl
  have HO := Lib.hid (topen_gen w (hf.need _ h.env) h.tx)
  have HW := Lib.hid (wwrite_one w (cp := cp) h.buf e0 e1 hb hl h0 h1 hroom)
  clear h e0 e1 hb hl
  go_enter Tryz.func92, Tryz.ntmps92
  go_wp2_with fail
  refine HO.out.mono ?_
  rintro e w1 ⟨rfl, rfl⟩
  go_wp2_with fail
  refine HW.out.mono ?_
  rintro e w1 ⟨g, c', rfl, k, hbf, hbs, hbt⟩
  go_wp2_with fail
  go_ret
  exact ⟨g, c', rfl, k, hbf, hbs, hbt⟩
theorem putL_keys {L : List (Int × Value)} {b : Int} {v : Value} {P : Int → Prop} (h : ∀ x ∈ L, P x.1) (hb : P b) : ∀ x ∈ putL L b v, P x.1 := by
  induction L with
  | nil => intro x hx; simp [putL] at hx; subst hx; exact hb
  | cons a l ih =>
    intro x hx
    simp only [putL] at hx
    split at hx
    · rcases List.mem_cons.1 hx with rfl | hx
      · exact hb
      · exact h x (List.mem_cons_of_mem _ hx)
    · rcases List.mem_cons.1 hx with rfl | hx
      · exact h _ List.mem_cons_self
      · exact ih (fun y hy => h y (List.mem_cons_of_mem _ hy)) x hx
set_option maxRecDepth 100000 in
theorem swrite_gen (w : World) {q : Int → List UInt8} {L : List (Int × Value)} {n E eo cp D o c : Nat} {b : Int} {l : List UInt8} (hf : Fr base d p F) (h : Su w base d p F q L n)
    (e0 : w.cell? ⟨E, eo, none⟩ = some (.int .i64 b)) (e1 : w.cell? ⟨E, eo + 1, none⟩ = some (.slice (some ⟨D, o, none⟩) 40 c)) (hb : Bs w (some ⟨D, o, none⟩) l) (hl : l.length = 40) (h0 : 0 ≤ b) (h1 : b < 258) (hroom : L.length ≤ 15) :
    Calls Tryz.prog 48 #[.pointer (some ⟨d.P, 0, none⟩), .int .i64 p.h, .slice (some ⟨E, eo, none⟩) 1 cp] w fun e w' =>
    ∃ v, e = .returned (.int .i64 0) ∧ Ow base w w' ∧ Su w' base d p F (putQ q b l) (putL L b v) n := by
  have c5 := (hf.need _ h.env).p5
  have HO := Lib.hid (dead_gen w (hf.need _ h.env))
  have HW := Lib.hid (twrite_gen w (cp := cp) hf h e0 e1 hb hl h0 h1 hroom)
  have HS := Lib.hid h
  have HF := Lib.hid hf
  clear h e0 e1 hb hf
  go_enter Tryz.func48, Tryz.ntmps48
  go_wp2_with fail
  refine HO.out.mono ?_
  rintro e w1 ⟨rfl, rfl⟩
  go_wp2_with fail
  refine HW.out.mono ?_
  rintro e w1 ⟨g, c', rfl, kc, hbf, hbs, hbt⟩
  go_wp2_with fail
  go_ret
  have h := HS.out
  have hr : ∀ {x : Nat} {cs : Array Value} {t : TypeId}, w.heap[x]? = some (.cells cs t (0, 0)) → x ∉ [d.rw] := fun hx => by simpa using (map_cells h.buf.2 hx).symm
  have how : Ow base w w1 := by
    refine ⟨[d.rw], kc, fun x hx => ?_⟩
    rw [List.mem_singleton] at hx
    subst hx
    exact ⟨h.high.2.2, fun cs t fr hh => absurd rfl (map_cells h.buf.2 hh)⟩
  refine ⟨_, rfl, how, HF.out.keep _ _ how h.env, kc.heap h.tx (hr h.tx), hbf, putL_keys (P := fun x => 0 ≤ x ∧ x < 258) h.keys ⟨h0, h1⟩, fun x hx hx' => ?_, h.vw.keep kc (av_map h.buf.2 _), h.sp.keep kc (av_map h.buf.2 _), h.high⟩
  unfold putQ
  by_cases hxb : x = b
  · rw [if_pos hxb]
    exact Or.inr ⟨g, c', by rw [getL_put, if_pos hxb], hbs, hl, hbt⟩
  · rw [if_neg hxb]
    rcases h.blk x hx hx' with ⟨hg, hz⟩ | ⟨g2, c2, hg, hb2, hl2, cs, ht2⟩
    · exact Or.inl ⟨by rw [getL_put, if_neg hxb]; exact hg, hz⟩
    · exact Or.inr ⟨g2, c2, by rw [getL_put, if_neg hxb]; exact hg, hb2.chgT kc (hr ht2), hl2, cs, kc.heap ht2 (hr ht2)⟩
end
end Go.Proofs.YtfodeeejolkkfaaGreat
