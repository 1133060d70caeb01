/- Lemmas and walks: Walks: a span is added to a set of few spans. Walks: a view reads one block. Walks: the store's Read of one block; what stands of a store with one transaction. Walks: the reference's manager is made. Walks: the reference's manager begins a transaction. Walks: a cell is got, set, added to. Walks: numbers as bytes, the least first. Walks: check sums. Walks: rows of bytes one behind the other in a new row. Walks: a frame's bytes. Walks: what a new device, store and world hold beside. Walks: a device whose zones hold blocks. -/
import Derived.Deep.AppendLies
import Derived.Test.YtliicpedddcfiaaGreatProg
import Derived.Laws.BitsAllLaws
import Derived.Test.YtliicpedddcfiaaGreatAa
import Derived.Test.YtliicpedddcfiaaGreatAb
import Derived.Test.YtliicpedddcfiaaGreatAd
namespace Go.Proofs.YtliicpedddcfiaaGreat
open Go.RowKit Go.Lib

/-- a set of at most n spans, whatever they are; its row lies behind base. -/
def SpV (w : World) (base V n : Nat) : Prop := ∃ v l, SpansAt w V v ∧ l.length ≤ n ∧ w.ownsRow base 197 2 v l.length (spCells l)
/-- the blocks of S bear none of these types. -/
def Av (w : World) (S ts : List Nat) : Prop := ∀ x ∈ S, ∀ cs t fr, w.heap[x]? = some (.cells cs t fr) → t ∉ ts
theorem Av.ne {w : World} {S ts : List Nat} (h : Av w S ts) {g : Nat} {cs : Array Value} {t : TypeId} {fr : Nat × Nat} (hg : w.heap[g]? = some (.cells cs t fr)) (ht : t ∈ ts) : g ∉ S := fun hm => h g hm cs t fr hg ht
theorem Av.nil (w : World) (ts : List Nat) : Av w [] ts := fun x hx => by cases hx
theorem SpV.keep {w w' : World} {S : List Nat} {base V n : Nat} (h : SpV w base V n) (hc : Chg S w w') (hS : Av w S [197, 313]) : SpV w' base V n := by
  obtain ⟨v, l, h1, h2, h3⟩ := h
  refine ⟨v, l, hc.heap h1 (hS.ne h1 (by simp)), h2, h3.1, ?_⟩
  rcases h3.2 with hn | ⟨g, cap, cur, hv, hb, hg, rest⟩
  · exact Or.inl hn
  · exact Or.inr ⟨g, cap, cur, hv, hb, hc.heap hg (hS.ne hg (by simp)), rest⟩
theorem SpV.keep0 {w w' : World} {base V n : Nat} (h : SpV w base V n) (hc : Chg [] w w') : SpV w' base V n := h.keep hc (Av.nil _ _)
theorem own_spq {w : World} {base : Nat} {v : Value} {l : List (Int × Int)} (h : w.ownsRow base 197 2 v l.length (spCells l)) : ∃ pa c, v = .slice pa l.length c ∧ SpQ w pa l := by
  cases l with
  | nil =>
    rcases h.2 with ⟨rfl, h0⟩ | ⟨g, cap, cur, rfl, _⟩
    · exact ⟨none, 0, rfl, Or.inl ⟨rfl, rfl⟩⟩
    · exact ⟨_, cap, rfl, Or.inr ⟨g, 0, rfl, fun j u hu => by simp [spCells] at hu⟩⟩
  | cons p l =>
    obtain ⟨g, cap, cur, hv, _, _, hs, _, _⟩ := own_sp h (by simp)
    exact ⟨_, cap, hv, Or.inr ⟨g, 0, rfl, hs⟩⟩
set_option maxRecDepth 100000 in
set_option maxHeartbeats 2000000 in
theorem iadd_one (w : World) {base V n E cp : Nat} {b : Int} (h : SpV w base V n) (hn : n ≤ 11) (hbase : base ≤ w.heap.size) (h0 : 0 ≤ b) (h1 : b < 258) (e0 : w.cell? ⟨E, 0, none⟩ = some (.int .i64 b)) (e1 : w.cell? ⟨E, 1, none⟩ = some (.int .i64 1)) :
    Calls Tryz.prog 178 #[.pointer (some ⟨V, 0, none⟩), .slice (some ⟨E, 0, none⟩) 1 cp] w fun e w' => e = .returned (.int .i64 0) ∧ Chg [V] w w' ∧ SpV w' base V (n + 1) := by
  obtain ⟨v, l, hV, hl, ho⟩ := h
  obtain ⟨pa, c, rfl, hq⟩ := own_spq ho
  have hE : SpQ w (some ⟨E, 0, none⟩) [(b, 1)] := Or.inr ⟨E, 0, rfl, fun j u hu => by
    rw [Nat.zero_add]
    match j with
    | 0 => cases hu; exact e0
    | 1 => cases hu; exact e1
    | j + 2 => simp [spCells] at hu⟩
  have v1 : w.cell? ⟨V, 1, none⟩ = some (.slice pa l.length c) := cell_is hV 1 rfl
  go_enter Tryz.func178, Tryz.ntmps178
  go_wp2_with fail
  refine (iall_one w (cp := cp) h0 h1 e0 e1).mono ?_
  rintro e w1 ⟨rfl, k1⟩
  have v2 := k1.cell v1 (by simp)
  have hq2 := hq.keep k1
  have hE2 := hE.keep k1
  have hV2 := k1.heap hV (by simp)
  have ho2 := ownsRow_chg ho k1
  clear e0 e1 v1 hV hq hE ho
  go_wp2_with fail
  have kx : Chg [] w1 (w1.alloc (.cells #[.slice pa l.length c, .slice (some ⟨E, 0, none⟩) 1 cp] 311)) := Chg.alloc _ _
  have x0 : (w1.alloc (.cells #[.slice pa l.length c, .slice (some ⟨E, 0, none⟩) 1 cp] 311)).cell? ⟨w1.heap.size, 0, none⟩ = some (.slice pa l.length c) := cell_is (heap_new w1 _) 0 rfl
  have x1 : (w1.alloc (.cells #[.slice pa l.length c, .slice (some ⟨E, 0, none⟩) 1 cp] 311)).cell? ⟨w1.heap.size, 1, none⟩ = some (.slice (some ⟨E, 0, none⟩) 1 cp) := cell_is (heap_new w1 _) 1 rfl
  refine (concat_two _ x0 x1 rfl rfl (by omega) (by omega) (by omega) (hq2.keep kx) (hE2.keep kx)).mono ?_
  rintro e w2 ⟨v', rfl, k2, o2⟩
  obtain ⟨g, cap, cur, rfl, hgb, hgc, hgs, _, hgl⟩ := own_sp o2 (by simp)
  have k3 := (k1.then kx).then k2
  go_wp2_with fail
  refine (joined_any w2 hgl (by omega) (by omega) hgs).mono ?_
  rintro e w3 ⟨v3, k, l3, rfl, k4, hk, hl3, o3⟩
  have k5 := k3.then k4
  have hV3 : SpansAt w3 V (.slice pa l.length c) := ((kx.then k2).then k4).heap hV2 (by simp)
  have c0 : w3.cell? ⟨V, 0, none⟩ = some (.int .i64 64) := cell_is hV3 0 rfl
  have c1 : w3.cell? ⟨V, 1, none⟩ = some (.slice pa l.length c) := cell_is hV3 1 rfl
  have f1 := unfrozen hV3 1
  obtain ⟨pq, cq, hv3, hcq⟩ := own_form o3
  subst hv3
  have hsz := k3.size
  have HF := Lib.hid (show SpV (w3.setCell ⟨V, 1, none⟩ (.slice pq k cq)) base V (n + 1) from by
    refine ⟨_, l3, heap_set hV3 1 _ rfl, by omega, ?_⟩
    have kk := Chg.set w3 V 1 (.slice pq k cq)
    refine ownsRow_base (base := w2.heap.size) ?_ (by omega)
    rw [hl3]
    refine ownsRow_chg o3 kk ?_
    intro x hx
    have := heap_lt hV2
    have := (kx.then k2).size
    simp at hx
    omega)
  clear k3 k4 o3 hV3 hV2 x0 x1 hgs hgc o2 hq2 hE2
  have hcmp : ¬ ((k : Int) > 64) := by omega
  go_wp2_with fail
  go_ret
  exact ⟨rfl, (k5.mono (T := [V]) (fun x hx _ => by cases hx)).then (Chg.set w3 V 1 _), HF.out⟩
end Go.Proofs.YtliicpedddcfiaaGreat
namespace Go.Proofs.YtliicpedddcfiaaGreat
open Go.RowKit Go.Lib

theorem ty68 : Tryz.prog.underlying 49 = some (.slice 144) := by kernel_rfl
theorem inf285 : (Tryz.prog.info? 144).map (fun i => (i.zero, i.size, i.bytes)) = some (some (.agg #[.int .i64 0, .slice none 0 0, .bool false]), 3, 40) := by kernel_rfl
/-- one read is put behind reads of an own row, as a step of a region that draws. -/
theorem step_append_rd {ops : Array Oper} {o : Oper} {a : Act} {w : World} {K : Act → World → Prop} {Q : Exit → Act → World → Prop} {E : Prop} (hgd : o.guard = none) (s x : Operand)
    (ho : o.op = .call { callee := .builtin .append, args := #[s, x], argTypes := #[49, 49] }) (base : Nat) (v : Value) (n : Nat) (xs : List Value) (hs : a.eval s = v) (hown : w.ownsRow base 144 3 v n xs) (b c : Nat) (u0 u1 u2 : Value)
    (hx : a.eval x = .slice (some ⟨b, 0, none⟩) 1 c) (c0 : w.cell? ⟨b, 0, none⟩ = some u0) (c1 : w.cell? ⟨b, 1, none⟩ = some u1) (c2 : w.cell? ⟨b, 2, none⟩ = some u2) (h1 : u0.oneCell' = true ∧ u1.oneCell' = true ∧ u2.oneCell' = true) (hn : n ≤ 1000000) (hbase : base ≤ w.heap.size)
    (h : ∀ g cap w', w'.ownsRow base 144 3 (.slice (some ⟨g, 0, none⟩) (n + 1) cap) (n + 1) (xs ++ [u0, u1, u2]) → Chg v.ownBlock.toList w w' → K (a.put o.dst (.slice (some ⟨g, 0, none⟩) (n + 1) cap)) w') :
    if Region.wanted o (yielded ops a.tmps) = true then Oper.wp Tryz.prog o a w K Q else E := by
  obtain ⟨i, hi0, hz, hz1, hz2⟩ := info_parts inf285
  refine step_append_lies w hgd s x 49 ho base 144 i _ 3 40 ty68 hi0 hz hz1 hz2 rfl (by decide) v n xs hs hown ⟨b, 0, none⟩ 1 c [u0, u1, u2] hx rfl ?_ ?_ (by decide) (by unfold maxLen; omega) (by omega) hbase _ rfl ?_
  · intro j u hu
    rw [add_lit, Nat.zero_add]
    match j with
    | 0 => cases hu; exact c0
    | 1 => cases hu; exact c1
    | 2 => cases hu; exact c2
    | j + 3 => simp at hu
  · intro u hu
    simp at hu
    rcases hu with rfl | rfl | rfl
    · exact h1.1
    · exact h1.2.1
    · exact h1.2.2
  · intro g cap w' h2 h3 _ _
    refine h g cap w' h2 ?_
    cases hv : v.ownBlock with
    | none => rw [hv] at h3; exact Chg.of_grown0 h3
    | some k => rw [hv] at h3; exact Chg.of_grown h3
/-- a block's bytes in a buffer, or noughts. -/
def Blk (w : World) (L : List (Int × Value)) (b : Int) (l : List UInt8) : Prop := (getL L b = none ∧ l = zeroB) ∨ ∃ g c, getL L b = some (.slice (some ⟨g, 0, none⟩) 40 c) ∧ Bs w (some ⟨g, 0, none⟩) l ∧ l.length = 40 ∧ Bt w g
/-- a view, with at most n reads in a row behind base. -/
def Vw (w : World) (base Q X W V n : Nat) : Prop := ∃ s m xs, ViewAt w Q X W V s ∧ m ≤ n ∧ w.ownsRow base 144 3 s m xs
theorem Vw.keep {w w' : World} {S : List Nat} {base Q X W V n : Nat} (h : Vw w base Q X W V n) (hc : Chg S w w') (hS : Av w S [258, 144]) : Vw w' base Q X W V n := by
  obtain ⟨s, m, xs, h1, h2, h3⟩ := h
  refine ⟨s, m, xs, hc.heap h1 (hS.ne h1 (by simp)), h2, h3.1, ?_⟩
  rcases h3.2 with hn | ⟨g, cap, cur, hv, hb, hg, rest⟩
  · exact Or.inl hn
  · exact Or.inr ⟨g, cap, cur, hv, hb, hc.heap hg (hS.ne hg (by simp)), rest⟩
theorem Blk.len {w : World} {L : List (Int × Value)} {b : Int} {l : List UInt8} (h : Blk w L b l) : l.length = 40 := by
  rcases h with ⟨_, rfl⟩ | ⟨g, c, _, _, h, _⟩
  · rfl
  · exact h
/-- a buffer's Get. -/
theorem bget_any (w : World) {W rw : Nat} {L : List (Int × Value)} {b : Int} {l : List UInt8} (h : BufAt w W rw L) (hb : Blk w L b l) : Calls Tryz.prog 179 #[.pointer (some ⟨W, 0, none⟩), .int .i64 b] w fun e w' =>
    (e = .returned (.tuple #[.slice none 0 0, .bool false]) ∧ l = zeroB ∧ w = w') ∨ ∃ g' c', e = .returned (.tuple #[.slice (some ⟨g', 0, none⟩) 40 c', .bool true]) ∧ Chg [] w w' ∧ Bs w' (some ⟨g', 0, none⟩) l ∧ w.heap.size ≤ g' := by
  rcases hb with ⟨h1, h2⟩ | ⟨g, c, h1, h2, h3, _⟩
  · exact (bget_none w h h1).mono fun e w' ⟨he, hw⟩ => Or.inl ⟨he, h2, hw⟩
  · exact (bget_some w h h1 h2 h3).mono fun e w' hh => Or.inr hh
/-- the blocks of T are those of a transaction's reads: a view, a set of spans, a row of reads. -/
def Rt (w : World) (base : Nat) (T : List Nat) : Prop := ∀ x ∈ T, base ≤ x ∧ ∃ cs t fr, w.heap[x]? = some (.cells cs t fr) ∧ (t = 258 ∨ t = 313 ∨ t = 144)
theorem Rt.cells {w : World} {base : Nat} {T : List Nat} (h : Rt w base T) {g : Nat} {cs : Array Value} {t : TypeId} {fr : Nat × Nat} (hg : w.heap[g]? = some (.cells cs t fr)) (ht : t ≠ 258 ∧ t ≠ 313 ∧ t ≠ 144) : g ∉ T := by
  intro hm
  obtain ⟨_, cs', t', fr', h1, h2⟩ := h g hm
  rw [hg] at h1
  cases h1
  rcases h2 with h | h | h
  · exact ht.1 h
  · exact ht.2.1 h
  · exact ht.2.2 h
theorem Rt.map {w : World} {base : Nat} {T : List Nat} (h : Rt w base T) {r : Nat} {L : List (Int × Value)} (hg : MapAt w r L) : r ∉ T := by
  intro hm
  obtain ⟨_, cs', t', fr', h1, _⟩ := h r hm
  exact map_cells hg h1 rfl
theorem Rt.low {w : World} {base : Nat} {T : List Nat} (h : Rt w base T) {g : Nat} (hg : g < base) : g ∉ T := fun hm => by have := (h g hm).1; omega
/-- what a view's Read holds on to. -/
structure Vr (w : World) (Q X rx W rw : Nat) (L : List (Int × Value)) (b : Int) (l : List UInt8) : Prop where
  ver : VerAt w X rx
  buf : BufAt w W rw L
  blk : Blk w L b l
theorem Blk.keepT {w w' : World} {T : List Nat} {base : Nat} {L : List (Int × Value)} {b : Int} {l : List UInt8} (h : Blk w L b l) (hc : Chg T w w') (hT : Rt w base T) : Blk w' L b l := by
  rcases h with h | ⟨g, c, h1, h2, h3, cs, hcs⟩
  · exact Or.inl h
  · have hg := hT.cells hcs (by simp)
    exact Or.inr ⟨g, c, h1, h2.chgT hc hg, h3, cs, hc.heap hcs hg⟩
theorem Rt.nil (w : World) (base : Nat) : Rt w base [] := fun x hx => by cases hx
theorem Blk.keep {w w' : World} {L : List (Int × Value)} {b : Int} {l : List UInt8} (h : Blk w L b l) (hc : Chg [] w w') : Blk w' L b l := h.keepT hc (Rt.nil w 0)
theorem VerAt.keep0 {w w' : World} {X rx : Nat} (h : VerAt w X rx) (hc : Chg [] w w') : VerAt w' X rx := ⟨hc.heap h.1 (by simp), h.2.keep hc (by simp)⟩
theorem ownsRow_chgV {w w' : World} {V : Nat} {base n : Nat} {v : Value} {xs : List Value} {v2 : Value} (h : w.ownsRow base 144 3 v n xs) (hc : Chg [V] w w') (hV : SpansAt w V v2) : w'.ownsRow base 144 3 v n xs := by
  refine ⟨h.1, ?_⟩
  rcases h.2 with hn | ⟨g, cap, cur, hv, hb, hg, rest⟩
  · exact Or.inl hn
  · exact Or.inr ⟨g, cap, cur, hv, hb, hc.heap hg (by simpa using heap_ne hg hV (by simp)), rest⟩
theorem chg_setRow (w : World) (g : Nat) (cs : Array Value) : Chg [g] w (w.setRow g cs) := ⟨rfl, rfl, rfl, by simp [World.setRow], fun k _ hs => setRow_other w g k cs (fun e => hs (by simp [e]))⟩
theorem ownsRow_chg2 {w w' : World} {g : Nat} {base n : Nat} {v : Value} {xs : List Value} {cs : Array Value} (h : w.ownsRow base 144 3 v n xs) (hc : Chg [g] w w') (hV : w.heap[g]? = some (.cells cs 5 (0, 0))) : w'.ownsRow base 144 3 v n xs := by
  refine ⟨h.1, ?_⟩
  rcases h.2 with hn | ⟨k, cap, cur, hv, hb, hg, rest⟩
  · exact Or.inl hn
  · exact Or.inr ⟨k, cap, cur, hv, hb, hc.heap hg (by simpa using heap_ne hg hV (by simp)), rest⟩
theorem own_block_ne {w : World} {g : Nat} {base n e size : Nat} {v : Value} {xs : List Value} {cs : Array Value} {t : TypeId} {fr : Nat × Nat} (h : w.ownsRow base e size v n xs) (hg : w.heap[g]? = some (.cells cs t fr)) (ht : t ≠ e) : g ∉ v.ownBlock.toList := by
  rcases h.2 with ⟨rfl, _⟩ | ⟨k, cap, cur, rfl, hb, hk, rest⟩
  · simp [Value.ownBlock]
  · simpa [Value.ownBlock] using heap_ne hg hk (by intro e; cases e; exact ht rfl)
theorem ownsRow_av {w w' : World} {S : List Nat} {base n e size : Nat} {v : Value} {xs : List Value} (h : w.ownsRow base e size v n xs) (hc : Chg S w w') (hS : Av w S [e]) : w'.ownsRow base e size v n xs := by
  refine ⟨h.1, ?_⟩
  rcases h.2 with hn | ⟨g, cap, cur, hv, hb, hg, rest⟩
  · exact Or.inl hn
  · exact Or.inr ⟨g, cap, cur, hv, hb, hc.heap hg (hS.ne hg (by simp)), rest⟩
/-- what stands behind a Read's last store. -/
theorem vread_end {w wb wc w5 : World} {base Q X W V n m g g5 cp5 : Nat} {s : Value} {xs : List Value} {ys : List Value} {l : List UInt8} {Cb : Array Value} (HRt : Rt w base (V :: Q :: s.ownBlock.toList)) (k9 : Chg [V] w wb) (ky : Chg [] wb wc) (hm : m ≤ n) (hB : Bs wb (some ⟨g, 0, none⟩) l)
    (gy : wc.heap[g]? = some (.cells Cb 5 (0, 0))) (hgn : g ∉ s.ownBlock.toList) (hgQ : Q ∉ [g]) (oy : wc.ownsRow base 144 3 s m xs) (qy : ViewAt wc Q X W V s) (hQn : Q ∉ s.ownBlock.toList) (sb : SpV wc base V (n + 1))
    (o5 : w5.ownsRow base 144 3 (.slice (some ⟨g5, 0, none⟩) (m + 1) cp5) (m + 1) ys) (k5 : Chg s.ownBlock.toList wc w5) :
    ∃ T, Chg T w (w5.setCell ⟨Q, 4, none⟩ (.slice (some ⟨g5, 0, none⟩) (m + 1) cp5)) ∧ Rt w base T ∧ Bs (w5.setCell ⟨Q, 4, none⟩ (.slice (some ⟨g5, 0, none⟩) (m + 1) cp5)) (some ⟨g, 0, none⟩) l ∧ Vw (w5.setCell ⟨Q, 4, none⟩ (.slice (some ⟨g5, 0, none⟩) (m + 1) cp5)) base Q X W V (n + 1) ∧ SpV (w5.setCell ⟨Q, 4, none⟩ (.slice (some ⟨g5, 0, none⟩) (m + 1) cp5)) base V (n + 1) := by
  have q5 := k5.heap qy hQn
  have g5h := k5.heap gy hgn
  have kS := Chg.set w5 Q 4 (.slice (some ⟨g5, 0, none⟩) (m + 1) cp5)
  have hgQ' : g ∉ [Q] := by simpa using (fun e => hgQ (by simp [e]))
  have hav : Av wc s.ownBlock.toList [197, 313] := by
    intro x hx cs t fr hh
    rcases oy.2 with ⟨rfl, _⟩ | ⟨k, cap, cur, rfl, hb, hk, rest⟩
    · simp [Value.ownBlock] at hx
    · simp [Value.ownBlock] at hx
      subst hx
      rw [hk] at hh
      cases hh
      simp
  have hq1 : Av w5 [Q] [197, 313] := fun x hx cs t fr hh => by
    rw [List.mem_singleton] at hx; subst hx; rw [q5] at hh; cases hh; simp
  have hq2 : Av w5 [Q] [144] := fun x hx cs t fr hh => by
    rw [List.mem_singleton] at hx; subst hx; rw [q5] at hh; cases hh; simp
  refine ⟨V :: Q :: s.ownBlock.toList, ?_, HRt, ((hB.chg ky).chgT k5 hgn).chgT kS hgQ', ⟨_, m + 1, ys, heap_set q5 4 _ rfl, by omega, ownsRow_av o5 kS hq2⟩, (sb.keep k5 hav).keep kS hq1⟩
  refine (((k9.mono ?_).then (ky.mono ?_)).then (k5.mono ?_)).then (kS.mono ?_)
  · intro x hx _; simp at hx; simp [hx]
  · intro x hx _; cases hx
  · intro x hx _; simp only [List.mem_cons]; exact Or.inr (Or.inr hx)
  · intro x hx _; simp at hx; simp [hx]
theorem Bs.cells_at {w : World} {g : Nat} {l : List UInt8} (h : Bs w (some ⟨g, 0, none⟩) l) : ∀ j v, (Lib.byteCells l)[j]? = some v → w.cell? ((⟨g, 0, none⟩ : Addr).add j) = some v := by
  intro j u hu
  rcases h with rfl | ⟨b, off, e, hb, hc⟩
  · simp [Lib.byteCells] at hu
  · cases e
    have hj : j < l.length := by
      rcases Nat.lt_or_ge j l.length with h | h
      · exact h
      · rw [List.getElem?_eq_none (by simpa [Lib.byteCells] using h)] at hu; cases hu
    rw [add_lit, hc j hj, ← hu]
    simp [Lib.byteCells, hj]
theorem byteCells_one (l : List UInt8) : ∀ v ∈ Lib.byteCells l, v.oneCell' = true := by
  intro u hu
  simp only [Lib.byteCells, List.mem_map] at hu
  obtain ⟨x, _, rfl⟩ := hu
  rfl
set_option maxRecDepth 100000 in
set_option maxHeartbeats 20000000 in
theorem vread_one (w : World) {base Q X rx W rw V n : Nat} {L : List (Int × Value)} {b : Int} {l : List UInt8} (hX : VerAt w X rx) (hW : BufAt w W rw L) (hB : Blk w L b l) (hV : Vw w base Q X W V n) (hS : SpV w base V n) (hn : n ≤ 11) (hbase : base ≤ Q ∧ base ≤ V) (h0 : 0 ≤ b) (h1 : b < 258) :
    Calls Tryz.prog 148 #[.pointer (some ⟨Q, 0, none⟩), .agg #[.int .i64 b, .int .i64 1]] w fun e w' =>
    ∃ g c' T, e = .returned (.tuple #[.slice (some ⟨g, 0, none⟩) 40 c', .int .i64 0]) ∧ 40 ≤ c' ∧ Chg T w w' ∧ Rt w base T ∧ w.heap.size ≤ g ∧ Bs w' (some ⟨g, 0, none⟩) l ∧ Vw w' base Q X W V (n + 1) ∧ SpV w' base V (n + 1) := by
  have k0 : Chg [] w (w.alloc (.cells #[.int .i64 b, .int .i64 1] 197)) := Chg.alloc w _
  have K0 := heap_new w (.cells #[.int .i64 b, .int .i64 1] 197)
  have hX1 := hX.keep0 k0
  have hW1 := hW.keep k0 (by simp) (by simp)
  have hB1 := hB.keep k0
  obtain ⟨s, m, xs, qw, hm, how⟩ := hV
  have q := k0.heap qw (by simp)
  have ho := ownsRow_chg how k0
  have hS1 := hS.keep0 k0
  have HRt : Rt w base (V :: Q :: s.ownBlock.toList) := by
    intro x hx
    simp only [List.mem_cons] at hx
    rcases hx with rfl | rfl | hx
    · exact ⟨hbase.2, _, _, _, hS.choose_spec.choose_spec.1, by simp⟩
    · exact ⟨hbase.1, _, _, _, qw, by simp⟩
    · rcases how.2 with ⟨rfl, _⟩ | ⟨k, cap, cur, rfl, hb, hk, rest⟩
      · simp [Value.ownBlock] at hx
      · simp [Value.ownBlock] at hx
        subst hx
        exact ⟨hb, _, _, _, hk, by simp⟩
  clear qw how
  have q0 : (w.alloc (.cells #[.int .i64 b, .int .i64 1] 197)).cell? ⟨Q, 0, none⟩ = some (.pointer (some ⟨X, 0, none⟩)) := cell_is q 0 rfl
  have q1 : (w.alloc (.cells #[.int .i64 b, .int .i64 1] 197)).cell? ⟨Q, 1, none⟩ = some (.pointer (some ⟨W, 0, none⟩)) := cell_is q 1 rfl
  have q2 : (w.alloc (.cells #[.int .i64 b, .int .i64 1] 197)).cell? ⟨Q, 2, none⟩ = some (.int .i64 0) := cell_is q 2 rfl
  have q3 : (w.alloc (.cells #[.int .i64 b, .int .i64 1] 197)).cell? ⟨Q, 3, none⟩ = some (.pointer (some ⟨V, 0, none⟩)) := cell_is q 3 rfl
  have a0 : (w.alloc (.cells #[.int .i64 b, .int .i64 1] 197)).cell? ⟨w.heap.size, 0, none⟩ = some (.int .i64 b) := cell_is K0 0 rfl
  have a1 : (w.alloc (.cells #[.int .i64 b, .int .i64 1] 197)).cell? ⟨w.heap.size, 1, none⟩ = some (.int .i64 1) := cell_is K0 1 rfl
  go_enter Tryz.func148, Tryz.ntmps148
  go_wp2_with fail
  go_step3
  go_wp2_with fail
  generalize w.alloc (.cells #[.int .i64 b, .int .i64 1] 197) = w1 at *
  generalize hK : w.heap.size = K at *
  go_region_held3 (fun wx => wx.cell? ⟨Q, 0, none⟩ = some (.pointer (some ⟨X, 0, none⟩)) ∧ wx.cell? ⟨Q, 2, none⟩ = some (.int .i64 0) ∧ wx.cell? ⟨K, 0, none⟩ = some (.int .i64 b) ∧ wx.cell? ⟨K, 1, none⟩ = some (.int .i64 1))
    (first | (exact ⟨q0, q2, a0, a1⟩) | (exact ⟨k2.cell q0 (by simp), k2.cell q2 (by simp), k2.cell a0 (by simp), k2.cell a1 (by simp)⟩))
    (first | (go_at_call 177; refine (range_one w1.drew (hX1.keep0 (Chg.refl [] w1).drew) h0 h1).mono ?_; rintro e w2 ⟨g, c', rfl, hc', k2, o2⟩))
  have kk2 := (Chg.refl [] w1).drew.then k2
  have q := kk2.heap q (by simp)
  have K0 := kk2.heap K0 (by simp)
  have ho := ownsRow_chg ho kk2
  have hW2 := hW1.keep kk2 (by simp) (by simp)
  have hB2 := hB1.keep kk2
  have hS2 := hS1.keep0 kk2
  have hK2 : K ≤ w2.heap.size := by have := k0.size; have := kk2.size; omega
  have ho2 : w2.ownsRow K 5 1 (.slice (some ⟨g, 0, none⟩) 40 c') 40 (Lib.byteCells zeroB) := ownsRow_base o2 (by have := k0.size; show K ≤ w1.heap.size; omega)
  have kk := k0.then kk2
  clear q0 q1 q2 q3 a0 a1 hX1 hW1 hB1 hS1 o2 k0 k2 kk2
  have q3 : w2.cell? ⟨Q, 3, none⟩ = some (.pointer (some ⟨V, 0, none⟩)) := cell_is q 3 rfl
  have a0 : w2.cell? ⟨K, 0, none⟩ = some (.int .i64 b) := cell_is K0 0 rfl
  have a1 : w2.cell? ⟨K, 1, none⟩ = some (.int .i64 1) := cell_is K0 1 rfl
  go_wp2_with fail
  have kx : Chg [] w2 (w2.drew.alloc (.cells #[.int .i64 b, .int .i64 1] 197)) := (Chg.refl [] w2).drew.then_alloc _
  have kx0 := heap_new w2.drew (.cells #[.int .i64 b, .int .i64 1] 197)
  have hVK : V ≠ K := by obtain ⟨_, _, hh, _⟩ := hS2; exact heap_ne hh K0 (by simp)
  have hVQ : V ≠ Q := by obtain ⟨_, _, hh, _⟩ := hS2; exact heap_ne hh q (by simp)
  have hbw : base ≤ (w2.drew.alloc (.cells #[.int .i64 b, .int .i64 1] 197)).heap.size := by have := heap_lt q; have := kx.size; omega
  have kx2 : Chg [V] w2 (w2.drew.alloc (.cells #[.int .i64 b, .int .i64 1] 197)) := kx.mono (fun x hx _ => by cases hx)
  go_region_held3 (fun wx => wx.cell? ⟨Q, 3, none⟩ = some (.pointer (some ⟨V, 0, none⟩)) ∧ wx.cell? ⟨K, 0, none⟩ = some (.int .i64 b) ∧ wx.cell? ⟨K, 1, none⟩ = some (.int .i64 1))
    (first | (exact ⟨q3, a0, a1⟩) | (exact ⟨kx.cell q3 (by simp), kx.cell a0 (by simp), kx.cell a1 (by simp)⟩) | (exact ⟨(kx2.then k3).cell q3 (by simpa using hVQ.symm), (kx2.then k3).cell a0 (by simpa using hVK.symm), (kx2.then k3).cell a1 (by simpa using hVK.symm)⟩))
    (first | (go_at_call 178; refine (iadd_one (w2.drew.alloc (.cells #[.int .i64 b, .int .i64 1] 197)) (base := base) (V := V) (n := n) (E := w2.drew.heap.size) (hS2.keep0 kx) hn hbw h0 h1 (cell_is kx0 0 rfl) (cell_is kx0 1 rfl)).mono ?_; rintro e w3 ⟨rfl, k3, hS3⟩))
  have k4 := kx2.then k3
  have hR4 : Rt w2 base [V] := fun x hx => by
    rw [List.mem_singleton] at hx
    subst hx
    obtain ⟨_, _, hh, _⟩ := hS2
    exact ⟨hbase.2, _, _, _, hh, by simp⟩
  have q := k4.heap q (by simpa using hVQ.symm)
  have K0 := k4.heap K0 (by simpa using hVK.symm)
  have hW3 := hW2.keep k4 (hR4.cells hW2.1 (by simp)) (hR4.map hW2.2)
  have hB3 := hB2.keepT k4 hR4
  have hz : Bs w2 (some ⟨g, 0, none⟩) zeroB ∧ Bt w2 g ∧ K ≤ g := by
    rcases ho2.2 with ⟨e, h0⟩ | ⟨g', cap, cur, e, hA, hgt, _⟩
    · cases h0
    · cases e; exact ⟨Bs.own ho2, ⟨_, hgt⟩, hA⟩
  have hgV : g ∉ [V] := hR4.cells hz.2.1.choose_spec (by simp)
  have kw3 : Chg [V] w w3 := (kk.mono (fun x hx _ => by cases hx)).then k4
  have hRw : Rt w base [V] := fun x hx => by
    rw [List.mem_singleton] at hx
    subst hx
    obtain ⟨_, _, hh, _⟩ := hS
    exact ⟨hbase.2, _, _, _, hh, by simp⟩
  have ho3 := ownsRow_chgV ho k4 hS2.choose_spec.choose_spec.1
  obtain ⟨cur, hg3, hcur⟩ : ∃ cur, w3.heap[g]? = some (.cells cur 5 (0, 0)) ∧ cur.size = c' * 1 ∧ cur.toList.take (40 * 1) = Lib.byteCells zeroB := by
    rcases ho2.2 with ⟨e, h0⟩ | ⟨g', cap, cur, e, hA, hgt, _, _, hsz, htk⟩
    · cases h0
    · cases e; exact ⟨cur, k4.heap hgt hgV, hsz, htk⟩
  have HC := Lib.hid hcur
  clear hcur
  have hgK := hz.2.2
  clear q3 a0 a1 hW2 hB2 hS2 hz ho2 kx kx2 kx0 k3 k4 hR4 hgV hX hW hS kk hbw hB
  clear ho
  have a0 : w3.cell? ⟨K, 0, none⟩ = some (.int .i64 b) := cell_is K0 0 rfl
  have a1 : w3.cell? ⟨K, 1, none⟩ = some (.int .i64 1) := cell_is K0 1 rfl
  have q1 : w3.cell? ⟨Q, 1, none⟩ = some (.pointer (some ⟨W, 0, none⟩)) := cell_is q 1 rfl
  have q4 : w3.cell? ⟨Q, 4, none⟩ = some s := cell_is q 4 rfl
  go_wp2_with fail
  go_step3
  go_wp2_with fail
  have hb0 : IntKind.i64.wrap b = b := by rw [IntKind.wrap_i64]; omega
  go_loopw [55] (fun i wr => (i = .int .i64 0 ∧ wr = w3) ∨ (i = .int .i64 1 ∧ ∃ T, Chg T w wr ∧ Rt w base T ∧ Bs wr (some ⟨g, 0, none⟩) l ∧ Vw wr base Q X W V (n + 1) ∧ SpV wr base V (n + 1))) (fun i _ => 1 - (intOf i).toNat)
  case atStart => exact Or.inl ⟨rfl, rfl⟩
  case round =>
    rcases hrel with ⟨rfl, rfl⟩ | ⟨rfl, T, kT, hT, hBs, hVw, hSp⟩
    · rcases hB3 with ⟨hg0, rfl⟩ | ⟨gb, cb, hg1, hbs, hl40, hbt⟩
      · go_wp2_with fail
        go_region_held3 (fun wx => wx.cell? ⟨Q, 1, none⟩ = some (.pointer (some ⟨W, 0, none⟩)) ∧ wx.cell? ⟨K, 0, none⟩ = some (.int .i64 b)) (first | (exact ⟨q1, a0⟩))
          (first | (go_at_call 179; refine (bget_none wr.drew (hW3.keep (Chg.refl [] wr).drew (by simp) (by simp)) hg0).mono ?_; rintro e wa ⟨rfl, rfl⟩))
        have k7 : Chg [] wr wr.drew := (Chg.refl [] wr).drew
        have hgb : wr.drew.heap[g]? = some (.cells cur 5 (0, 0)) := hg3
        have qb : ViewAt wr.drew Q X W V s := q
        have Kb : wr.drew.heap[K]? = some (.cells #[.int .i64 b, .int .i64 1] 197 (0, 0)) := K0
        have ob := ownsRow_chg ho3 k7
        have sb := hS3.keep0 k7
        have k9 : Chg [V] w wr.drew := kw3.drew
        have hBb : Bs wr.drew (some ⟨g, 0, none⟩) zeroB := Bs.block hgb (by have := HC.out.2; rw [show zeroB.length = 40 from rfl]; simpa using this)
        have hKQ : K ≠ Q := heap_ne Kb qb (by simp)
        have hgQ : Q ∉ [g] := by simpa using heap_ne qb hgb (by simp)
        clear hg3 q K0 ho3 hS3 kw3 k7 hW3 q1 a0 a1 q4
        generalize wr.drew = wb at *
        have a0 : wb.cell? ⟨K, 0, none⟩ = some (.int .i64 b) := cell_is Kb 0 rfl
        have q4 : wb.cell? ⟨Q, 4, none⟩ = some s := cell_is qb 4 rfl
        have a0d : wb.drew.cell? ⟨K, 0, none⟩ = some (.int .i64 b) := a0
        have q4d : wb.drew.cell? ⟨Q, 4, none⟩ = some s := q4
        have HBb := Lib.hid hBb
        go_wp2_with fail
        go_region_law
          (first
            | (go_simp; go_at_call 47; refine (clone_bs wb.drew (l := zeroB) (m := 40) rfl (by decide) (by decide) (HBb.out.chg (Chg.refl [] wb).drew)).mono ?_; rintro e w6 ⟨g2, c2, rfl, k6, _, _⟩; have a06 := k6.cell a0d (by simp); have q46 := k6.cell q4d (by simp); have ky : Chg [] wb (w6.alloc (.cells #[.int .i64 b, .slice (some ⟨g2, 0, none⟩) 40 c2, .bool false] 144)) := ((Chg.refl [] wb).drew.then k6).then_alloc _; have y0 := heap_new w6 (.cells #[.int .i64 b, .slice (some ⟨g2, 0, none⟩) 40 c2, .bool false] 144); have oy := ownsRow_chg ob ky; have qy := ky.heap qb (by simp); have q4y := cell_is qy 4 rfl; have a0y := cell_is (ky.heap Kb (by simp)) 0 rfl; have hQn := own_block_ne oy qy (by decide); have hby : base ≤ (w6.alloc (.cells #[.int .i64 b, .slice (some ⟨g2, 0, none⟩) 40 c2, .bool false] 144)).heap.size := (by have := heap_lt qy; omega); have gy := ky.heap hgb (by simp); have hgn := own_block_ne oy gy (by decide))
            | (refine step_append_rd rfl (.tmp 100) (.tmp 108) rfl base _ m xs rfl oy w6.heap.size 1 _ _ _ rfl (cell_is y0 0 rfl) (cell_is y0 1 rfl) (cell_is y0 2 rfl) ⟨rfl, rfl, rfl⟩ (by omega) hby ?_; intro g5 cp5 w5 o5 k5; have q5 := k5.heap qy hQn; have q45 := cell_is q5 4 rfl; have f45 := unfrozen q5 4))
        all_goals
          have HZ := Lib.hid (vread_end HRt k9 ky hm HBb.out gy hgn hgQ oy qy hQn (sb.keep0 ky) (g5 := g5) (cp5 := cp5) (w5 := w5) o5 k5)
          clear HBb gy hgn sb o5 k5 q5 f45 q45 hBb
          go_wp2_with fail
          go_roundw
          case rel => exact Or.inr ⟨rfl, HZ.out⟩
          case measure => decide
      · have HG := Lib.hid hg1
        have HL := Lib.hid hl40
        have HB := Lib.hid hbs
        clear hg1 hl40 hbs
        go_wp2_with fail
        go_region_held3 (fun wx => wx.cell? ⟨Q, 1, none⟩ = some (.pointer (some ⟨W, 0, none⟩)) ∧ wx.cell? ⟨K, 0, none⟩ = some (.int .i64 b)) (first | (exact ⟨q1, a0⟩) | (exact ⟨k6.cell q1 (by simp), k6.cell a0 (by simp)⟩))
          (first | (go_at_call 179; refine (bget_some wr.drew (hW3.keep (Chg.refl [] wr).drew (by simp) (by simp)) HG.out HB.out HL.out).mono ?_; rintro e wa ⟨g2, c2, rfl, k6, hbs6, l6⟩))
        have k7 := (Chg.refl [] wr).drew.then k6
        have hga := k7.heap hg3 (by simp)
        have hqa := k7.heap q (by simp)
        have hKa := k7.heap K0 (by simp)
        have hoa := ownsRow_chg ho3 k7
        have hSa := hS3.keep0 k7
        have k8 := kw3.then (k7.mono (T := [V]) (fun x hx _ => by cases hx))
        have hsrc : ∀ j v, (Lib.byteCells l)[j]? = some v → wa.cell? ((⟨g2, 0, none⟩ : Addr).add j) = some v := hbs6.cells_at
        have hlc : (Lib.byteCells l).length = 40 := by simpa [Lib.byteCells] using HL.out
        have H1 := Lib.hid hsrc
        have H2 := Lib.hid hlc
        have hfit : 0 + (Lib.byteCells l).length ≤ cur.size := by have := HC.out.1; omega
        have H3 := Lib.hid hfit
        clear hsrc hlc hfit
        go_wp2_with (refine wpList_copy_own rfl (.tmp 78) (.tmp 79) 34 34 rfl 5 ty23 (by kernel_rfl) g 0 40 c' ⟨g2, 0, none⟩ 40 c2 rfl rfl cur 5 hga (Lib.byteCells l) H2.out H1.out H3.out (fun v hv => byteCells_one l v hv) ?_)
        have kb : Chg [g] wa (wa.setRow g (List.take 0 cur.toList ++ (Lib.byteCells l ++ List.drop (0 + (Lib.byteCells l).length) cur.toList)).toArray) := chg_setRow _ _ _
        have hgb := setRow_heap wa g cur (List.take 0 cur.toList ++ (Lib.byteCells l ++ List.drop (0 + (Lib.byteCells l).length) cur.toList)).toArray 5 (0, 0) hga
        have hBb : Bs (wa.setRow g (List.take 0 cur.toList ++ (Lib.byteCells l ++ List.drop (0 + (Lib.byteCells l).length) cur.toList)).toArray) (some ⟨g, 0, none⟩) l := Bs.block hgb (by rw [HL.out, List.take_zero, List.nil_append, List.toList_toArray]; rw [show (40 : Nat) = (Lib.byteCells l).length from H2.out.symm]; exact List.take_left)
        generalize hwb : (wa.setRow g (List.take 0 cur.toList ++ (Lib.byteCells l ++ List.drop (0 + (Lib.byteCells l).length) cur.toList)).toArray) = wb at *
        clear hwb
        generalize (List.take 0 cur.toList ++ (Lib.byteCells l ++ List.drop (0 + (Lib.byteCells l).length) cur.toList)).toArray = Cb at hgb
        simp only [Act.put, List.setIfInBounds_toArray, List.set_cons_zero, List.set_cons_succ]
        have hgQ : Q ∉ [g] := by simpa using heap_ne hqa hga (by simp)
        have hgK2 : K ∉ [g] := by simpa using heap_ne hKa hga (by simp)
        have qb := kb.heap hqa hgQ
        have Kb := kb.heap hKa hgK2
        have ob := ownsRow_chg2 hoa kb hga
        have sb := hSa.keep kb (fun x hx cs t fr hh => by rw [List.mem_singleton] at hx; subst hx; rw [hga] at hh; cases hh; simp)
        have k9 : Chg [V] w wb := k8.trans kb (fun x hx hlt => by rw [List.mem_singleton] at hx; omega)
        have hKQ : K ≠ Q := heap_ne Kb qb (by simp)
        clear hga hqa hKa hoa hSa k7 k8 kb H1 H2 H3 hbs6 k6
        have a0 : wb.cell? ⟨K, 0, none⟩ = some (.int .i64 b) := cell_is Kb 0 rfl
        have q4 : wb.cell? ⟨Q, 4, none⟩ = some s := cell_is qb 4 rfl
        have ky : Chg [] wb (wb.drew.alloc (.cells #[.int .i64 b, .slice (some ⟨g2, 0, none⟩) 40 c2, .bool true] 144)) := (Chg.refl [] wb).drew.then_alloc _
        have y0 := heap_new wb.drew (.cells #[.int .i64 b, .slice (some ⟨g2, 0, none⟩) 40 c2, .bool true] 144)
        have oy := ownsRow_chg ob ky
        have qy := ky.heap qb (by simp)
        have Ky := ky.heap Kb (by simp)
        have q4y := cell_is qy 4 rfl
        have a0y := cell_is Ky 0 rfl
        have hQn := own_block_ne oy qy (by decide)
        have hKn := own_block_ne oy Ky (by decide)
        have hby : base ≤ (wb.drew.alloc (.cells #[.int .i64 b, .slice (some ⟨g2, 0, none⟩) 40 c2, .bool true] 144)).heap.size := by have := heap_lt qy; omega
        have q4d : wb.drew.cell? ⟨Q, 4, none⟩ = some s := q4
        have q4e : (wb.alloc (.cells #[.int .i64 b, .slice (some ⟨g2, 0, none⟩) 40 c2, .bool true] 144)).cell? ⟨Q, 4, none⟩ = some s := q4y
        have a0e : (wb.alloc (.cells #[.int .i64 b, .slice (some ⟨g2, 0, none⟩) 40 c2, .bool true] 144)).cell? ⟨K, 0, none⟩ = some (.int .i64 b) := a0y
        have a0d : wb.drew.cell? ⟨K, 0, none⟩ = some (.int .i64 b) := a0
        have gy := ky.heap hgb (by simp)
        have hgn := own_block_ne oy gy (by decide)
        have HF := Lib.hid (fun (g5 cp5 : Nat) (w5 : World) (o5 : w5.ownsRow base 144 3 (.slice (some ⟨g5, 0, none⟩) (m + 1) cp5) (m + 1) (xs ++ [.int .i64 b, .slice (some ⟨g2, 0, none⟩) 40 c2, .bool true])) (k5 : Chg s.ownBlock.toList (wb.drew.alloc (.cells #[.int .i64 b, .slice (some ⟨g2, 0, none⟩) 40 c2, .bool true] 144)) w5) =>
          vread_end HRt k9 ky hm hBb gy hgn hgQ oy qy hQn (sb.keep0 ky) o5 k5)
        clear hBb gy hgn sb
        go_region_law
          (first | (refine step_append_rd rfl (.tmp 85) (.tmp 92) rfl base _ m xs rfl oy wb.drew.heap.size 1 _ _ _ rfl (cell_is y0 0 rfl) (cell_is y0 1 rfl) (cell_is y0 2 rfl) ⟨rfl, rfl, rfl⟩ (by omega) hby ?_; intro g5 cp5 w5 o5 k5; have q5 := k5.heap qy hQn; have q45 := cell_is q5 4 rfl; have f45 := unfrozen q5 4; have a05 := k5.cell a0y hKn))
        all_goals
          have HZ := Lib.hid (HF.out g5 cp5 w5 o5 k5)
          clear HF o5 k5 q5 f45 q45
          go_wp2_with fail
          go_roundw
          case rel => exact Or.inr ⟨rfl, HZ.out⟩
          case measure => decide
    · have hgw : w.heap.size ≤ g := by omega
      go_wp2_with fail
      simp only [Exit.noGoto]
      go_ret2
      exact ⟨g, c', T, rfl, hc', kT, hT, hgw, hBs, hVw, hSp⟩
end Go.Proofs.YtliicpedddcfiaaGreat
namespace Go.Proofs.YtliicpedddcfiaaGreat
open Go.RowKit Go.Lib

/-- where the parts of a store with one transaction lie. -/
structure Ids where
  P : Nat
  N : Nat
  S : Nat
  M : Nat
  X : Nat
  rx : Nat
  B : Nat
  rb : Nat
  r : Nat
  A : Nat
  c : Nat
  Z : List Nat
  T : Nat
  W : Nat
  rw : Nat
  Q : Nat
  V : Nat
/-- the store's own parts; they lie below base. -/
structure Sta (w : World) (base : Nat) (d : Ids) : Prop where
  store : StoreAt w d.P d.N d.S (some ⟨d.M, 0, none⟩)
  dev : ∃ ops, DevAt w d.N d.A d.c ops d.Z
  mg : Mg w d.M d.X d.rx d.B d.rb d.r 1 [(1, .int .i64 0)] [(1, .pointer (some ⟨d.T, 0, none⟩))]
  low : d.P < base ∧ d.N < base ∧ d.A < base ∧ d.M < base ∧ d.X < base ∧ d.rx < base ∧ d.B < base ∧ d.rb < base ∧ d.r < base
  lowZ : ∀ z ∈ d.Z, z < base
theorem Sta.keep {w w' : World} {base : Nat} {d : Ids} {T : List Nat} (h : Sta w base d) (hc : Chg T w w') (hT : ∀ x ∈ T, base ≤ x) : Sta w' base d := by
  obtain ⟨l1, l2, l3, l4, l5, l6, l7, l8, l9⟩ := h.low
  have n : ∀ x, x < base → x ∉ T := fun x hx hm => by have := hT x hm; omega
  obtain ⟨ops, hd⟩ := h.dev
  have m := h.mg
  exact ⟨h.store.keep hc (n _ l1), ⟨ops, hd.keep hc (n _ l2) (n _ l3) (fun z hz => n _ (h.lowZ z hz))⟩,
    ⟨hc.heap m.mgr (n _ l4), ⟨hc.heap m.ver.1 (n _ l5), m.ver.2.keep hc (n _ l6)⟩, m.book.keep hc (n _ l7) (n _ l8), m.map.keep hc (n _ l9), m.n1, m.n2, m.n3⟩, h.low, h.lowZ⟩
/-- what of memory behind base may change while one transaction goes on. -/
def Ow (base : Nat) (w w' : World) : Prop := ∃ T, Chg T w w' ∧ ∀ x ∈ T, base ≤ x ∧ ∀ cs t fr, w.heap[x]? = some (.cells cs t fr) → t = 258 ∨ t = 313 ∨ t = 144
theorem Ow.refl (base : Nat) (w : World) : Ow base w w := ⟨[], Chg.refl _ _, fun x hx => by cases hx⟩
theorem Ow.of_chg {base : Nat} {w w' : World} (h : Chg [] w w') : Ow base w w' := ⟨[], h, fun x hx => by cases hx⟩
theorem Ow.trans {base : Nat} {a b c : World} (h : Ow base a b) (k : Ow base b c) : Ow base a c := by
  obtain ⟨T, h1, h2⟩ := h
  obtain ⟨U, k1, k2⟩ := k
  refine ⟨T ++ U, (h1.mono (fun x hx _ => List.mem_append_left _ hx)).then (k1.mono (fun x hx _ => List.mem_append_right _ hx)), fun x hx => ?_⟩
  by_cases hT : x ∈ T
  · exact h2 x hT
  · rcases List.mem_append.1 hx with hx | hx
    · exact absurd hx hT
    · exact ⟨(k2 x hx).1, fun cs t fr hh => (k2 x hx).2 cs t fr (h1.heap hh hT)⟩
theorem Ow.then {base : Nat} {a b c : World} (h : Ow base a b) (k : Chg [] b c) : Ow base a c := h.trans (Ow.of_chg k)
theorem Ow.heap {base : Nat} {w w' : World} (h : Ow base w w') {g : Nat} {cs : Array Value} {t : TypeId} {fr : Nat × Nat} (hg : w.heap[g]? = some (.cells cs t fr)) (ht : t ≠ 258 ∧ t ≠ 313 ∧ t ≠ 144) : w'.heap[g]? = some (.cells cs t fr) := by
  obtain ⟨T, h1, h2⟩ := h
  refine h1.heap hg (fun hm => ?_)
  rcases (h2 g hm).2 cs t fr hg with h | h | h
  · exact ht.1 h
  · exact ht.2.1 h
  · exact ht.2.2 h
theorem Ow.below {base : Nat} {w w' : World} (h : Ow base w w') {B : Nat} (hB : B ≤ w.heap.size) (hb : B ≤ base) : Below B w w' := by
  obtain ⟨T, h1, h2⟩ := h
  exact h1.below hB (fun x hx => Nat.le_trans hb (h2 x hx).1)
theorem Ow.size {base : Nat} {w w' : World} (h : Ow base w w') : w.heap.size ≤ w'.heap.size := by obtain ⟨T, h1, _⟩ := h; exact h1.size
theorem av_map {w : World} {r : Nat} {L : List (Int × Value)} (h : MapAt w r L) (ts : List Nat) : Av w [r] ts := fun x hx cs t fr hh => by rw [List.mem_singleton] at hx; subst hx; exact absurd rfl (map_cells h hh)
/-- a store with one transaction, whose blocks are q, behind n reads and k writes. -/
structure St (w : World) (base : Nat) (d : Ids) (q : Int → List UInt8) (n k : Nat) : Prop where
  sta : Sta w base d
  tx : TxAt w d.T d.W d.Q
  buf : ∃ L, BufAt w d.W d.rw L ∧ L.length ≤ k ∧ ∀ b, 0 ≤ b → b < 258 → Blk w L b (q b)
  vw : Vw w base d.Q d.X d.W d.V n
  sp : SpV w base d.V n
  high : base ≤ d.Q ∧ base ≤ d.V ∧ base ≤ d.rw
theorem St.keep {w w' : World} {base : Nat} {d : Ids} {q : Int → List UInt8} {n k : Nat} (h : St w base d q n k) (hc : Chg [] w w') : St w' base d q n k := by
  obtain ⟨L, h1, h2, h3⟩ := h.buf
  exact ⟨h.sta.keep hc (fun x hx => by cases hx), hc.heap h.tx (by simp), ⟨L, h1.keep hc (by simp) (by simp), h2, fun b hb hb' => (h3 b hb hb').keep hc⟩, h.vw.keep hc (Av.nil _ _), h.sp.keep0 hc, h.high⟩
theorem St.tx4 {w : World} {base : Nat} {d : Ids} {q : Int → List UInt8} {n k : Nat} (h : St w base d q n k) : ∃ L v s, Tx w d.X d.T d.W d.rw d.Q d.V L v s ∧ L.length ≤ k ∧ BufAt w d.W d.rw L ∧ ∀ b, 0 ≤ b → b < 258 → Blk w L b (q b) := by
  obtain ⟨L, h1, h2, h3⟩ := h.buf
  obtain ⟨s, m, xs, h4, _, _⟩ := h.vw
  obtain ⟨v, l, h5, _, _⟩ := h.sp
  exact ⟨L, v, s, ⟨h.tx, h1, h4, h5⟩, h2, h1, h3⟩
set_option maxRecDepth 100000 in
set_option maxHeartbeats 2000000 in
theorem tread_one (w : World) {base : Nat} {d : Ids} {q : Int → List UInt8} {n k : Nat} {b : Int} (h : St w base d q n k) (hn : n ≤ 11) (h0 : 0 ≤ b) (h1 : b < 258) :
    Calls Tryz.prog 127 #[.pointer (some ⟨d.M, 0, none⟩), .int .i64 1, .agg #[.int .i64 b, .int .i64 1]] w fun e w' =>
    ∃ g c', e = .returned (.tuple #[.slice (some ⟨g, 0, none⟩) 40 c', .int .i64 0]) ∧ 40 ≤ c' ∧ Ow base w w' ∧ St w' base d q (n + 1) k ∧ w.heap.size ≤ g ∧ Bs w' (some ⟨g, 0, none⟩) (q b) := by
  have k0 : Chg [] w (w.alloc (.cells #[.int .i64 b, .int .i64 1] 197)) := Chg.alloc w _
  have K0 := heap_new w (.cells #[.int .i64 b, .int .i64 1] 197)
  have h2 := h.keep k0
  have HO := Lib.hid (topen_one _ h2.sta.mg h2.tx)
  clear h
  go_enter Tryz.func127, Tryz.ntmps127
  go_wp2_with fail
  generalize w.alloc (.cells #[.int .i64 b, .int .i64 1] 197) = w1 at *
  generalize hK : w.heap.size = K at *
  refine HO.out.mono ?_
  rintro e w2 ⟨rfl, rfl⟩
  have t5 : w1.cell? ⟨d.T, 5, none⟩ = some (.pointer (some ⟨d.Q, 0, none⟩)) := cell_is h2.tx 5 rfl
  have a0 : w1.cell? ⟨K, 0, none⟩ = some (.int .i64 b) := cell_is K0 0 rfl
  have a1 : w1.cell? ⟨K, 1, none⟩ = some (.int .i64 1) := cell_is K0 1 rfl
  go_wp2_with fail
  obtain ⟨L, hbuf, hL, hq⟩ := h2.buf
  have h3 := h2.keep (Chg.refl [] w1).drew
  go_region_held3 (fun wx => wx.cell? ⟨d.T, 5, none⟩ = some (.pointer (some ⟨d.Q, 0, none⟩)) ∧ wx.cell? ⟨K, 0, none⟩ = some (.int .i64 b) ∧ wx.cell? ⟨K, 1, none⟩ = some (.int .i64 1))
    (first | (exact ⟨t5, a0, a1⟩) | (exact ⟨cell_is t6 5 rfl, cell_is K6 0 rfl, cell_is K6 1 rfl⟩))
    (first | (go_at_call 148; refine (vread_one w1.drew h3.sta.mg.ver (hbuf.keep (Chg.refl [] w1).drew (by simp) (by simp)) (hq b h0 h1) h3.vw h3.sp hn ⟨h3.high.1, h3.high.2.1⟩ h0 h1).mono ?_; rintro e w6 ⟨g, c', T, rfl, hc', k6, hT, hg, hB6, hV6, hS6⟩; have t6 := k6.heap h3.tx (hT.cells h3.tx (by simp)); have K6 := k6.heap K0 (hT.cells K0 (by simp))))
  have hlow : ∀ x ∈ T, base ≤ x := fun x hx => (hT x hx).1
  have hfin : St w6 base d q (n + 1) k := ⟨h3.sta.keep k6 hlow, t6, ⟨L, (hbuf.keep (Chg.refl [] w1).drew (by simp) (by simp)).keep k6 (hT.cells hbuf.1 (by simp)) (hT.map hbuf.2), hL, fun x hx hx' => ((hq x hx hx').keep (Chg.refl [] w1).drew).keepT k6 hT⟩, hV6, hS6, h3.high⟩
  have how : Ow base w w6 := by
    refine ⟨T, ((k0.drew.mono (T := T) (fun x hx _ => by cases hx))).then k6, fun x hx => ⟨hlow x hx, fun cs t fr hh => ?_⟩⟩
    have := k0.drew.heap hh (by simp)
    obtain ⟨_, cs', t', fr', hx', ht⟩ := hT x hx
    rw [this] at hx'
    cases hx'
    exact ht
  have hsz : w.heap.size ≤ g := by have := k0.size; have h9 : w1.drew.heap.size = w1.heap.size := rfl; omega
  clear hq hbuf h2 h3 hV6 hS6 k6 hT t6 K6
  go_wp2_with fail
  go_ret2
  exact ⟨g, c', rfl, hc', how, hfin, hsz, hB6⟩
set_option maxRecDepth 100000 in
set_option maxHeartbeats 2000000 in
theorem sread_one (w : World) {base : Nat} {d : Ids} {q : Int → List UInt8} {n k : Nat} {b : Int} (h : St w base d q n k) (hn : n ≤ 11) (h0 : 0 ≤ b) (h1 : b < 258) :
    Calls Tryz.prog 89 #[.pointer (some ⟨d.P, 0, none⟩), .int .i64 1, .agg #[.int .i64 b, .int .i64 1]] w fun e w' =>
    ∃ g c', e = .returned (.tuple #[.slice (some ⟨g, 0, none⟩) 40 c', .int .i64 0]) ∧ 40 ≤ c' ∧ Ow base w w' ∧ St w' base d q (n + 1) k ∧ w.heap.size ≤ g ∧ Bs w' (some ⟨g, 0, none⟩) (q b) := by
  have k0 : Chg [] w (w.alloc (.cells #[.int .i64 b, .int .i64 1] 197)) := Chg.alloc w _
  have K0 := heap_new w (.cells #[.int .i64 b, .int .i64 1] 197)
  have h2 := h.keep k0
  have HO := Lib.hid (dead_any _ h2.sta.store)
  clear h
  go_enter Tryz.func89, Tryz.ntmps89
  go_wp2_with fail
  generalize w.alloc (.cells #[.int .i64 b, .int .i64 1] 197) = w1 at *
  generalize hK : w.heap.size = K at *
  refine HO.out.mono ?_
  rintro e w2 ⟨rfl, rfl⟩
  have t5 : w1.cell? ⟨d.P, 5, none⟩ = some (.pointer (some ⟨d.M, 0, none⟩)) := cell_is h2.sta.store 5 rfl
  have a0 : w1.cell? ⟨K, 0, none⟩ = some (.int .i64 b) := cell_is K0 0 rfl
  have a1 : w1.cell? ⟨K, 1, none⟩ = some (.int .i64 1) := cell_is K0 1 rfl
  go_wp2_with fail
  have h3 := h2.keep (Chg.refl [] w1).drew
  go_region_held3 (fun wx => wx.cell? ⟨d.P, 5, none⟩ = some (.pointer (some ⟨d.M, 0, none⟩)) ∧ wx.cell? ⟨K, 0, none⟩ = some (.int .i64 b) ∧ wx.cell? ⟨K, 1, none⟩ = some (.int .i64 1))
    (first | (exact ⟨t5, a0, a1⟩) | (exact ⟨cell_is t6 5 rfl, cell_is K6 0 rfl, cell_is K6 1 rfl⟩))
    (first | (go_at_call 127; refine (tread_one w1.drew h3 hn h0 h1).mono ?_; rintro e w6 ⟨g, c', rfl, hc', k6, h6, hg, hB6⟩; have t6 := h6.sta.store; have K6 := k6.heap K0 (by simp)))
  have hsz : w.heap.size ≤ g := by have := k0.size; have h9 : w1.drew.heap.size = w1.heap.size := rfl; omega
  have how := (Ow.of_chg (base := base) k0.drew).trans k6
  clear h2 h3 t6 K6 k6
  go_wp2_with fail
  go_ret2
  exact ⟨g, c', rfl, hc', how, h6, hsz, hB6⟩
/-- the blocks behind a write. -/
def putQ (q : Int → List UInt8) (b : Int) (l : List UInt8) (x : Int) : List UInt8 := if x = b then l else q x
set_option maxRecDepth 100000 in
theorem swrite_st (w : World) {base : Nat} {d : Ids} {q : Int → List UInt8} {n k : Nat} {E eo cp D o c : Nat} {b : Int} {l : List UInt8} (h : St w base d q n k) (hk : k ≤ 15) (h0 : 0 ≤ b) (h1 : b < 258)
    (e0 : w.cell? ⟨E, eo, none⟩ = some (.int .i64 b)) (e1 : w.cell? ⟨E, eo + 1, none⟩ = some (.slice (some ⟨D, o, none⟩) 40 c)) (hb : Bs w (some ⟨D, o, none⟩) l) (hl : l.length = 40) :
    Calls Tryz.prog 90 #[.pointer (some ⟨d.P, 0, none⟩), .int .i64 1, .slice (some ⟨E, eo, none⟩) 1 cp] w fun e w' => e = .returned (.int .i64 0) ∧ Ow base w w' ∧ St w' base d (putQ q b l) n (k + 1) := by
  obtain ⟨L, v, s, hT, hL, hbuf, hq⟩ := h.tx4
  refine (swrite_one w h.sta.store h.sta.mg hT e0 e1 hb hl h0 h1 (by omega)).mono ?_
  rintro e w' ⟨g, c', rfl, kc, hB, hbs, hbt⟩
  have hr : ∀ {x : Nat} {cs : Array Value} {t : TypeId} {fr : Nat × Nat}, w.heap[x]? = some (.cells cs t fr) → x ∉ [d.rw] := fun hx => by simpa using (map_cells hbuf.2 hx).symm
  refine ⟨rfl, ⟨[d.rw], kc, fun x hx => ?_⟩, h.sta.keep kc (fun x hx => by rw [List.mem_singleton] at hx; subst hx; exact h.high.2.2), kc.heap h.tx (hr h.tx), ⟨_, hB, Nat.le_trans (putL_len _ _ _) (by omega), fun x hx hx' => ?_⟩, h.vw.keep kc (av_map hbuf.2 _), h.sp.keep kc (av_map hbuf.2 _), h.high⟩
  · rw [List.mem_singleton] at hx
    subst hx
    exact ⟨h.high.2.2, fun cs t fr hh => absurd rfl (map_cells hbuf.2 hh)⟩
  · unfold putQ
    by_cases hxb : x = b
    · rw [if_pos hxb]
      exact Or.inr ⟨g, c', by rw [getL_put, if_pos hxb], hbs, hl, hbt⟩
    · rw [if_neg hxb]
      rcases hq x hx hx' with ⟨hg, hz⟩ | ⟨g2, c2, hg, hb2, hl2, cs, ht2⟩
      · exact Or.inl ⟨by rw [getL_put, if_neg hxb]; exact hg, hz⟩
      · exact Or.inr ⟨g2, c2, by rw [getL_put, if_neg hxb]; exact hg, hb2.chgT kc (hr ht2), hl2, cs, kc.heap ht2 (hr ht2)⟩
end Go.Proofs.YtliicpedddcfiaaGreat
namespace Go.Proofs.YtliicpedddcfiaaGreat
open Go.RowKit Go.Lib

set_option maxRecDepth 100000 in
theorem rmay_min (w : World) : Calls Tryz.prog 64 #[.agg #[.int .i64 8, .int .i64 96]] w fun e w' => e = .returned (.bool true) ∧ Chg [] w w' := by
  go_enter Tryz.func64, Tryz.ntmps64
  go_wp2_with fail
  go_ret
  exact ⟨rfl, Chg.alloc _ _⟩
set_option maxRecDepth 100000 in
theorem rsplit_min (w : World) : Calls Tryz.prog 102 #[.agg #[.int .i64 8, .int .i64 96]] w fun e w' => e = .returned (.tuple #[.agg #[.int .i64 0, .int .i64 3, .int .i64 6, .int .i64 7], .int .i64 0]) ∧ Chg [] w w' := by
  go_enter Tryz.func102, Tryz.ntmps102
  go_wp2_with fail
  obtain ⟨g0, g1⟩ := two_new w (.cells #[.int .i64 8, .int .i64 96] 28) (.cells #[.int .i64 0, .int .i64 0, .int .i64 0, .int .i64 0] 222)
  have hc := chg_two w (.cells #[.int .i64 8, .int .i64 96] 28) (.cells #[.int .i64 0, .int .i64 0, .int .i64 0, .int .i64 0] 222)
  generalize (w.alloc (.cells #[.int .i64 8, .int .i64 96] 28)).alloc (.cells #[.int .i64 0, .int .i64 0, .int .i64 0, .int .i64 0] 222) = w1 at *
  refine (rmay_min w1).mono ?_
  rintro e w2 ⟨rfl, hc2⟩
  have k0 := hc2.heap g0 (by simp)
  have k1 := hc2.heap g1 (by simp)
  have hc3 := hc.then hc2
  have a0 : w2.cell? ⟨w.heap.size, 0, none⟩ = some (.int .i64 8) := cell_is k0 0 rfl
  have a1 : w2.cell? ⟨w.heap.size, 1, none⟩ = some (.int .i64 96) := cell_is k0 1 rfl
  clear g0 g1 k0 hc hc2
  have b0 := unfrozen k1 0
  have b1 := unfrozen k1 1
  have b2 := unfrozen k1 2
  have b3 := unfrozen k1 3
  have c0 := cell_is k1 0 rfl
  have c1 := cell_is k1 1 rfl
  have c2 := cell_is k1 2 rfl
  have c3 := cell_is k1 3 rfl
  go_wp2_with fail
  refine bodyPost_ret (v := .tuple #[.agg #[.int .i64 0, .int .i64 3, .int .i64 6, .int .i64 7], .int .i64 0]) (by simp [results, Tryz.results102, go_sem, c0, c1, c2, c3]) rfl ?_
  exact ⟨rfl, (((hc3.new_set (by omega) _ _).new_set (by omega) _ _).new_set (by omega) _ _).new_set (by omega) _ _⟩
set_option maxRecDepth 100000 in
theorem rcap_min (w : World) : Calls Tryz.prog 66 #[.agg #[.int .i64 8, .int .i64 96]] w fun e w' => e = .returned (.int .i64 258) ∧ Chg [] w w' := by
  go_enter Tryz.func66, Tryz.ntmps66
  go_wp2_with fail
  have g0 := heap_new w (.cells #[.int .i64 8, .int .i64 96] 28)
  have hc : Chg [] w (w.alloc (.cells #[.int .i64 8, .int .i64 96] 28)) := Chg.alloc _ _
  generalize w.alloc (.cells #[.int .i64 8, .int .i64 96] 28) = w1 at *
  refine (rsplit_min w1).mono ?_
  rintro e w2 ⟨rfl, hc2⟩
  have k0 := hc2.heap g0 (by simp)
  have hc3 := hc.then hc2
  have a1a : ∀ o, (w2.alloc o).cell? ⟨w.heap.size, 1, none⟩ = some (.int .i64 96) := fun o => cell_is (heap_old k0) 1 rfl
  clear g0 k0 hc hc2
  go_wp2_with fail
  go_ret
  exact ⟨rfl, hc3.then_alloc _⟩
set_option maxRecDepth 100000 in
theorem rmap_new (w : World) : Calls Tryz.prog 101 #[.int .i64 258] w fun e w' => ∃ Y, e = .returned (.tuple #[.pointer (some ⟨Y, 0, none⟩), .int .i64 0]) ∧ Chg [] w w' ∧ w.heap.size ≤ Y := by
  go_enter Tryz.func101, Tryz.ntmps101
  go_wp2_with fail
  go_ret2
  exact ⟨_, rfl, Chg.alloc _ _, Nat.le_refl _⟩
/-- block G is a reference's manager that has begun n times. -/
def RmAt (w : World) (G Y : Nat) (a b c : Value) (n : Int) : Prop :=
  w.heap[G]? = some (.cells #[.pointer (some ⟨Y, 0, none⟩), .int .i64 16, a, b, .int .i64 n, c, .slice none 0 0, .slice none 0 0, .int .i64 0, .int .i64 0, .int .i64 0, .int .i64 0, .bool false, .int .i64 258, .int .i64 0] 221 (0, 0))
set_option maxRecDepth 100000 in
theorem rm_new (w : World) : Calls Tryz.prog 65 #[.int .i64 258, .int .i64 0] w fun e w' => ∃ G Y, e = .returned (.tuple #[.pointer (some ⟨G, 0, none⟩), .int .i64 0]) ∧ Chg [] w w' ∧ RmAt w' G Y (.slice none 0 0) (.slice none 0 0) (.slice none 0 0) 0 ∧ w.heap.size ≤ G := by
  go_enter Tryz.func65, Tryz.ntmps65
  go_wp2_with fail
  refine (rmap_new w).mono ?_
  rintro e w1 ⟨Y, rfl, k1, hY⟩
  go_wp2_with fail
  go_ret2
  exact ⟨_, Y, rfl, k1.then_alloc _, heap_new w1 _, k1.size⟩
end Go.Proofs.YtliicpedddcfiaaGreat
namespace Go.Proofs.YtliicpedddcfiaaGreat
open Go.RowKit Go.Lib

theorem step_append_run {P : Program} {ops : Array Oper} {o : Oper} {a : Act} {w : World} {K : Act → World → Prop} {Q : Exit → Act → World → Prop} {E : Prop} (hgd : o.guard = none) (s x : Operand) (t t' : TypeId)
    (ho : o.op = .call { callee := .builtin .append, args := #[s, x], argTypes := #[t, t'] }) (v y : Value) (hs : a.eval s = v) (hx : a.eval x = y) (v' : Value) (w' : World) (hr : (Builtin.append_ #[t, t'] o.type #[v, y]).run P w = .ok v' w') (h : K (a.put o.dst v') w') :
    if Region.wanted o (yielded ops a.tmps) = true then Oper.wp P o a w K Q else E := by
  have hw : Region.wanted o (yielded ops a.tmps) = true := by simp [Region.wanted, hgd]
  rw [if_pos hw]
  unfold Oper.wp execOp
  simp only [ho, resolve, invoke, builtin, Sem.run_bind, Sem.run_pure, Result.andThen_ok, List.map_toArray, List.map_cons, List.map_nil, hs, hx, hr]
  exact h
theorem ty62 : Tryz.prog.underlying 81 = some (.slice 3) := by kernel_rfl
theorem inf3 : (Tryz.prog.info? 3).map (fun i => (i.zero, i.size, i.bytes)) = some (some (.int .i64 0), 1, 8) := by kernel_rfl
/-- nothing is put behind an empty row of ints. -/
theorem append_none (w : World) (z : Nat) (ty : TypeId) : (Builtin.append_ #[81, 81] ty #[.slice (some ⟨z, 0, none⟩) 0 0, .slice none 0 0]).run Tryz.prog w = .ok (.slice (some ⟨z, 0, none⟩) 0 0) w := by
  obtain ⟨i, hi0, hz, hz1, hz2⟩ := info_parts inf3
  simp [Builtin.append_, run_underlying ty62, sizeOf, typeInfo, hi0, Builtin.lenOf, Builtin.firstCells, storeCells]
theorem own0 (w : World) (z : Nat) (hz : w.heap[z]? = some (.cells #[] 3 (0, 0))) : w.ownsRow 0 3 1 (.slice (some ⟨z, 0, none⟩) 0 0) 0 [] :=
  ⟨rfl, Or.inr ⟨z, 0, #[], rfl, Nat.zero_le _, hz, Nat.le_refl _, by unfold maxLen; omega, rfl, rfl⟩⟩
/-- an int is put behind an empty row of ints. -/
theorem step_append_int {ops : Array Oper} {o : Oper} {a : Act} {w : World} {K : Act → World → Prop} {Q : Exit → Act → World → Prop} {E : Prop} (hgd : o.guard = none) (s x : Operand)
    (ho : o.op = .call { callee := .builtin .append, args := #[s, x], argTypes := #[81, 81] }) (z b c : Nat) (k : Int) (hs : a.eval s = .slice (some ⟨z, 0, none⟩) 0 0) (hz : w.heap[z]? = some (.cells #[] 3 (0, 0)))
    (hx : a.eval x = .slice (some ⟨b, 0, none⟩) 1 c) (hb : w.cell? ⟨b, 0, none⟩ = some (.int .i64 k))
    (h : ∀ g cap w', Chg [z] w w' → K (a.put o.dst (.slice (some ⟨g, 0, none⟩) 1 cap)) w') :
    if Region.wanted o (yielded ops a.tmps) = true then Oper.wp Tryz.prog o a w K Q else E := by
  obtain ⟨i, hi0, hz0, hz1, hz2⟩ := info_parts inf3
  refine step_append_lies w hgd s x 81 ho 0 3 i _ 1 8 ty62 hi0 hz0 hz1 hz2 rfl (by decide) _ 0 [] hs (own0 w z hz) ⟨b, 0, none⟩ 1 c [.int .i64 k] hx rfl ?_ ?_ (by decide) (by unfold maxLen; omega) (by omega) (Nat.zero_le _) _ rfl ?_
  · intro j u hu
    rw [add_lit, Nat.zero_add]
    match j with
    | 0 => cases hu; exact hb
    | j + 1 => simp at hu
  · intro u hu
    simp at hu
    subst hu
    rfl
  · intro g cap w' _ h3 _ _
    exact h g cap w' (Chg.of_grown h3)
theorem wpList_append_int {ops : Array Oper} {rest : List Oper} {o : Oper} {a : Act} {w : World} {Q : Exit → Act → World → Prop} (hgd : o.guard = none) (s x : Operand)
    (ho : o.op = .call { callee := .builtin .append, args := #[s, x], argTypes := #[81, 81] }) (z b c : Nat) (k : Int) (hs : a.eval s = .slice (some ⟨z, 0, none⟩) 0 0) (hz : w.heap[z]? = some (.cells #[] 3 (0, 0)))
    (hx : a.eval x = .slice (some ⟨b, 0, none⟩) 1 c) (hb : w.cell? ⟨b, 0, none⟩ = some (.int .i64 k))
    (h : ∀ g cap w', Chg [z] w w' → wpList Tryz.prog ops Q rest (a.put o.dst (.slice (some ⟨g, 0, none⟩) 1 cap)) w') : wpList Tryz.prog ops Q (o :: rest) a w := by
  obtain ⟨i, hi0, hz0, hz1, hz2⟩ := info_parts inf3
  refine wpList_append_lies w hgd s x 81 ho 0 3 i _ 1 8 ty62 hi0 hz0 hz1 hz2 rfl (by decide) _ 0 [] hs (own0 w z hz) ⟨b, 0, none⟩ 1 c [.int .i64 k] hx rfl ?_ ?_ (by decide) (by unfold maxLen; omega) (by omega) (Nat.zero_le _) _ rfl ?_
  · intro j u hu
    rw [add_lit, Nat.zero_add]
    match j with
    | 0 => cases hu; exact hb
    | j + 1 => simp at hu
  · intro u hu
    simp at hu
    subst hu
    rfl
  · intro g cap w' _ h3 _ _
    exact h g cap w' (Chg.of_grown h3)
end Go.Proofs.YtliicpedddcfiaaGreat
namespace Go.Proofs.YtliicpedddcfiaaGreat
open Go.RowKit Go.Lib

theorem Ow.new_set {base : Nat} {w w' : World} (h : Ow base w w') {g : Nat} (hg : w.heap.size ≤ g) (i : Nat) (v : Value) : Ow base w (w'.setCell ⟨g, i, none⟩ v) := by
  obtain ⟨T, h1, h2⟩ := h
  exact ⟨T, h1.new_set hg i v, h2⟩
theorem Av.row {w : World} {g : Nat} {cs : Array Value} {t : TypeId} {fr : Nat × Nat} (h : w.heap[g]? = some (.cells cs t fr)) {ts : List Nat} (ht : t ∉ ts) : Av w [g] ts := fun x hx cs' t' fr' hh => by
  rw [List.mem_singleton] at hx; subst hx; rw [h] at hh; cases hh; exact ht
end Go.Proofs.YtliicpedddcfiaaGreat
namespace Go.Proofs.YtliicpedddcfiaaGreat
open Go.RowKit Go.Lib

/-- the bytes of a number, the least first. -/
def leB (v n : Nat) : List UInt8 := (List.range n).map fun i => UInt8.ofNat (v / 256 ^ i % 256)
theorem leB_length (v n : Nat) : (leB v n).length = n := by simp [leB]
/-- the row of n bytes of which j are written. -/
def rowL (n v j : Nat) : Array Value := ((List.range n).map fun i => Value.int .u8 (if i < j then ((v / 256 ^ i % 256 : Nat) : Int) else 0)).toArray
theorem rowL_zero (n v u : Nat) : rowL n v 0 = rowL n u 0 := by simp [rowL]
theorem rowL_get (n v j i : Nat) (h : i < n) : (rowL n v j)[i]? = some (.int .u8 (if i < j then ((v / 256 ^ i % 256 : Nat) : Int) else 0)) := by simp [rowL, h]
theorem rowL_set (n v j : Nat) (_h : j < n) : (rowL n v j).setIfInBounds j (.int .u8 ((v / 256 ^ j % 256 : Nat) : Int)) = rowL n v (j + 1) := by
  apply Array.ext
  · simp [rowL]
  · intro i h1 h2
    have hi : i < n := by simpa [rowL] using h2
    by_cases e : j = i
    · subst e
      simp [rowL]
    · rw [Array.getElem_setIfInBounds (by simpa [rowL] using hi), if_neg e]
      have : (i < j + 1) = (i < j) := by simp; omega
      simp [rowL, this]
theorem rowL_full (n v : Nat) : rowL n v n = (Lib.byteCells (leB v n)).toArray := by
  apply Array.ext
  · simp [rowL, Lib.byteCells, leB]
  · intro i h1 h2
    have hi : i < n := by simpa [rowL] using h1
    simp [rowL, Lib.byteCells, leB, hi]
set_option maxRecDepth 100000 in
set_option maxHeartbeats 1000000 in
theorem bput_any (w : World) (v n : Nat) (hn : n ≤ 8) (_hv : v < 18446744073709551616)
    (hmk : ∀ w : World, (Instr.makeSlice 34 (.int .i64 n) (.int .i64 n)).run Tryz.prog w = .ok (.slice (some ⟨w.heap.size, 0, none⟩) n n) (w.alloc (.cells (rowL n 0 0) 5))) :
    Calls Tryz.prog 142 #[.int .u64 v, .int .i64 n] w fun e w' => ∃ g, e = .returned (.slice (some ⟨g, 0, none⟩) n n) ∧ Chg [] w w' ∧ w'.heap[g]? = some (.cells (rowL n v n) 5 (0, 0)) ∧ w.heap.size ≤ g := by
  go_enter Tryz.func142, Tryz.ntmps142
  have g0 : (w.alloc (.cells (rowL n 0 0) 5)).heap[w.heap.size]? = some (.cells (rowL n v 0) 5 (0, 0)) := by
    rw [rowL_zero n v 0]
    exact heap_new w _
  have k0 : Chg [] w (w.alloc (.cells (rowL n 0 0) 5)) := Chg.alloc w _
  go_wp2_with fail
  generalize w.alloc (.cells (rowL n 0 0) 5) = w1 at *
  generalize hz : w.heap.size = z at *
  go_loopw [11] (fun i wr => ∃ j : Nat, j ≤ n ∧ i = .int .i64 j ∧ Chg [] w wr ∧ wr.heap[z]? = some (.cells (rowL n v j) 5 (0, 0))) (fun i _ => n - (intOf i).toNat)
  case atStart => exact ⟨0, by omega, rfl, k0, g0⟩
  case round =>
    obtain ⟨j, hj, rfl, kc, gj⟩ := hrel
    by_cases hlt : j < n
    · have cj : wr.cell? ⟨z, j, none⟩ = some (.int .u8 0) := by
        refine cell_is gj j ?_
        rw [rowL_get n v j j hlt, if_neg (Nat.lt_irrefl j)]
      have fj := unfrozen gj j
      clear g0 k0
      go_wp2_with fail
      have e : (v : Int) / 2 ^ (8 * j) % 256 = ((v / 256 ^ j % 256 : Nat) : Int) := by
        have h2 : (2 : Int) ^ (8 * j) = ((256 ^ j : Nat) : Int) := by
          rw [Int.pow_mul, Int.natCast_pow]
          rfl
        rw [h2]
        rfl
      refine ⟨⟨j + 1, by omega, by simp, kc.new_set (by omega) j _, ?_⟩, by simp [intOf]; omega⟩
      rw [e]
      exact heap_set gj j _ (rowL_set n v j hlt)
    · obtain rfl : j = n := by omega
      go_wp2_with fail
      go_ret
      exact ⟨z, rfl, kc, gj, by omega⟩
theorem bput_bs (w : World) (v n : Nat) (hn : n ≤ 8) (hv : v < 18446744073709551616)
    (hmk : ∀ w : World, (Instr.makeSlice 34 (.int .i64 n) (.int .i64 n)).run Tryz.prog w = .ok (.slice (some ⟨w.heap.size, 0, none⟩) n n) (w.alloc (.cells (rowL n 0 0) 5))) :
    Calls Tryz.prog 142 #[.int .u64 v, .int .i64 n] w fun e w' => ∃ g, e = .returned (.slice (some ⟨g, 0, none⟩) n n) ∧ Chg [] w w' ∧ Bs w' (some ⟨g, 0, none⟩) (leB v n) ∧ w.heap.size ≤ g := by
  refine (bput_any w v n hn hv hmk).mono ?_
  rintro e w' ⟨g, rfl, hc, hg, hl⟩
  refine ⟨g, rfl, hc, ?_, hl⟩
  rw [rowL_full] at hg
  exact Bs.row hg
set_option maxRecDepth 100000 in
theorem put32_any (w : World) (v : Nat) (hv : v < 4294967296) : Calls Tryz.prog 125 #[.int .u32 v] w fun e w' => ∃ g, e = .returned (.slice (some ⟨g, 0, none⟩) 4 4) ∧ Chg [] w w' ∧ Bs w' (some ⟨g, 0, none⟩) (leB v 4) ∧ w.heap.size ≤ g := by
  have HP := Lib.hid (bput_bs w v 4 (by omega) (by omega) (fun w => by kernel_rfl))
  go_enter Tryz.func125, Tryz.ntmps125
  go_wp2_with fail
  refine HP.out.mono ?_
  rintro e w' ⟨g, rfl, h1, h2, h3⟩
  go_wp2_with fail
  go_ret
  exact ⟨g, rfl, h1, h2, h3⟩
set_option maxRecDepth 100000 in
theorem put64_any (w : World) (v : Nat) (hv : v < 18446744073709551616) : Calls Tryz.prog 122 #[.int .u64 v] w fun e w' => ∃ g, e = .returned (.slice (some ⟨g, 0, none⟩) 8 8) ∧ Chg [] w w' ∧ Bs w' (some ⟨g, 0, none⟩) (leB v 8) ∧ w.heap.size ≤ g := by
  have HP := Lib.hid (bput_bs w v 8 (by omega) hv (fun w => by kernel_rfl))
  go_enter Tryz.func122, Tryz.ntmps122
  go_wp2_with fail
  refine HP.out.mono ?_
  rintro e w' ⟨g, rfl, h1, h2, h3⟩
  go_wp2_with fail
  go_ret
  exact ⟨g, rfl, h1, h2, h3⟩
end Go.Proofs.YtliicpedddcfiaaGreat
namespace Go.Proofs.YtliicpedddcfiaaGreat
open Go.RowKit Go.Lib

/-- a turn of the register. -/
def crcBit (r : Int) : Int := bits .xor .u32 (r / 2) (bits .and .u32 2197175160 (-(bits .and .u32 r 1) % 4294967296))
def crcBits : Nat → Int → Int
  | 0, r => r
  | n + 1, r => crcBit (crcBits n r)
/-- .. behind a byte. -/
def crcByte (r : Int) (c : UInt8) : Int := crcBits 8 (bits .xor .u32 r (c.toNat : Int))
def crcRun (r : Int) (l : List UInt8) : Int := l.foldl crcByte r
/-- the check sum of bytes. -/
def crcI (l : List UInt8) : Int := bits .xor .u32 IntKind.u32.max (crcRun (bits .xor .u32 IntKind.u32.max 0) l)
theorem wrap_u32 (n : Int) : 0 ≤ IntKind.u32.wrap n ∧ IntKind.u32.wrap n < 4294967296 := by
  have : IntKind.u32.wrap n = n % 4294967296 := by simp [IntKind.wrap, IntKind.signed, IntKind.bits]
  rw [this]; omega
theorem bits_u32 (op : BinOp) (x y : Int) : 0 ≤ bits op .u32 x y ∧ bits op .u32 x y < 4294967296 := wrap_u32 _
theorem crcI_ge (l : List UInt8) : 0 ≤ crcI l ∧ crcI l < 4294967296 := bits_u32 _ _ _
theorem crcBits_ge (n : Nat) (r : Int) (h0 : 0 ≤ r) (h1 : r < 4294967296) : 0 ≤ crcBits n r ∧ crcBits n r < 4294967296 := by
  cases n with
  | zero => exact ⟨h0, h1⟩
  | succ n => exact bits_u32 .xor (crcBits n r / 2) (bits .and .u32 2197175160 (-(bits .and .u32 (crcBits n r) 1) % 4294967296))
/-- .. as a number. -/
def crcN (l : List UInt8) : Nat := (crcI l).toNat
theorem crcN_lt (l : List UInt8) : crcN l < 4294967296 := by have := crcI_ge l; unfold crcN; omega
theorem crcN_eq (l : List UInt8) : ((crcN l : Nat) : Int) = crcI l := by have := crcI_ge l; unfold crcN; omega
set_option maxRecDepth 100000 in
set_option maxHeartbeats 2000000 in
theorem cadd_crc (w : World) {C : Nat} {pa : Option Addr} {m c : Nat} {l : List UInt8} (hC : w.heap[C]? = some (.cells #[.int .u32 0] 303 (0, 0))) (hb : Bs w pa l) (hl : l.length = m) (hm : m ≤ 1000000) :
    Calls Tryz.prog 160 #[.pointer (some ⟨C, 0, none⟩), .slice pa m c] w fun e w' => e = .returned (.pointer (some ⟨C, 0, none⟩)) ∧ Chg [C] w w' ∧ w'.heap[C]? = some (.cells #[.int .u32 (crcI l)] 303 (0, 0)) := by
  have c0 : w.cell? ⟨C, 0, none⟩ = some (.int .u32 0) := cell_is hC 0 rfl
  have f0 := unfrozen hC 0
  have HC := Lib.hid hC
  have HB := Lib.hid hb
  clear hC hb
  go_enter Tryz.func160, Tryz.ntmps160
  go_wp2_with fail
  go_loopw [5, 7, 17] (fun r _ i wr => ∃ j : Nat, j ≤ m ∧ i = .int .i64 j ∧ r = .int .u32 (crcRun (bits .xor .u32 IntKind.u32.max 0) (l.take j)) ∧ w = wr) (fun _ _ i _ => m - (intOf i).toNat)
  case atStart => exact ⟨0, by omega, rfl, rfl, rfl⟩
  case round =>
    obtain ⟨j, hj, rfl, rfl, rfl⟩ := hrel
    by_cases hlt : j < m
    · obtain ⟨b, o, rfl, cj⟩ : ∃ b o, pa = some ⟨b, o, none⟩ ∧ w.cell? ⟨b, o + j, none⟩ = some (.int .u8 (l[j]'(by omega)).toNat) := by
        rcases HB.out with h | ⟨b, o, e, _, h⟩
        · rw [h] at hl; simp at hl; omega
        · exact ⟨b, o, e, h j (by omega)⟩
      have htk : l.take (j + 1) = l.take j ++ [l[j]'(by omega)] := by rw [List.take_succ_eq_append_getElem]
      have hrun : crcRun (bits .xor .u32 IntKind.u32.max 0) (l.take (j + 1)) = crcByte (crcRun (bits .xor .u32 IntKind.u32.max 0) (l.take j)) (l[j]'(by omega)) := by rw [htk]; unfold crcRun; rw [List.foldl_append]; rfl
      have HR := Lib.hid hrun
      clear hrun htk
      generalize l[j]'(by omega) = y at *
      generalize crcRun (bits .xor .u32 IntKind.u32.max 0) (l.take j) = r at *
      go_wp2_with fail
      go_loopw [5, 25] (fun q i wr => ∃ k : Nat, k ≤ 8 ∧ i = .int .i64 k ∧ q = .int .u32 (crcBits k (bits .xor .u32 r (y.toNat : Int))) ∧ w = wr) (fun _ i _ => 8 - (intOf i).toNat)
      case atStart =>
        have hy : (y.toNat : Int) % 4294967296 = y.toNat := by have := y.toNat_lt; omega
        exact ⟨0, by omega, rfl, by rw [hy]; rfl, rfl⟩
      case round =>
        obtain ⟨k, hk, rfl, rfl, rfl⟩ := hrel
        by_cases hlk : k < 8
        · generalize hq : crcBits k (bits .xor .u32 r (y.toNat : Int)) = q at *
          go_wp2_with fail
          exact ⟨⟨k + 1, by omega, by simp, by rw [← hq]; rfl, trivial⟩, by simp [intOf]; omega⟩
        · obtain rfl : k = 8 := by omega
          generalize hq : crcBits 8 (bits .xor .u32 r (y.toNat : Int)) = q at *
          go_wp2_with fail
          exact ⟨⟨j + 1, by omega, by simp, by rw [HR.out, ← hq]; rfl, trivial⟩, by simp [intOf]; omega⟩
    · obtain rfl : j = m := by omega
      have ht : l.take j = l := List.take_of_length_le (by omega)
      rw [ht] at *
      go_wp2_with fail
      go_ret
      exact ⟨rfl, Chg.set w C 0 _, heap_set HC.out 0 _ rfl⟩
theorem cnew_crc (w : World) : Calls Tryz.prog 159 #[] w fun e w' => e = .returned (.pointer (some ⟨w.heap.size, 0, none⟩)) ∧ w' = w.alloc (.cells #[.int .u32 0] 303) := by
  go_enter Tryz.func159, Tryz.ntmps159
  go_wp2_with fail
  go_ret
  exact ⟨rfl, rfl⟩
theorem cval_crc (w : World) {C : Nat} {r : Int} (hC : w.heap[C]? = some (.cells #[.int .u32 r] 303 (0, 0))) : Calls Tryz.prog 161 #[.pointer (some ⟨C, 0, none⟩)] w fun e w' => e = .returned (.int .u32 r) ∧ w' = w := by
  have c0 : w.cell? ⟨C, 0, none⟩ = some (.int .u32 r) := cell_is hC 0 rfl
  clear hC
  go_enter Tryz.func161, Tryz.ntmps161
  go_wp2_with fail
  go_ret
  exact ⟨rfl, rfl⟩
set_option maxRecDepth 100000 in
theorem crc_of (w : World) {pa : Option Addr} {m c : Nat} {l : List UInt8} (hb : Bs w pa l) (hl : l.length = m) (hm : m ≤ 1000000) :
    Calls Tryz.prog 136 #[.slice pa m c] w fun e w' => e = .returned (.int .u32 (crcN l : Nat)) ∧ Chg [] w w' := by
  have HB := Lib.hid hb
  clear hb
  rw [crcN_eq]
  go_enter Tryz.func136, Tryz.ntmps136
  go_wp2_with fail
  refine (cnew_crc w).mono ?_
  rintro e w1 ⟨rfl, rfl⟩
  have k1 : Chg [] w (w.alloc (.cells #[.int .u32 0] 303)) := Chg.alloc w _
  have h1 := heap_new w (.cells #[.int .u32 0] 303)
  have HB1 := Lib.hid (HB.out.chg k1)
  generalize w.alloc (.cells #[.int .u32 0] 303) = w1 at *
  generalize hz : w.heap.size = C at *
  go_wp2_with fail
  refine (cadd_crc w1 h1 HB1.out hl hm).mono ?_
  rintro e w2 ⟨rfl, k2, h2⟩
  go_wp2_with fail
  refine (cval_crc w2 h2).mono ?_
  rintro e w3 ⟨rfl, rfl⟩
  go_wp2_with fail
  go_ret
  exact ⟨rfl, k1.trans k2 (fun x hx hlt => by simp at hx; omega)⟩
end Go.Proofs.YtliicpedddcfiaaGreat
namespace Go.Proofs.YtliicpedddcfiaaGreat
open Go.RowKit Go.Lib

set_option maxRecDepth 100000 in
set_option maxHeartbeats 1000000 in
theorem bgrow_nil (w : World) {k : Nat} (h0 : 0 < k) (h1 : k ≤ 1000000) : Calls Tryz.prog 158 #[.slice none 0 0, .int .i64 k] w fun e w' => ∃ v, e = .returned v ∧ Chg [] w w' ∧ w'.ownsRow w.heap.size 5 1 v 0 (Lib.byteCells []) := by
  obtain ⟨i, hi0, hz, hz1, hz2⟩ := info_parts inf5c
  have hr := fun ty => run_append_nil_zeros (P := Tryz.prog) w 34 3 ty 5 i (.int .u8 0) .i64 .i64 ty23 (by kernel_rfl) hi0 hz k h0 (by omega) (by omega) (by rw [hz2]; omega)
  have hge := grownCap_ge w k 0 5
  have hle := grownCap_le_maxLen w k 0 5 (by unfold maxLen; omega)
  have hsz : (Builtin.zeroCells (Value.int .u8 0).cells k ++ Builtin.zeroCells (Value.int .u8 0).cells (grownCap w k 0 5 - k)).size = grownCap w k 0 5 * 1 := by
    simp only [Array.size_append, size_zeroCells, Value.cells]
    simp
    omega
  generalize (Builtin.zeroCells (Value.int .u8 0).cells k ++ Builtin.zeroCells (Value.int .u8 0).cells (grownCap w k 0 5 - k)) = Z at *
  generalize grownCap w k 0 5 = G at *
  clear hi0 hz hz1 hz2
  have hk : ¬ ((k : Int) < 0) := by omega
  have hk2 : (k : Int) > 0 := by omega
  have hG63 : G ≤ 9223372036854775807 := by unfold maxLen at hle; omega
  have hf : (w.drew.alloc (.cells Z 5)).ownsRow w.heap.size 5 1 (.slice (some ⟨w.heap.size, 0, none⟩) 0 G) 0 (Lib.byteCells []) := by
    refine ⟨rfl, Or.inr ⟨w.heap.size, G, Z, rfl, Nat.le_refl _, heap_new w.drew _, Nat.zero_le _, hle, hsz, by simp [Lib.byteCells]⟩⟩
  have kc : Chg [] w (w.drew.alloc (.cells Z 5)) := (Chg.refl [] w).drew.then_alloc _
  go_enter Tryz.func158, Tryz.ntmps158
  go_wp2_with (at_builtin; refine Lib.wpList_append_run (w := w) rfl (.tmp 20) (.tmp 21) 34 3 rfl (.slice none 0 0) (.int .i64 k) rfl rfl _ _ (hr _) ?_)
  go_ret
  exact ⟨_, rfl, kc, hf⟩
/-- rows of bytes stand here. -/
def Rws (w : World) (A o : Nat) (ls : List (List UInt8)) : Prop := ∀ i (h : i < ls.length), ∃ pa c, w.cell? ⟨A, o + i, none⟩ = some (.slice pa ls[i].length c) ∧ Bs w pa ls[i]
theorem Rws.keep {w w' : World} {A o : Nat} {ls : List (List UInt8)} (h : Rws w A o ls) (hc : Chg [] w w') : Rws w' A o ls := fun i hi => by
  obtain ⟨pa, c, h1, h2⟩ := h i hi
  exact ⟨pa, c, hc.cell h1 (by simp), h2.chg hc⟩
theorem flat_take {ls : List (List UInt8)} {j : Nat} (h : j < ls.length) : (ls.take (j + 1)).flatten = (ls.take j).flatten ++ ls[j] := by
  rw [List.take_succ_eq_append_getElem h, List.flatten_append]
  simp
theorem flat_le (ls : List (List UInt8)) (j : Nat) : (ls.take j).flatten.length ≤ ls.flatten.length := by
  conv => rhs; rw [← List.take_append_drop j ls, List.flatten_append, List.length_append]
  omega
/-- how many bytes the first rows have. -/
def flatN (ls : List (List UInt8)) (j : Nat) : Nat := (ls.take j).flatten.length
theorem flatN_succ {ls : List (List UInt8)} {j : Nat} (h : j < ls.length) : flatN ls (j + 1) = flatN ls j + ls[j].length := by
  unfold flatN
  rw [flat_take h, List.length_append]
theorem flatN_le (ls : List (List UInt8)) (j : Nat) : flatN ls j ≤ flatN ls ls.length := by
  unfold flatN
  rw [List.take_of_length_le (Nat.le_refl ls.length)]
  exact flat_le ls j
set_option maxRecDepth 100000 in
set_option maxHeartbeats 2000000 in
theorem bconcat_any (w : World) {E o cp k n : Nat} {ls : List (List UInt8)} {F : List UInt8} (hs : Rws w E o ls) (hk : ls.length = k) (hk1 : k ≤ 1000) (hF : ls.flatten = F) (hn : F.length = n) (hm0 : 0 < n) (hm : n ≤ 100000) :
    Calls Tryz.prog 135 #[.slice (some ⟨E, o, none⟩) k cp] w fun e w' => ∃ v, e = .returned v ∧ Chg [] w w' ∧ w'.ownsRow w.heap.size 5 1 v n (Lib.byteCells F) := by
  have HS := Lib.hid hs
  have HM0 := Lib.hid hm0
  have HM := Lib.hid hm
  have hN : flatN ls k = n := by unfold flatN; rw [List.take_of_length_le (by omega), hF, hn]
  have HN := Lib.hid hN
  have HF := Lib.hid hF
  have HL := Lib.hid hn
  clear hs hm0 hm hF hn hN
  go_enter Tryz.func135, Tryz.ntmps135
  go_wp2_with fail
  go_loopw [3, 5, 11] (fun s _ i wr => ∃ j : Nat, j ≤ k ∧ i = .int .i64 j ∧ s = .int .i64 (flatN ls j : Nat) ∧ w = wr) (fun _ _ i _ => k - (intOf i).toNat)
  case atStart => exact ⟨0, by omega, rfl, rfl, rfl⟩
  case round =>
    obtain ⟨j, hj, rfl, rfl, rfl⟩ := hrel
    by_cases hlt : j < k
    · obtain ⟨pa, c, c0, -⟩ := HS.out j (by omega)
      have e1 := flatN_succ (ls := ls) (j := j) (by omega)
      have hb := flatN_le ls (j + 1)
      rw [hk, HN.out] at hb
      have hM := HM.out
      have hwr : wrap64 ((flatN ls j : Int) + (ls[j]'(by omega)).length) = (flatN ls (j + 1) : Nat) := by unfold wrap64; omega
      have hge : ¬ (wrap64 ((flatN ls j : Int) + (ls[j]'(by omega)).length) < 0) := by omega
      have HW := Lib.hid hwr
      clear hwr e1 hb hM
      generalize (ls[j]'(by omega)).length = q at *
      generalize flatN ls j = p at *
      go_wp2_with fail
      exact ⟨⟨j + 1, by omega, by simp, by rw [HW.out], trivial⟩, by simp [intOf]; omega⟩
    · obtain rfl : j = k := by omega
      rw [HN.out]
      have HG := Lib.hid (bgrow_nil w HM0.out (by have := HM.out; omega))
      go_wp2_with fail
      refine HG.out.mono ?_
      rintro e w1 ⟨v0, rfl, kc, ho0⟩
      have HA := Lib.hid (HS.out.keep kc)
      have hsz := kc.size
      have hn0 : flatN ls 0 = 0 := rfl
      have ho1 : w1.ownsRow w.heap.size 5 1 v0 (flatN ls 0) (Lib.byteCells (ls.take 0).flatten) := ho0
      go_wp2_with fail
      go_loopw [6, 8, 27] (fun v _ i wr => ∃ t : Nat, t ≤ j ∧ i = .int .i64 t ∧ Chg [] w wr ∧ wr.ownsRow w.heap.size 5 1 v (flatN ls t) (Lib.byteCells (ls.take t).flatten)) (fun _ _ i _ => j - (intOf i).toNat)
      case atStart => exact ⟨0, by omega, rfl, kc, ho1⟩
      case round =>
        obtain ⟨t, ht, rfl, k1, o1⟩ := hrel
        by_cases hlt : t < j
        · obtain ⟨pa, c, c0, hbs⟩ := (HS.out.keep k1) t (by omega)
          have HB := Lib.hid hbs
          have e1 := flatN_succ (ls := ls) (j := t) (by omega)
          have hb := flatN_le ls (t + 1)
          rw [hk, HN.out] at hb
          have hM := HM.out
          have hsum : flatN ls t + (ls[t]'(by omega)).length ≤ 100000 := by omega
          have HSu := Lib.hid hsum
          have HE := Lib.hid e1
          have HT := Lib.hid (flat_take (ls := ls) (j := t) (by omega))
          have hsz1 := k1.size
          have HO := Lib.hid o1
          clear hbs e1 hb hM hsum o1
          generalize hq : ls[t]'(by omega) = q at *
          generalize flatN ls t = p at *
          generalize (ls.take t).flatten = G at *
          go_wp2_with (at_builtin; refine wpList_append_bs rfl (.tmp 31) (.tmp 32) 34 5 rfl ty23 inf5c w.heap.size _ p G rfl HO.out pa q.length c q rfl rfl HB.out (by have := HSu.out; omega) hsz1 ?_; intro v1 w2 h1)
          go_roundw
          case rel => exact ⟨t + 1, by omega, by simp, Chg.of_below (k1.below0.trans h1.2.1), by rw [HE.out, HT.out]; exact h1.1⟩
          case measure => simp [intOf]; omega
        · obtain rfl : t = j := by omega
          go_wp2_with fail
          go_ret
          rw [HN.out, List.take_of_length_le (by omega), HF.out] at o1
          exact ⟨_, rfl, k1, o1⟩
end Go.Proofs.YtliicpedddcfiaaGreat
namespace Go.Proofs.YtliicpedddcfiaaGreat
open Go.RowKit Go.Lib

set_option maxRecDepth 100000 in
theorem within_any (n lo hi : Int) (w : World) : Calls Tryz.prog 156 #[.int .i64 n, .int .i64 lo, .int .i64 hi] w fun e w' => e = .returned (.bool (decide (lo ≤ n) && decide (n ≤ hi))) ∧ w = w' := by
  by_cases h : lo ≤ n
  · have e1 : decide (lo ≤ n) = true := decide_eq_true h
    go_enter Tryz.func156, Tryz.ntmps156
    go_wp2_with fail
    go_ret
    exact ⟨by simp [h], rfl⟩
  · have e1 : decide (lo ≤ n) = false := decide_eq_false h
    go_enter Tryz.func156, Tryz.ntmps156
    go_wp2_with fail
    go_ret
    exact ⟨by simp, rfl⟩
theorem within_yes (n lo hi : Int) (w : World) (h0 : lo ≤ n) (h1 : n ≤ hi) : Calls Tryz.prog 156 #[.int .i64 n, .int .i64 lo, .int .i64 hi] w fun e w' => e = .returned (.bool true) ∧ w = w' := by
  refine (within_any n lo hi w).mono ?_
  rintro e w' ⟨rfl, rfl⟩
  exact ⟨by rw [decide_eq_true h0, decide_eq_true h1]; rfl, rfl⟩
/-- a frame's bytes ahead of the check sum. -/
def headF (kind epoch seq lba : Nat) (body : List UInt8) : List UInt8 := [[UInt8.ofNat kind, UInt8.ofNat body.length], leB epoch 4, leB seq 8, leB lba 4, body].flatten
def coverF (kind epoch seq lba : Nat) (body : List UInt8) : List UInt8 := headF kind epoch seq lba body ++ List.replicate (60 - (headF kind epoch seq lba body).length) 0
/-- a frame's bytes. -/
def encF (kind epoch seq lba : Nat) (body : List UInt8) : List UInt8 := coverF kind epoch seq lba body ++ leB (crcN (coverF kind epoch seq lba body)) 4
theorem headF_length (kind epoch seq lba : Nat) (body : List UInt8) : (headF kind epoch seq lba body).length = 18 + body.length := by
  simp [headF, leB_length]; omega
theorem coverF_length (kind epoch seq lba : Nat) (body : List UInt8) (h : body.length ≤ 40) : (coverF kind epoch seq lba body).length = 60 := by
  rw [coverF, List.length_append, List.length_replicate, headF_length]; omega
theorem encF_length (kind epoch seq lba : Nat) (body : List UInt8) (h : body.length ≤ 40) : (encF kind epoch seq lba body).length = 64 := by
  rw [encF, List.length_append, leB_length, coverF_length _ _ _ _ _ h]
theorem two_len (a b : UInt8) : [a, b].length = 2 := rfl
theorem small_bs {w : World} {g a b : Nat} {t : TypeId} (h : w.heap[g]? = some (.cells #[.int .u8 a, .int .u8 b] t (0, 0))) (ha : a < 256) (hb : b < 256) : Bs w (some ⟨g, 0, none⟩) [UInt8.ofNat a, UInt8.ofNat b] := by
  refine Bs.row (e := t) (fr := (0, 0)) ?_
  rw [h]
  have e1 : (UInt8.ofNat a).toNat = a := by simp; omega
  have e2 : (UInt8.ofNat b).toNat = b := by simp; omega
  simp [Lib.byteCells, e1, e2]
theorem rws_five {w : World} {E : Nat} {t : TypeId} {p0 p1 p2 p3 p4 : Option Addr} {n0 n1 n2 n3 n4 c0 c1 c2 c3 c4 : Nat} {l0 l1 l2 l3 l4 : List UInt8}
    (h : w.heap[E]? = some (.cells #[.slice p0 n0 c0, .slice p1 n1 c1, .slice p2 n2 c2, .slice p3 n3 c3, .slice p4 n4 c4] t (0, 0))) (b0 : Bs w p0 l0) (b1 : Bs w p1 l1) (b2 : Bs w p2 l2) (b3 : Bs w p3 l3) (b4 : Bs w p4 l4)
    (e0 : l0.length = n0) (e1 : l1.length = n1) (e2 : l2.length = n2) (e3 : l3.length = n3) (e4 : l4.length = n4) : Rws w E 0 [l0, l1, l2, l3, l4] := by
  subst e0 e1 e2 e3 e4
  intro i hi
  rcases (show i = 0 ∨ i = 1 ∨ i = 2 ∨ i = 3 ∨ i = 4 by simp at hi; omega) with rfl | rfl | rfl | rfl | rfl
  · exact ⟨p0, c0, cell_is h 0 rfl, b0⟩
  · exact ⟨p1, c1, cell_is h 1 rfl, b1⟩
  · exact ⟨p2, c2, cell_is h 2 rfl, b2⟩
  · exact ⟨p3, c3, cell_is h 3 rfl, b3⟩
  · exact ⟨p4, c4, cell_is h 4 rfl, b4⟩
set_option maxRecDepth 100000 in
set_option maxHeartbeats 8000000 in
theorem fencode_any (w : World) {kind epoch seq lba n c : Nat} {pa : Option Addr} {body : List UInt8} (h1 : 1 ≤ kind) (h2 : kind ≤ 4) (h3 : epoch < 4294967296) (h4 : seq ≤ 1099511627776) (h5 : lba ≤ 1048576) (hn : body.length = n) (h6 : n ≤ 40) (hb : Bs w pa body) :
    Calls Tryz.prog 133 #[.agg #[.int .i64 kind, .int .i64 epoch, .int .i64 seq, .int .i64 lba, .slice pa n c]] w fun e w' => ∃ g c', e = .returned (.tuple #[.slice (some ⟨g, 0, none⟩) 64 c', .int .i64 0]) ∧ Chg [] w w' ∧ w.heap.size ≤ g ∧ Bs w' (some ⟨g, 0, none⟩) (encF kind epoch seq lba body) ∧ Bt w' g := by
  have k1 : Chg [] w (w.alloc (.cells #[.int .i64 kind, .int .i64 epoch, .int .i64 seq, .int .i64 lba, .slice pa n c] 226)) := Chg.alloc w _
  have K1 := heap_new w (.cells #[.int .i64 kind, .int .i64 epoch, .int .i64 seq, .int .i64 lba, .slice pa n c] 226)
  have HK := Lib.hid (show (1 : Int) ≤ kind ∧ (kind : Int) ≤ 4 by omega)
  have HE := Lib.hid (show (0 : Int) ≤ epoch ∧ (epoch : Int) ≤ 4294967295 by omega)
  have HS := Lib.hid (show (0 : Int) ≤ seq ∧ (seq : Int) ≤ 1099511627776 by omega)
  have HL := Lib.hid (show (0 : Int) ≤ lba ∧ (lba : Int) ≤ 1048576 by omega)
  have e1 : IntKind.u32.wrap (epoch : Int) = epoch := by rw [IntKind.wrap_u32]; omega
  have e2 : IntKind.u64.wrap (seq : Int) = seq := by rw [IntKind.wrap_u64]; omega
  have e3 : IntKind.u32.wrap (lba : Int) = lba := by rw [IntKind.wrap_u32]; omega
  have e4 : IntKind.u8.wrap (kind : Int) = kind := by rw [IntKind.wrap_u8]; omega
  have e5 : IntKind.u8.wrap (n : Int) = n := by rw [IntKind.wrap_u8]; omega
  have e6 : ¬ ((n : Int) > 40) := by omega
  have H3 := Lib.hid h3
  have H4 := Lib.hid (show seq < 18446744073709551616 by omega)
  have H5 := Lib.hid (show lba < 4294967296 by omega)
  have HB := Lib.hid (hb.chg k1)
  have HN := Lib.hid hn
  clear hb h1 h2 h3 h4 h5
  go_enter Tryz.func133, Tryz.ntmps133
  go_upto_region 1 with fail
  generalize w.alloc (.cells #[.int .i64 kind, .int .i64 epoch, .int .i64 seq, .int .i64 lba, .slice pa n c] 226) = w1 at *
  generalize hz : w.heap.size = z at *
  have a0 : w1.cell? ⟨z, 0, none⟩ = some (.int .i64 kind) := cell_is K1 0 rfl
  have a1 : w1.cell? ⟨z, 1, none⟩ = some (.int .i64 epoch) := cell_is K1 1 rfl
  have a2 : w1.cell? ⟨z, 2, none⟩ = some (.int .i64 seq) := cell_is K1 2 rfl
  have a3 : w1.cell? ⟨z, 3, none⟩ = some (.int .i64 lba) := cell_is K1 3 rfl
  have a4 : w1.cell? ⟨z, 4, none⟩ = some (.slice pa n c) := cell_is K1 4 rfl
  go_wp2_with fail
  refine (within_yes _ _ _ _ HK.out.1 HK.out.2).mono ?_
  rintro e w2 ⟨rfl, rfl⟩
  go_wp2_with fail
  refine (within_yes _ _ _ _ HE.out.1 HE.out.2).mono ?_
  rintro e w2 ⟨rfl, rfl⟩
  go_wp2_with fail
  refine (within_yes _ _ _ _ HS.out.1 HS.out.2).mono ?_
  rintro e w2 ⟨rfl, rfl⟩
  go_wp2_with fail
  refine (within_yes _ _ _ _ HL.out.1 HL.out.2).mono ?_
  rintro e w2 ⟨rfl, rfl⟩
  go_upto_region 5 with fail
  have HK8 := Lib.hid (show kind < 256 by have := HK.out; omega)
  have HN8 := Lib.hid (show n < 256 by omega)
  have HH := Lib.hid (show (headF kind epoch seq lba body).length = 18 + n by rw [headF_length, HN.out])
  have kD0 := (Chg.refl [] w1).drew
  have hS : ∀ wx, Chg [] w1 wx → wx.cell? ⟨z, 0, none⟩ = some (.int .i64 kind) ∧ wx.cell? ⟨z, 1, none⟩ = some (.int .i64 epoch) ∧ wx.cell? ⟨z, 2, none⟩ = some (.int .i64 seq) ∧ wx.cell? ⟨z, 3, none⟩ = some (.int .i64 lba) ∧ wx.cell? ⟨z, 4, none⟩ = some (.slice pa n c) := fun wx k => ⟨k.cell a0 (by simp), k.cell a1 (by simp), k.cell a2 (by simp), k.cell a3 (by simp), k.cell a4 (by simp)⟩
  go_cut [4] from 5 (fun v wx => Chg [] w wx ∧ wx.ownsRow z 5 1 v (18 + n) (Lib.byteCells (headF kind epoch seq lba body)))
  case first =>
    go_region_held3 (fun wx => wx.cell? ⟨z, 0, none⟩ = some (.int .i64 kind) ∧ wx.cell? ⟨z, 1, none⟩ = some (.int .i64 epoch) ∧ wx.cell? ⟨z, 2, none⟩ = some (.int .i64 seq) ∧ wx.cell? ⟨z, 3, none⟩ = some (.int .i64 lba) ∧ wx.cell? ⟨z, 4, none⟩ = some (.slice pa n c))
      (first
        | (with_reducible exact hS _ kC1) | (with_reducible exact hS _ kB1) | (with_reducible exact hS _ kA1) | (with_reducible exact hS _ kD0) | (with_reducible exact hS _ kF1)
        | (with_reducible exact hS _ (kC1.then_alloc _)) | (with_reducible exact hS _ (kB1.then_alloc _)) | (with_reducible exact hS _ (kA1.then_alloc _)) | (with_reducible exact hS _ (kD0.then_alloc _))
        | (with_reducible exact hS _ ((kC1.then_alloc _).then_alloc _)) | (with_reducible exact hS _ (Chg.alloc w1 _)) | (with_reducible exact hS _ (Chg.alloc w1 _).drew))
      (first
        | (go_at_call 122; refine (put64_any _ seq H4.out).mono ?_; rintro e wB ⟨gB, rfl, kB, bB, lB⟩; have kB1 : Chg [] w1 wB := (by first | with_reducible exact kA1.then kB | with_reducible exact (kA1.then_alloc _).then kB))
        | (go_at_call 135
           refine Calls.mono (bconcat_any _ (n := 18 + n) (F := headF kind epoch seq lba body) (ls := [[UInt8.ofNat kind, UInt8.ofNat n], leB epoch 4, leB seq 8, leB lba 4, body]) ?_ rfl (by decide) (by rw [headF, HN.out]) HH.out (by omega) (by omega)) ?_
           · first
             | (with_reducible exact rws_five (heap_new _ _) (Bs.chg (Bs.chg (Bs.chg (Bs.chg (Bs.chg (small_bs (heap_new _ _) HK8.out HN8.out) (Chg.refl [] _).drew) kA) kB) kC) (Chg.alloc _ _)) (Bs.chg (Bs.chg (Bs.chg bA kB) kC) (Chg.alloc _ _)) (Bs.chg (Bs.chg bB kC) (Chg.alloc _ _)) (Bs.chg bC (Chg.alloc _ _)) (Bs.chg (Bs.chg HB.out kC1) (Chg.alloc _ _)) (two_len _ _) (leB_length _ _) (leB_length _ _) (leB_length _ _) HN.out)
             | (with_reducible exact rws_five (heap_new _ _) (Bs.chg (Bs.chg (Bs.chg (small_bs (heap_new _ _) HK8.out HN8.out) kB) kC) (Chg.alloc _ _)) (Bs.chg (Bs.chg (Bs.chg (Bs.chg bA (Chg.alloc _ _)) kB) kC) (Chg.alloc _ _)) (Bs.chg (Bs.chg bB kC) (Chg.alloc _ _)) (Bs.chg bC (Chg.alloc _ _)) (Bs.chg (Bs.chg HB.out kC1) (Chg.alloc _ _)) (two_len _ _) (leB_length _ _) (leB_length _ _) (leB_length _ _) HN.out)
             | (with_reducible exact rws_five (heap_new _ _) (Bs.chg (Bs.chg (small_bs (heap_new _ _) HK8.out HN8.out) kC) (Chg.alloc _ _)) (Bs.chg (Bs.chg (Bs.chg (Bs.chg bA kB) (Chg.alloc _ _)) kC) (Chg.alloc _ _)) (Bs.chg (Bs.chg (Bs.chg bB (Chg.alloc _ _)) kC) (Chg.alloc _ _)) (Bs.chg bC (Chg.alloc _ _)) (Bs.chg (Bs.chg HB.out kC1) (Chg.alloc _ _)) (two_len _ _) (leB_length _ _) (leB_length _ _) (leB_length _ _) HN.out)
             | (with_reducible exact rws_five ((two_new _ _ _).2) (small_bs (two_new _ _ _).1 HK8.out HN8.out) (Bs.chg (Bs.chg (Bs.chg (Bs.chg bA kB) kC) (Chg.alloc _ _)) (Chg.alloc _ _)) (Bs.chg (Bs.chg (Bs.chg bB kC) (Chg.alloc _ _)) (Chg.alloc _ _)) (Bs.chg (Bs.chg bC (Chg.alloc _ _)) (Chg.alloc _ _)) (Bs.chg (Bs.chg (Bs.chg HB.out kC1) (Chg.alloc _ _)) (Chg.alloc _ _)) (two_len _ _) (leB_length _ _) (leB_length _ _) (leB_length _ _) HN.out)
           rintro e wF ⟨vF, rfl, kF, oF⟩
           have kF1 : Chg [] w1 wF := (by first | with_reducible exact (kC1.then_alloc _).then kF | with_reducible exact ((kC1.then_alloc _).then_alloc _).then kF))
        | (go_at_call 125; with_reducible refine Calls.mono (put32_any _ epoch H3.out) ?_; rintro e wA ⟨gA, rfl, kA, bA, lA⟩; have kA1 : Chg [] w1 wA := (by first | with_reducible exact kD0.then kA | with_reducible exact ((Chg.alloc w1 _).drew).then kA | with_reducible exact (kD0.then_alloc _).then kA))
        | (go_at_call 125; with_reducible refine Calls.mono (put32_any _ lba H5.out) ?_; rintro e wC ⟨gC, rfl, kC, bC, lC⟩; have kC1 : Chg [] w1 wC := (by first | with_reducible exact kB1.then kC | with_reducible exact (kB1.then_alloc _).then kC)))
    all_goals
      have kw := k1.then kF1
      have oz := own_base (base' := z) oF (by first | exact hz ▸ (k1.then (kC1.then_alloc _)).size | exact hz ▸ (k1.then ((kC1.then_alloc _).then_alloc _)).size)
      clear kF oF hS
      go_wp2_with fail
      go_meet
      exact ⟨kw, oz⟩
  case rest =>
    obtain ⟨kw, oz⟩ := hcut
    obtain ⟨p4, c4, rfl, -⟩ := own_form oz
    have hzc : z ≤ wc.heap.size := hz ▸ kw.size
    have hk42 : (60 : Int) - ((18 + n : Nat) : Int) = ((42 - n : Nat) : Int) := by omega
    have HCo := Lib.hid (show headF kind epoch seq lba body ++ List.replicate (42 - n) 0 = coverF kind epoch seq lba body by rw [coverF, HH.out]; congr 2; omega)
    have HLc := Lib.hid (show (coverF kind epoch seq lba body).length = 18 + n + (42 - n) by rw [coverF_length _ _ _ _ _ (by rw [HN.out]; omega)]; omega)
    have h60 : 18 + n + (42 - n) = 60 := by omega
    have H60 := Lib.hid h60
    have HEn := Lib.hid (show encF kind epoch seq lba body = coverF kind epoch seq lba body ++ leB (crcN (coverF kind epoch seq lba body)) 4 from rfl)
    have HEl := Lib.hid (encF_length kind epoch seq lba body (by rw [HN.out]; omega))
    have OZ := Lib.hid oz
    clear oz hS kD0 K1 a0 a1 a2 a3 a4 e1 e2 e3 e4 e5 e6 h60 hk42 k1
    generalize headF kind epoch seq lba body = hf at *
    generalize coverF kind epoch seq lba body = cf at *
    have hwn : wrap64 (60 - ((18 + n : Nat) : Int)) = ((42 - n : Nat) : Int) := by unfold wrap64; omega
    go_wp2_with (at_builtin; refine wpList_append_zeros rfl (.tmp 57) (.tmp 60) 34 3 5 rfl ty23 .i64 (by kernel_rfl) inf5c z _ (18 + n) hf rfl OZ.out .i64 (42 - n) _ (by omega) rfl (by omega) hzc ?_; intro v5 w5 h5)
    have o5 := h5.1
    rw [HCo.out, H60.out] at o5
    have k5 : Chg [] w w5 := Chg.of_below (Below.trans kw.below0 (by rw [hz]; exact h5.2.1))
    obtain ⟨p5, c5, rfl, -⟩ := own_form o5
    have b5 := Bs.own o5
    have hl5 := HLc.out
    rw [H60.out] at hl5
    refine (crc_of w5 b5 hl5 (by omega)).mono ?_
    rintro e w6 ⟨rfl, k6⟩
    have O6 := Lib.hid (own_keep o5 k6.below0)
    have HCn := Lib.hid (crcN_lt cf)
    have k56 := k5.then k6
    clear h5 o5 b5 hl5 OZ HCo hzc
    have hz6 : z ≤ w6.heap.size := hz ▸ k56.size
    go_wp2_with fail
    refine (put32_any w6 (crcN cf) HCn.out).mono ?_
    rintro e w7 ⟨g7, rfl, k7, b7, l7⟩
    have O7 := Lib.hid (own_keep O6.out k7.below0)
    have B7 := Lib.hid b7
    have hz7 : z ≤ w7.heap.size := hz ▸ (k56.then k7).size
    clear b7
    go_wp2_with (at_builtin; refine wpList_append_bs rfl (.tmp 62) (.tmp 65) 34 5 rfl ty23 inf5c z _ 60 cf rfl O7.out _ 4 4 (leB (crcN cf) 4) rfl (leB_length _ _) B7.out (by omega) hz7 ?_; intro v8 w8 h8)
    go_ret2
    have o8 := h8.1
    rw [← HEn.out] at o8
    obtain ⟨g8, c8, rfl, hb8, hbt⟩ : ∃ g c, v8 = .slice (some ⟨g, 0, none⟩) 64 c ∧ z ≤ g ∧ Bt w8 g := by
      rcases o8.2 with ⟨_, h0⟩ | ⟨g, cap, cur, e, hA, hgt, -⟩
      · omega
      · exact ⟨g, cap, e, hA, cur, hgt⟩
    exact ⟨g8, c8, rfl, Chg.of_below (Below.trans (k56.then k7).below0 (by rw [hz]; exact h8.2.1)), by omega, Bs.own o8, hbt⟩
end Go.Proofs.YtliicpedddcfiaaGreat
namespace Go.Proofs.YtliicpedddcfiaaGreat
open Go.RowKit Go.Lib

theorem nodup_new {w wr : World} {N : Nat} {Z : List Nat} {v : Value} (h : NewInv w wr N Z v) (hn : Z.Nodup) : (Z ++ [wr.heap.size]).Nodup := by
  rw [List.nodup_append]
  refine ⟨hn, by simp, fun a ha b hb => ?_⟩
  rw [List.mem_singleton] at hb
  subst hb
  have := heap_lt (h.2.2.2.2.2.2 a ha).2
  omega
/-- .. and the pointers' block is of its type, the zones are unlike. -/
def NewR2 (w : World) (e : Ending) (w' : World) : Prop :=
  ∃ N A c Z, e = .returned (.tuple #[.pointer (some ⟨N, 0, none⟩), .int .i64 0]) ∧ Chg [] w w' ∧ DevAt w' N A c 0 Z ∧ DevOk N A Z ∧ w.heap.size ≤ N ∧ w.heap.size ≤ A ∧ (∀ z ∈ Z, w.heap.size ≤ z) ∧ (∃ cs, w'.heap[A]? = some (.cells cs 94 (0, 0))) ∧ Z.Nodup
theorem NewInv.done2 {w wr : World} {N : Nat} {Z : List Nat} {v : Value} (h : NewInv w wr N Z v) (h8 : Z.length = 8) (hn : Z.Nodup) : NewR2 w (.returned (.tuple #[.pointer (some ⟨N, 0, none⟩), .int .i64 0])) wr := by
  obtain ⟨hc, hN, hN1, hv, hb, ho, hz⟩ := h
  rcases ho.2 with ⟨rfl, h0⟩ | ⟨A, c, cur, rfl, hA, hh, hle, _, hcs, htk⟩
  · omega
  · refine ⟨N, A, c, Z, rfl, hc, ⟨by rw [h8] at hb; exact hb, by omega, h8, ?_, fun j hj => (hz _ (List.getElem_mem hj)).2⟩, ⟨by omega, ?_, ?_⟩, hN, by omega, fun z hm => by have := (hz z hm).1; omega, ⟨_, hh⟩, hn⟩
    · intro j hj
      refine cell_is hh j ?_
      have h1 : (cur.toList.take (Z.length * 1))[j]? = (ptrs Z)[j]? := by rw [htk]
      rw [List.getElem?_take_of_lt (by omega), Array.getElem?_toList] at h1
      rw [h1]
      simp [ptrs, hj]
    · intro hm; have := (hz _ hm).1; omega
    · intro hm
      have h2 := (hz _ hm).2
      rw [hh] at h2
      injection h2 with h2
      injection h2 with e1 e2
      cases e2
set_option maxRecDepth 100000 in
set_option maxHeartbeats 1000000 in
theorem new_any2 (w : World) : Calls Tryz.prog 17 #[.agg #[.int .i64 8, .int .i64 96]] w (NewR2 w) := by
  go_enter Tryz.func17, Tryz.ntmps17
  go_wp2_with fail
  have hI : NewInv w ((w.alloc (.cells #[.int .i64 8, .int .i64 96] 28)).alloc (.cells #[.int .i64 8, .int .i64 96, .slice none 0 0, .int .i64 0, .int .i64 0, .bool false, .int .i64 0, .bool false] 93)) (w.heap.size + 1) [] (.slice none 0 0) :=
    ⟨chg_two w _ _, by omega, by simp, ⟨_, _, _, rfl⟩, (two_new w _ _).2, World.ownsRow_nil _ _ _ _, fun z hz => by cases hz⟩
  go_loopw [28] (fun i wr => ∃ (j : Nat) (Z : List Nat) (v : Value), i = .int .i64 j ∧ Z.length = j ∧ j ≤ 8 ∧ NewInv w wr (w.heap.size + 1) Z v ∧ Z.Nodup) (fun i _ => 8 - (intOf i).toNat)
  case atStart => exact ⟨0, [], _, rfl, rfl, by omega, hI, List.nodup_nil⟩
  case round =>
    obtain ⟨j, Z, v, rfl, rfl, hj, hN, hnd⟩ := hrel
    clear hI
    by_cases hlt : Z.length < 8
    · obtain ⟨p, m, c, rfl⟩ := hN.2.2.2.1
      have hb := hN.2.2.2.2.1
      have ho := hN.2.2.2.2.2.1
      have hsz := hN.2.2.1
      have e2 : wr.cell? ⟨w.heap.size + 1, 2, none⟩ = some (.slice p m c) := cell_is hb 2 rfl
      have HS := Lib.hid (fun v' w2 => NewInv.step (v' := v') (w2 := w2) hN rfl)
      have HK := Lib.hid (fun v' w2 n xs => NewInv.cell (v' := v') (w2 := w2) (n := n) (xs := xs) hN rfl)
      have hown := ho.alloc (.cells #[.slice none 0 0, .int .i64 0] 97)
      have hlt2 : w.heap.size + 1 + 1 ≤ (wr.alloc (.cells #[.slice none 0 0, .int .i64 0] 97)).heap.size := by simp; omega
      have hnd2 := Lib.hid (nodup_new hN hnd)
      clear hN hb ho
      go_wp2_with (at_builtin; refine wpList_append_lit rfl (.tmp 34) (.tmp 37) 91 94 rfl ty128 inf131 rfl (by decide) (w.heap.size + 1 + 1) _ [.pointer (some ⟨wr.heap.size, 0, none⟩)] 1 rfl _ Z.length (ptrs Z) rfl hown (by omega) (by decide) hlt2 (k := 0) rfl (by simp [Value.oneCell']) rfl 1 (by simp [go_sem]) ?_; intro v' w2 hap; obtain ⟨pa', c', rfl⟩ := own_slice hap.1; obtain ⟨k1, k2⟩ := HK.out _ _ _ _ hap)
      have hst := HS.out _ _ hap
      go_roundw
      case rel => exact ⟨Z.length + 1, Z ++ [wr.heap.size], _, by go_num, by simp, by omega, hst, hnd2.out⟩
      case measure => simp [intOf]; omega
    · have hD := hN.done2 (by omega) hnd
      go_wp2_with fail
      go_ret2
      exact hD
/-- what else a store holds: its slots are empty, its device's blocks are apart. -/
def ExAt (w : World) (S N A : Nat) (Z : List Nat) : Prop := SlotAt w S N ∧ (∃ cs, w.heap[A]? = some (.cells cs 94 (0, 0))) ∧ Z.Nodup
theorem ExAt.keep {w w' : World} {T : List Nat} {S N A : Nat} {Z : List Nat} (h : ExAt w S N A Z) (hc : Chg T w w') (h1 : S ∉ T) (h2 : A ∉ T) : ExAt w' S N A Z := by
  obtain ⟨a, ⟨cs, b⟩, c⟩ := h
  exact ⟨hc.heap a h1, ⟨cs, hc.heap b h2⟩, c⟩
theorem ExAt.keep0 {w w' : World} {S N A : Nat} {Z : List Nat} (h : ExAt w S N A Z) (hc : Chg [] w w') : ExAt w' S N A Z := h.keep hc (by simp) (by simp)
theorem ExAt.keepO {w w' : World} {base S N A : Nat} {Z : List Nat} (h : ExAt w S N A Z) (hc : Ow base w w') : ExAt w' S N A Z := by
  obtain ⟨a, ⟨cs, b⟩, c⟩ := h
  exact ⟨hc.heap a (by simp), ⟨cs, hc.heap b (by simp)⟩, c⟩
end Go.Proofs.YtliicpedddcfiaaGreat
namespace Go.Proofs.YtliicpedddcfiaaGreat
open Go.RowKit Go.Lib

theorem ty132 : Tryz.prog.underlying 95 = some (.slice 34) := by kernel_rfl
theorem inf23 : (Tryz.prog.info? 34).map (fun i => (i.zero, i.size, i.bytes)) = some (some (.slice none 0 0), 1, 24) := by kernel_rfl
/-- some bytes are put behind the rows of an own row, as a step of a region that draws. -/
theorem step_append_bk {ops : Array Oper} {o : Oper} {a : Act} {w : World} {K : Act → World → Prop} {Q : Exit → Act → World → Prop} {E : Prop} (hgd : o.guard = none) (s x : Operand)
    (ho : o.op = .call { callee := .builtin .append, args := #[s, x], argTypes := #[95, 95] }) (base : Nat) (v : Value) (n : Nat) (xs : List Value) (hs : a.eval s = v) (hown : w.ownsRow base 34 1 v n xs) (b c : Nat) (u0 : Value)
    (hx : a.eval x = .slice (some ⟨b, 0, none⟩) 1 c) (c0 : w.cell? ⟨b, 0, none⟩ = some u0) (h1 : u0.oneCell' = true) (hn : n ≤ 1000000) (hbase : base ≤ w.heap.size)
    (h : ∀ g cap w', w'.ownsRow base 34 1 (.slice (some ⟨g, 0, none⟩) (n + 1) cap) (n + 1) (xs ++ [u0]) → Chg v.ownBlock.toList w w' → (v.ownBlock = some g ∨ g = w.heap.size) → K (a.put o.dst (.slice (some ⟨g, 0, none⟩) (n + 1) cap)) w') :
    if Region.wanted o (yielded ops a.tmps) = true then Oper.wp Tryz.prog o a w K Q else E := by
  obtain ⟨i, hi0, hz, hz1, hz2⟩ := info_parts inf23
  refine step_append_lies w hgd s x 95 ho base 34 i _ 1 24 ty132 hi0 hz hz1 hz2 rfl (by decide) v n xs hs hown ⟨b, 0, none⟩ 1 c [u0] hx rfl ?_ ?_ (by decide) (by unfold maxLen; omega) (by omega) hbase _ rfl ?_
  · intro j u hu
    rw [add_lit, Nat.zero_add]
    match j with
    | 0 => cases hu; exact c0
    | j + 1 => simp at hu
  · intro u hu
    simp at hu
    rcases hu with rfl
    exact h1
  · intro g cap w' h2 h3 h4 _
    refine h g cap w' h2 ?_ h4
    cases hv : v.ownBlock with
    | none => rw [hv] at h3; exact Chg.of_grown0 h3
    | some k => rw [hv] at h3; exact Chg.of_grown h3
/-- rows of bytes in a row of slices. -/
def RowsAt (w : World) (base : Nat) (v : Value) (l : List (List UInt8)) : Prop :=
  ∃ xs, w.ownsRow base 34 1 v l.length xs ∧ ∀ i (h : i < l.length), ∃ g c, xs[i]? = some (.slice (some ⟨g, 0, none⟩) 64 c) ∧ Bs w (some ⟨g, 0, none⟩) l[i] ∧ l[i].length = 64 ∧ Bt w g
theorem Bt.keep {w w' : World} {T : List Nat} {g : Nat} (h : Bt w g) (hc : Chg T w w') (hg : g ∉ T) : Bt w' g := by
  obtain ⟨cs, h⟩ := h
  exact ⟨cs, hc.heap h hg⟩
theorem Bt.av {w : World} {T ts : List Nat} {g : Nat} (h : Bt w g) (hT : Av w T ts) (h5 : 5 ∈ ts) : g ∉ T := by
  obtain ⟨cs, h⟩ := h
  exact hT.ne h h5
theorem RowsAt.nil (w : World) (base : Nat) : RowsAt w base (.slice none 0 0) [] := ⟨[], World.ownsRow_nil _ _ _ _, fun i h => by simp at h⟩
theorem RowsAt.keep {w w' : World} {T : List Nat} {base : Nat} {v : Value} {l : List (List UInt8)} (h : RowsAt w base v l) (hc : Chg T w w') (hT : Av w T [5]) (hv : ∀ g, v.ownBlock = some g → g ∉ T) : RowsAt w' base v l := by
  obtain ⟨xs, ho, hx⟩ := h
  refine ⟨xs, ?_, fun i hi => ?_⟩
  · refine ⟨ho.1, ?_⟩
    rcases ho.2 with hn | ⟨g, cap, cur, rfl, hb, hg, rest⟩
    · exact Or.inl hn
    · exact Or.inr ⟨g, cap, cur, rfl, hb, hc.heap hg (hv g rfl), rest⟩
  · obtain ⟨g, c, h1, h2, h3, h4⟩ := hx i hi
    have hg := h4.av hT (by simp)
    exact ⟨g, c, h1, h2.chgT hc hg, h3, h4.keep hc hg⟩
/-- .. when a row is put behind them. -/
theorem RowsAt.push {w w' : World} {base g gb cb cap : Nat} {v : Value} {l : List (List UInt8)} {b : List UInt8} {xs : List Value} (hx : ∀ i (h : i < l.length), ∃ g c, xs[i]? = some (.slice (some ⟨g, 0, none⟩) 64 c) ∧ Bs w (some ⟨g, 0, none⟩) l[i] ∧ l[i].length = 64 ∧ Bt w g)
    (hl : xs.length = l.length) (hv : ∀ g, v.ownBlock = some g → ∃ cs, w.heap[g]? = some (.cells cs 34 (0, 0))) (ho : w'.ownsRow base 34 1 (.slice (some ⟨g, 0, none⟩) (l.length + 1) cap) (l.length + 1) (xs ++ [.slice (some ⟨gb, 0, none⟩) 64 cb])) (hc : Chg v.ownBlock.toList w w')
    (hb : Bs w (some ⟨gb, 0, none⟩) b) (hb4 : b.length = 64) (hbt : Bt w gb) : RowsAt w' base (.slice (some ⟨g, 0, none⟩) (l.length + 1) cap) (l ++ [b]) := by
  have hne : ∀ {k}, Bt w k → k ∉ v.ownBlock.toList := by
    intro k hk hm
    have hm' : v.ownBlock = some k := by simpa using hm
    obtain ⟨cs, h1⟩ := hv k hm'
    obtain ⟨cs2, h2⟩ := hk
    rw [h1] at h2
    cases h2
  refine ⟨xs ++ [.slice (some ⟨gb, 0, none⟩) 64 cb], by rw [List.length_append]; exact ho, fun i hi => ?_⟩
  by_cases h : i < l.length
  · obtain ⟨g, c, h1, h2, h3, h4⟩ := hx i h
    rw [List.getElem_append_left h]
    exact ⟨g, c, by rw [List.getElem?_append_left (by omega)]; exact h1, h2.chgT hc (hne h4), h3, h4.keep hc (hne h4)⟩
  · have hi2 : i = l.length := by simp at hi; omega
    subst hi2
    refine ⟨gb, cb, by rw [← hl]; simp, ?_, ?_, hbt.keep hc (hne hbt)⟩
    · rw [List.getElem_append_right (Nat.le_refl _)]
      simpa using hb.chgT hc (hne hbt)
    · rw [List.getElem_append_right (Nat.le_refl _)]
      simpa using hb4
/-- block N is a device of eight zones: zone j has the row vs j of the blocks zs j, of which gs j are for good. -/
structure DevG (w : World) (base N A c : Nat) (ops : Int) (Z : List Nat) (vs : Nat → Value) (gs : Nat → Nat) (zs : Nat → List (List UInt8)) : Prop where
  hdr : w.heap[N]? = some (.cells #[.int .i64 8, .int .i64 96, .slice (some ⟨A, 0, none⟩) 8 c, .int .i64 ops, .int .i64 0, .bool false, .int .i64 0, .bool false] 93 (0, 0))
  cap : 8 ≤ c
  len : Z.length = 8
  tA : ∃ cs, w.heap[A]? = some (.cells cs 94 (0, 0))
  ptr : ∀ j (h : j < Z.length), w.cell? ⟨A, j, none⟩ = some (.pointer (some ⟨Z[j], 0, none⟩))
  zone : ∀ j (h : j < Z.length), w.heap[Z[j]]? = some (.cells #[vs j, .int .i64 (gs j : Nat)] 97 (0, 0))
  rows : ∀ j, j < 8 → RowsAt w base (vs j) (zs j)
  apart : ∀ i j g, i < 8 → j < 8 → i ≠ j → (vs i).ownBlock = some g → (vs j).ownBlock ≠ some g
  nodup : Z.Nodup
theorem DevAt.full {w : World} {S N A c : Nat} {ops : Int} {Z : List Nat} (h : DevAt w N A c ops Z) (hx : ExAt w S N A Z) (base : Nat) : DevG w base N A c ops Z (fun _ => .slice none 0 0) (fun _ => 0) (fun _ => []) :=
  ⟨h.1, h.2.1, h.2.2.1, hx.2.1, h.2.2.2.1, h.2.2.2.2, fun _ _ => RowsAt.nil w base, fun _ _ _ _ _ _ e => by simp [Value.ownBlock] at e, hx.2.2⟩
theorem RowsAt.block {w : World} {base : Nat} {v : Value} {l : List (List UInt8)} (h : RowsAt w base v l) : ∀ g, v.ownBlock = some g → ∃ cs, w.heap[g]? = some (.cells cs 34 (0, 0)) := by
  intro g hg
  obtain ⟨xs, ho, -⟩ := h
  exact (own_elem ho hg).2
/-- .. when the blocks that change are none of a device's. -/
theorem DevG.keep {w w' : World} {T : List Nat} {base N A c : Nat} {ops : Int} {Z : List Nat} {vs : Nat → Value} {gs : Nat → Nat} {zs : Nat → List (List UInt8)} (h : DevG w base N A c ops Z vs gs zs) (hc : Chg T w w') (hT : Av w T [93, 94, 97, 34, 5]) : DevG w' base N A c ops Z vs gs zs := by
  have hA : A ∉ T := by
    obtain ⟨cs, hA⟩ := h.tA
    exact hT.ne hA (by simp)
  refine ⟨hc.heap h.hdr (hT.ne h.hdr (by simp)), h.cap, h.len, ?_, fun j hj => hc.cell (h.ptr j hj) hA, fun j hj => hc.heap (h.zone j hj) (hT.ne (h.zone j hj) (by simp)), fun j hj => (h.rows j hj).keep hc (fun x hx cs t fr hh ht => hT x hx cs t fr hh (by simp at ht; simp [ht])) (fun g hg => ?_), h.apart, h.nodup⟩
  · obtain ⟨cs, hA'⟩ := h.tA
    exact ⟨cs, hc.heap hA' hA⟩
  · obtain ⟨cs, hb⟩ := (h.rows j hj).block g hg
    exact hT.ne hb (by simp)
set_option maxRecDepth 100000 in
theorem dgone_any (w : World) {base N A c : Nat} {ops : Int} {Z : List Nat} {vs : Nat → Value} {gs : Nat → Nat} {zs : Nat → List (List UInt8)} (h : DevG w base N A c ops Z vs gs zs) : Calls Tryz.prog 56 #[.pointer (some ⟨N, 0, none⟩)] w fun e w' => e = .returned (.bool false) ∧ w = w' := by
  have e2 : w.cell? ⟨N, 2, none⟩ = some (.slice (some ⟨A, 0, none⟩) 8 c) := cell_is h.hdr 2 rfl
  clear h
  go_enter Tryz.func56, Tryz.ntmps56
  go_wp2_with fail
  go_ret
  exact ⟨rfl, rfl⟩
set_option maxRecDepth 100000 in
theorem dat_any (w : World) {base N A c : Nat} {ops : Int} {Z : List Nat} {vs : Nat → Value} {gs : Nat → Nat} {zs : Nat → List (List UInt8)} (h : DevG w base N A c ops Z vs gs zs) (j : Nat) (hj : j < Z.length) : Calls Tryz.prog 108 #[.pointer (some ⟨N, 0, none⟩), .int .i64 j] w fun e w' => e = .returned (.pointer (some ⟨Z[j], 0, none⟩)) ∧ w = w' := by
  have HG := Lib.hid (dgone_any w h)
  have hc := h.cap
  have hz := h.len
  have e2 : w.cell? ⟨N, 2, none⟩ = some (.slice (some ⟨A, 0, none⟩) 8 c) := cell_is h.hdr 2 rfl
  have e3 := h.ptr j hj
  have hj8 : j < 8 := by omega
  clear h
  generalize Z[j] = z at *
  go_enter Tryz.func108, Tryz.ntmps108
  go_wp2_with fail
  refine HG.out.mono ?_
  rintro e w1 ⟨rfl, rfl⟩
  go_wp2_with fail
  go_ret
  exact ⟨rfl, rfl⟩
set_option maxRecDepth 100000 in
theorem dbegin_any (w : World) {base N A c : Nat} {ops : Int} {Z : List Nat} {vs : Nat → Value} {gs : Nat → Nat} {zs : Nat → List (List UInt8)} (h : DevG w base N A c ops Z vs gs zs) (h0 : 0 ≤ ops) (h1 : ops ≤ 1000000) : Calls Tryz.prog 106 #[.pointer (some ⟨N, 0, none⟩)] w fun e w' => e = .returned (.bool true) ∧ Chg [N] w w' ∧ DevG w' base N A c (ops + 1) Z vs gs zs := by
  have hfin : ∀ w', w' = (w.setCell ⟨N, 3, none⟩ (.int .i64 (ops + 1))).setCell ⟨N, 7, none⟩ (.bool false) → Chg [N] w w' ∧ DevG w' base N A c (ops + 1) Z vs gs zs := by
    rintro w' rfl
    have hc := (Chg.set w N 3 (.int .i64 (ops + 1))).then (Chg.set _ N 7 (.bool false))
    have hne : ∀ {g : Nat} {cs : Array Value} {t : TypeId}, w.heap[g]? = some (.cells cs t (0, 0)) → t ≠ 93 → g ∉ [N] := by
      intro g cs t hg ht hm
      rw [List.mem_singleton] at hm
      subst hm
      rw [h.hdr] at hg
      cases hg
      exact ht rfl
    obtain ⟨cA, hA⟩ := h.tA
    refine ⟨hc, heap_set (heap_set h.hdr 3 _ rfl) 7 _ rfl, h.cap, h.len, ⟨cA, hc.heap hA (hne hA (by decide))⟩, fun j hj => hc.cell (h.ptr j hj) (hne hA (by decide)), fun j hj => hc.heap (h.zone j hj) (hne (h.zone j hj) (by decide)), fun j hj => (h.rows j hj).keep hc (Av.row h.hdr (by simp)) (fun g hg => ?_), h.apart, h.nodup⟩
    obtain ⟨cs, hb⟩ := (h.rows j hj).block g hg
    exact hne hb (by decide)
  have e3 : w.cell? ⟨N, 3, none⟩ = some (.int .i64 ops) := cell_is h.hdr 3 rfl
  have e5 : w.cell? ⟨N, 5, none⟩ = some (.bool false) := cell_is h.hdr 5 rfl
  have e7 : w.cell? ⟨N, 7, none⟩ = some (.bool false) := cell_is h.hdr 7 rfl
  have f3 := unfrozen h.hdr 3
  have f7 := unfrozen h.hdr 7
  have HF := Lib.hid hfin
  clear h hfin
  go_enter Tryz.func106, Tryz.ntmps106
  go_wp2_with fail
  go_ret
  exact ⟨rfl, HF.out _ rfl⟩
end Go.Proofs.YtliicpedddcfiaaGreat
