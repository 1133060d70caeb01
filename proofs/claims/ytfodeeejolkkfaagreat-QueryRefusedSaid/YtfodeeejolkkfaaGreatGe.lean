/- Lemmas and walks: Walks: a span is added to a set of one span at most, which it meets. Walks: a view reads one block. Walks: the store's Read of one block; what stands of a store with one transaction. Walks: a view without writes of its own reads many blocks that were never written. Walks: the store's Read of many blocks that were never written. Walks: many cells of a store that was never written. Walks: many cells of a store that was never written are noughts. Walks: the reference's manager is made. Walks: the reference's manager begins a transaction. Walks: the reference's Begin; a world of law 26 begins. Walks: the numbers of a cell's block. -/
import Derived.Deep.AppendLies
import Derived.Test.YtfodeeejolkkfaaGreatGd
namespace Go.Proofs.YtfodeeejolkkfaaGreat
open Go.RowKit Go.Lib

/-- a set of just these spans. -/
def SpX (w : World) (base V : Nat) (l : List (Int × Int)) : Prop := ∃ v, SpansAt w V v ∧ w.ownsRow base 117 2 v l.length (spCells l)
theorem SpX.keep {w w' : World} {S : List Nat} {base V : Nat} {l : List (Int × Int)} (h : SpX w base V l) (hc : Chg S w w') (hS : Av w S [117, 312]) : SpX w' base V l := by
  obtain ⟨v, h1, h3⟩ := h
  refine ⟨v, hc.heap h1 (hS.ne h1 (by simp)), h3.1, ?_⟩
  rcases h3.2 with hn | ⟨g, cap, cur, hv, hb, hg, rest⟩
  · exact Or.inl hn
  · exact Or.inr ⟨g, cap, cur, hv, hb, hc.heap hg (hS.ne hg (by simp)), rest⟩
theorem SpX.keep0 {w w' : World} {base V : Nat} {l : List (Int × Int)} (h : SpX w base V l) (hc : Chg [] w w') : SpX w' base V l := h.keep hc (Av.nil _ _)
/-- no span, or one that a new one meets from within or at its end. -/
def Ext (l : List (Int × Int)) (b _n : Int) : Prop := l = [] ∨ ∃ a k, l = [(a, k)] ∧ 0 ≤ a ∧ a ≤ b ∧ b ≤ a + k ∧ a + k ≤ 258
def addSp (l : List (Int × Int)) (b n : Int) : List (Int × Int) :=
  match l with
  | [] => [(b, n)]
  | (a, k) :: _ => [(a, max k (b + n - a))]
theorem addSp_len (l : List (Int × Int)) (b n : Int) : (addSp l b n).length = 1 := by
  unfold addSp
  split <;> rfl
theorem Ext.len {l : List (Int × Int)} {b n : Int} (h : Ext l b n) : l.length ≤ 1 := by
  rcases h with rfl | ⟨a, k, rfl, _⟩ <;> simp
theorem sorted_one (p : Int × Int) : sortedOf [p] = [p] := by
  unfold sortedOf Sort.insertionSort
  rw [Sort.insOuter, if_neg (by simp)]
theorem sorted_two {p q : Int × Int} (h : p.1 ≤ q.1) : sortedOf [p, q] = [p, q] := by
  have hc : ltOf (fun x y : Int × Int => Lib.compareInt x.1 y.1) q p = false := by
    unfold ltOf Lib.compareInt
    simp only [decide_eq_false_iff_not]
    split
    · omega
    · split <;> omega
  unfold sortedOf Sort.insertionSort
  rw [Sort.insOuter, if_pos (by simp), Sort.insOuter, if_neg (by simp)]
  simp [Sort.insInner, hc]
theorem join_ext {l : List (Int × Int)} {b n : Int} (hx : Ext l b n) (h0 : 0 ≤ b) (hn : 1 ≤ n) (h1 : b + n ≤ 258) : (sortedOf (l ++ [(b, n)])).foldl jstep [] = addSp l b n := by
  rcases hx with rfl | ⟨a, k, rfl, ha, hab, hbk, hk⟩
  · rw [List.nil_append, sorted_one]; rfl
  · rw [List.singleton_append, sorted_two (by exact hab)]
    show jstep [(a, k)] (b, n) = _
    rw [jstep_join (k := 0) (p := a) (q := k) rfl rfl rfl (by unfold wrap64; omega)]
    have e1 : wrap64 (b + n) = b + n := by unfold wrap64; omega
    have e2 : wrap64 (b + n - a) = b + n - a := by unfold wrap64; omega
    simp only [e1, e2, addSp, List.set_cons_zero]
set_option maxRecDepth 100000 in
theorem imay_any (w : World) {b n : Int} (h0 : 0 ≤ b) (hn : 1 ≤ n) (h1 : b + n ≤ 258) : Calls Tryz.prog 245 #[.agg #[.int .i64 b, .int .i64 n]] w fun e w' => e = .returned (.bool true) ∧ Chg [] w w' := by
  have kc : Chg [] w (w.alloc (.cells #[.int .i64 b, .int .i64 n] 117)) := Chg.alloc w _
  have n0 : decide (0 ≤ b) = true := decide_eq_true h0
  have n1 : decide (b ≤ 1048576) = true := decide_eq_true (by omega)
  have n2 : decide (1 ≤ n) = true := decide_eq_true hn
  have n3 : decide (n ≤ 1048576) = true := decide_eq_true (by omega)
  have hw : IntKind.i64.wrap (b + n) = b + n := by rw [IntKind.wrap_i64]; omega
  have n4 : decide (b + n ≤ 1048577) = true := decide_eq_true (by omega)
  go_enter Tryz.func245, Tryz.ntmps245
  go_wp2_with fail
  go_ret
  exact ⟨by first | rfl | (simp; omega), kc⟩
set_option maxRecDepth 100000 in
theorem inot_any (w : World) {b n : Int} (h0 : 0 ≤ b) (hn : 1 ≤ n) (h1 : b + n ≤ 258) : Calls Tryz.prog 244 #[.agg #[.int .i64 b, .int .i64 n]] w fun e w' => e = .returned (.bool false) ∧ Chg [] w w' := by
  have kc : Chg [] w (w.alloc (.cells #[.int .i64 b, .int .i64 n] 117)) := Chg.alloc w _
  go_enter Tryz.func244, Tryz.ntmps244
  go_wp2_with fail
  refine (imay_any _ h0 hn h1).mono ?_
  rintro e w2 ⟨rfl, k2⟩
  go_wp2_with fail
  go_ret
  exact ⟨rfl, kc.then k2⟩
set_option maxRecDepth 100000 in
theorem iall_any (w : World) {E eo cp : Nat} {b n : Int} (h0 : 0 ≤ b) (hn : 1 ≤ n) (h1 : b + n ≤ 258) (e0 : w.cell? ⟨E, eo, none⟩ = some (.int .i64 b)) (e1 : w.cell? ⟨E, eo + 1, none⟩ = some (.int .i64 n)) : Calls Tryz.prog 220 #[.slice (some ⟨E, eo, none⟩) 1 cp] w fun e w' => e = .returned (.bool true) ∧ Chg [] w w' := by
  go_enter Tryz.func220, Tryz.ntmps220
  go_wp2_with fail
  refine (contspan_one w e0 e1 (inot_any w h0 hn h1)).mono ?_
  rintro e w2 ⟨rfl, k2⟩
  go_wp2_with fail
  go_ret
  exact ⟨rfl, k2⟩
set_option maxRecDepth 100000 in
set_option maxHeartbeats 2000000 in
theorem iadd_ext (w : World) {base V E cp : Nat} {b n : Int} {l : List (Int × Int)} (h : SpX w base V l) (hx : Ext l b n) (hbase : base ≤ w.heap.size) (h0 : 0 ≤ b) (hn : 1 ≤ n) (h1 : b + n ≤ 258) (e0 : w.cell? ⟨E, 0, none⟩ = some (.int .i64 b)) (e1 : w.cell? ⟨E, 1, none⟩ = some (.int .i64 n)) :
    Calls Tryz.prog 197 #[.pointer (some ⟨V, 0, none⟩), .slice (some ⟨E, 0, none⟩) 1 cp] w fun e w' => e = .returned (.int .i64 0) ∧ Chg [V] w w' ∧ SpX w' base V (addSp l b n) := by
  have HJ := Lib.hid (join_ext hx h0 hn h1)
  have hl := hx.len
  obtain ⟨v, hV, ho⟩ := h
  obtain ⟨pa, c, rfl, hq⟩ := own_spq ho
  have hE : SpQ w (some ⟨E, 0, none⟩) [(b, n)] := Or.inr ⟨E, 0, rfl, fun j u hu => by
    rw [Nat.zero_add]
    match j with
    | 0 => cases hu; exact e0
    | 1 => cases hu; exact e1
    | j + 2 => simp [spCells] at hu⟩
  have v1 : w.cell? ⟨V, 1, none⟩ = some (.slice pa l.length c) := cell_is hV 1 rfl
  go_enter Tryz.func197, Tryz.ntmps197
  go_wp2_with fail
  refine (iall_any w (cp := cp) h0 hn h1 e0 e1).mono ?_
  rintro e w1 ⟨rfl, k1⟩
  have v2 := k1.cell v1 (by simp)
  have hq2 := hq.keep k1
  have hE2 := hE.keep k1
  have hV2 := k1.heap hV (by simp)
  have ho2 := ownsRow_chg ho k1
  clear e0 e1 v1 hV hq hE ho
  go_wp2_with fail
  have kx : Chg [] w1 (w1.alloc (.cells #[.slice pa l.length c, .slice (some ⟨E, 0, none⟩) 1 cp] 217)) := Chg.alloc _ _
  have x0 : (w1.alloc (.cells #[.slice pa l.length c, .slice (some ⟨E, 0, none⟩) 1 cp] 217)).cell? ⟨w1.heap.size, 0, none⟩ = some (.slice pa l.length c) := cell_is (heap_new w1 _) 0 rfl
  have x1 : (w1.alloc (.cells #[.slice pa l.length c, .slice (some ⟨E, 0, none⟩) 1 cp] 217)).cell? ⟨w1.heap.size, 1, none⟩ = some (.slice (some ⟨E, 0, none⟩) 1 cp) := cell_is (heap_new w1 _) 1 rfl
  refine (concat_two _ x0 x1 rfl rfl (by omega) (by omega) (by omega) (hq2.keep kx) (hE2.keep kx)).mono ?_
  rintro e w2 ⟨v', rfl, k2, o2⟩
  obtain ⟨g, cap, cur, rfl, hgb, hgc, hgs, _, hgl⟩ := own_sp o2 (by simp)
  have k3 := (k1.then kx).then k2
  go_wp2_with fail
  refine (joined_fold w2 hgl (by omega) (by omega) hgs).mono ?_
  rintro e w3 ⟨v3, l3, rfl, k4, hl3, o3⟩
  rw [HJ.out] at hl3
  rw [hl3, addSp_len] at o3
  clear hl3
  have k5 := k3.then k4
  have hV3 : SpansAt w3 V (.slice pa l.length c) := ((kx.then k2).then k4).heap hV2 (by simp)
  have c0 : w3.cell? ⟨V, 0, none⟩ = some (.int .i64 64) := cell_is hV3 0 rfl
  have c1 : w3.cell? ⟨V, 1, none⟩ = some (.slice pa l.length c) := cell_is hV3 1 rfl
  have f1 := unfrozen hV3 1
  obtain ⟨pq, cq, hv3, hcq⟩ := own_form o3
  subst hv3
  have hsz := k3.size
  have HF := Lib.hid (show SpX (w3.setCell ⟨V, 1, none⟩ (.slice pq 1 cq)) base V (addSp l b n) from by
    refine ⟨_, heap_set hV3 1 _ rfl, ?_⟩
    have kk := Chg.set w3 V 1 (.slice pq 1 cq)
    refine ownsRow_base (base := w2.heap.size) ?_ (by omega)
    rw [addSp_len]
    refine ownsRow_chg o3 kk ?_
    intro x hx
    have := heap_lt hV2
    have := (kx.then k2).size
    simp at hx
    omega)
  clear k3 k4 o3 hV3 hV2 x0 x1 hgs hgc o2 hq2 hE2
  go_wp2_with fail
  go_ret
  exact ⟨rfl, (k5.mono (T := [V]) (fun x hx _ => by cases hx)).then (Chg.set w3 V 1 _), HF.out⟩
end Go.Proofs.YtfodeeejolkkfaaGreat
namespace Go.Proofs.YtfodeeejolkkfaaGreat
open Go.RowKit Go.Lib

theorem ty68 : Tryz.prog.underlying 68 = some (.slice 285) := by kernel_rfl
theorem inf285 : (Tryz.prog.info? 285).map (fun i => (i.zero, i.size, i.bytes)) = some (some (.agg #[.int .i64 0, .slice none 0 0, .bool false]), 3, 40) := by kernel_rfl
/-- one read is put behind reads of an own row, as a step of a region that draws. -/
theorem step_append_rd {ops : Array Oper} {o : Oper} {a : Act} {w : World} {K : Act → World → Prop} {Q : Exit → Act → World → Prop} {E : Prop} (hgd : o.guard = none) (s x : Operand)
    (ho : o.op = .call { callee := .builtin .append, args := #[s, x], argTypes := #[68, 68] }) (base : Nat) (v : Value) (n : Nat) (xs : List Value) (hs : a.eval s = v) (hown : w.ownsRow base 285 3 v n xs) (b c : Nat) (u0 u1 u2 : Value)
    (hx : a.eval x = .slice (some ⟨b, 0, none⟩) 1 c) (c0 : w.cell? ⟨b, 0, none⟩ = some u0) (c1 : w.cell? ⟨b, 1, none⟩ = some u1) (c2 : w.cell? ⟨b, 2, none⟩ = some u2) (h1 : u0.oneCell' = true ∧ u1.oneCell' = true ∧ u2.oneCell' = true) (hn : n ≤ 1000000) (hbase : base ≤ w.heap.size)
    (h : ∀ g cap w', w'.ownsRow base 285 3 (.slice (some ⟨g, 0, none⟩) (n + 1) cap) (n + 1) (xs ++ [u0, u1, u2]) → Chg v.ownBlock.toList w w' → K (a.put o.dst (.slice (some ⟨g, 0, none⟩) (n + 1) cap)) w') :
    if Region.wanted o (yielded ops a.tmps) = true then Oper.wp Tryz.prog o a w K Q else E := by
  obtain ⟨i, hi0, hz, hz1, hz2⟩ := info_parts inf285
  refine step_append_lies w hgd s x 68 ho base 285 i _ 3 40 ty68 hi0 hz hz1 hz2 rfl (by decide) v n xs hs hown ⟨b, 0, none⟩ 1 c [u0, u1, u2] hx rfl ?_ ?_ (by decide) (by unfold maxLen; omega) (by omega) hbase _ rfl ?_
  · intro j u hu
    rw [add_lit, Nat.zero_add]
    match j with
    | 0 => cases hu; exact c0
    | 1 => cases hu; exact c1
    | 2 => cases hu; exact c2
    | j + 3 => simp at hu
  · intro u hu
    simp at hu
    rcases hu with rfl | rfl | rfl
    · exact h1.1
    · exact h1.2.1
    · exact h1.2.2
  · intro g cap w' h2 h3 _ _
    refine h g cap w' h2 ?_
    cases hv : v.ownBlock with
    | none => rw [hv] at h3; exact Chg.of_grown0 h3
    | some k => rw [hv] at h3; exact Chg.of_grown h3
/-- a block's bytes in a buffer, or noughts. -/
def Blk (w : World) (L : List (Int × Value)) (b : Int) (l : List UInt8) : Prop := (getL L b = none ∧ l = zeroB) ∨ ∃ g c, getL L b = some (.slice (some ⟨g, 0, none⟩) 40 c) ∧ Bs w (some ⟨g, 0, none⟩) l ∧ l.length = 40 ∧ Bt w g
/-- a view, with at most n reads in a row behind base. -/
def Vw (w : World) (base Q X W V n : Nat) : Prop := ∃ s m xs, ViewAt w Q X W V s ∧ m ≤ n ∧ w.ownsRow base 285 3 s m xs
theorem Vw.keep {w w' : World} {S : List Nat} {base Q X W V n : Nat} (h : Vw w base Q X W V n) (hc : Chg S w w') (hS : Av w S [275, 285]) : Vw w' base Q X W V n := by
  obtain ⟨s, m, xs, h1, h2, h3⟩ := h
  refine ⟨s, m, xs, hc.heap h1 (hS.ne h1 (by simp)), h2, h3.1, ?_⟩
  rcases h3.2 with hn | ⟨g, cap, cur, hv, hb, hg, rest⟩
  · exact Or.inl hn
  · exact Or.inr ⟨g, cap, cur, hv, hb, hc.heap hg (hS.ne hg (by simp)), rest⟩
theorem Blk.len {w : World} {L : List (Int × Value)} {b : Int} {l : List UInt8} (h : Blk w L b l) : l.length = 40 := by
  rcases h with ⟨_, rfl⟩ | ⟨g, c, _, _, h, _⟩
  · rfl
  · exact h
/-- a buffer's Get. -/
theorem bget_any (w : World) {W rw : Nat} {L : List (Int × Value)} {b : Int} {l : List UInt8} (h : BufAt w W rw L) (hb : Blk w L b l) : Calls Tryz.prog 211 #[.pointer (some ⟨W, 0, none⟩), .int .i64 b] w fun e w' =>
    (e = .returned (.tuple #[.slice none 0 0, .bool false]) ∧ l = zeroB ∧ w = w') ∨ ∃ g' c', e = .returned (.tuple #[.slice (some ⟨g', 0, none⟩) 40 c', .bool true]) ∧ Chg [] w w' ∧ Bs w' (some ⟨g', 0, none⟩) l ∧ w.heap.size ≤ g' := by
  rcases hb with ⟨h1, h2⟩ | ⟨g, c, h1, h2, h3, _⟩
  · exact (bget_none w h h1).mono fun e w' ⟨he, hw⟩ => Or.inl ⟨he, h2, hw⟩
  · exact (bget_some w h h1 h2 h3).mono fun e w' hh => Or.inr hh
/-- the blocks of T are those of a transaction's reads: a view, a set of spans, a row of reads. -/
def Rt (w : World) (base : Nat) (T : List Nat) : Prop := ∀ x ∈ T, base ≤ x ∧ ∃ cs t fr, w.heap[x]? = some (.cells cs t fr) ∧ (t = 275 ∨ t = 312 ∨ t = 285)
theorem Rt.cells {w : World} {base : Nat} {T : List Nat} (h : Rt w base T) {g : Nat} {cs : Array Value} {t : TypeId} {fr : Nat × Nat} (hg : w.heap[g]? = some (.cells cs t fr)) (ht : t ≠ 275 ∧ t ≠ 312 ∧ t ≠ 285) : g ∉ T := by
  intro hm
  obtain ⟨_, cs', t', fr', h1, h2⟩ := h g hm
  rw [hg] at h1
  cases h1
  rcases h2 with h | h | h
  · exact ht.1 h
  · exact ht.2.1 h
  · exact ht.2.2 h
theorem Rt.map {w : World} {base : Nat} {T : List Nat} (h : Rt w base T) {r : Nat} {L : List (Int × Value)} (hg : MapAt w r L) : r ∉ T := by
  intro hm
  obtain ⟨_, cs', t', fr', h1, _⟩ := h r hm
  exact map_cells hg h1 rfl
theorem Rt.low {w : World} {base : Nat} {T : List Nat} (h : Rt w base T) {g : Nat} (hg : g < base) : g ∉ T := fun hm => by have := (h g hm).1; omega
/-- what a view's Read holds on to. -/
structure Vr (w : World) (Q X rx W rw : Nat) (L : List (Int × Value)) (b : Int) (l : List UInt8) : Prop where
  ver : VerAt w X rx
  buf : BufAt w W rw L
  blk : Blk w L b l
theorem Blk.keepT {w w' : World} {T : List Nat} {base : Nat} {L : List (Int × Value)} {b : Int} {l : List UInt8} (h : Blk w L b l) (hc : Chg T w w') (hT : Rt w base T) : Blk w' L b l := by
  rcases h with h | ⟨g, c, h1, h2, h3, cs, hcs⟩
  · exact Or.inl h
  · have hg := hT.cells hcs (by simp)
    exact Or.inr ⟨g, c, h1, h2.chgT hc hg, h3, cs, hc.heap hcs hg⟩
theorem Rt.nil (w : World) (base : Nat) : Rt w base [] := fun x hx => by cases hx
theorem Blk.keep {w w' : World} {L : List (Int × Value)} {b : Int} {l : List UInt8} (h : Blk w L b l) (hc : Chg [] w w') : Blk w' L b l := h.keepT hc (Rt.nil w 0)
theorem VerAt.keep0 {w w' : World} {X rx : Nat} (h : VerAt w X rx) (hc : Chg [] w w') : VerAt w' X rx := ⟨hc.heap h.1 (by simp), h.2.keep hc (by simp)⟩
theorem ownsRow_chgV {w w' : World} {V : Nat} {base n : Nat} {v : Value} {xs : List Value} {v2 : Value} (h : w.ownsRow base 285 3 v n xs) (hc : Chg [V] w w') (hV : SpansAt w V v2) : w'.ownsRow base 285 3 v n xs := by
  refine ⟨h.1, ?_⟩
  rcases h.2 with hn | ⟨g, cap, cur, hv, hb, hg, rest⟩
  · exact Or.inl hn
  · exact Or.inr ⟨g, cap, cur, hv, hb, hc.heap hg (by simpa using heap_ne hg hV (by simp)), rest⟩
theorem chg_setRow (w : World) (g : Nat) (cs : Array Value) : Chg [g] w (w.setRow g cs) := ⟨rfl, rfl, rfl, by simp [World.setRow], fun k _ hs => setRow_other w g k cs (fun e => hs (by simp [e]))⟩
theorem ownsRow_chg2 {w w' : World} {g : Nat} {base n : Nat} {v : Value} {xs : List Value} {cs : Array Value} (h : w.ownsRow base 285 3 v n xs) (hc : Chg [g] w w') (hV : w.heap[g]? = some (.cells cs 5 (0, 0))) : w'.ownsRow base 285 3 v n xs := by
  refine ⟨h.1, ?_⟩
  rcases h.2 with hn | ⟨k, cap, cur, hv, hb, hg, rest⟩
  · exact Or.inl hn
  · exact Or.inr ⟨k, cap, cur, hv, hb, hc.heap hg (by simpa using heap_ne hg hV (by simp)), rest⟩
theorem own_block_ne {w : World} {g : Nat} {base n e size : Nat} {v : Value} {xs : List Value} {cs : Array Value} {t : TypeId} {fr : Nat × Nat} (h : w.ownsRow base e size v n xs) (hg : w.heap[g]? = some (.cells cs t fr)) (ht : t ≠ e) : g ∉ v.ownBlock.toList := by
  rcases h.2 with ⟨rfl, _⟩ | ⟨k, cap, cur, rfl, hb, hk, rest⟩
  · simp [Value.ownBlock]
  · simpa [Value.ownBlock] using heap_ne hg hk (by intro e; cases e; exact ht rfl)
theorem ownsRow_av {w w' : World} {S : List Nat} {base n e size : Nat} {v : Value} {xs : List Value} (h : w.ownsRow base e size v n xs) (hc : Chg S w w') (hS : Av w S [e]) : w'.ownsRow base e size v n xs := by
  refine ⟨h.1, ?_⟩
  rcases h.2 with hn | ⟨g, cap, cur, hv, hb, hg, rest⟩
  · exact Or.inl hn
  · exact Or.inr ⟨g, cap, cur, hv, hb, hc.heap hg (hS.ne hg (by simp)), rest⟩
/-- what stands behind a Read's last store. -/
theorem vread_end {w wb wc w5 : World} {base Q X W V n m g g5 cp5 : Nat} {s : Value} {xs : List Value} {ys : List Value} {l : List UInt8} {Cb : Array Value} (HRt : Rt w base (V :: Q :: s.ownBlock.toList)) (k9 : Chg [V] w wb) (ky : Chg [] wb wc) (hm : m ≤ n) (hB : Bs wb (some ⟨g, 0, none⟩) l)
    (gy : wc.heap[g]? = some (.cells Cb 5 (0, 0))) (hgn : g ∉ s.ownBlock.toList) (hgQ : Q ∉ [g]) (oy : wc.ownsRow base 285 3 s m xs) (qy : ViewAt wc Q X W V s) (hQn : Q ∉ s.ownBlock.toList) (sb : SpV wc base V (n + 1))
    (o5 : w5.ownsRow base 285 3 (.slice (some ⟨g5, 0, none⟩) (m + 1) cp5) (m + 1) ys) (k5 : Chg s.ownBlock.toList wc w5) :
    ∃ T, Chg T w (w5.setCell ⟨Q, 4, none⟩ (.slice (some ⟨g5, 0, none⟩) (m + 1) cp5)) ∧ Rt w base T ∧ Bs (w5.setCell ⟨Q, 4, none⟩ (.slice (some ⟨g5, 0, none⟩) (m + 1) cp5)) (some ⟨g, 0, none⟩) l ∧ Vw (w5.setCell ⟨Q, 4, none⟩ (.slice (some ⟨g5, 0, none⟩) (m + 1) cp5)) base Q X W V (n + 1) ∧ SpV (w5.setCell ⟨Q, 4, none⟩ (.slice (some ⟨g5, 0, none⟩) (m + 1) cp5)) base V (n + 1) := by
  have q5 := k5.heap qy hQn
  have g5h := k5.heap gy hgn
  have kS := Chg.set w5 Q 4 (.slice (some ⟨g5, 0, none⟩) (m + 1) cp5)
  have hgQ' : g ∉ [Q] := by simpa using (fun e => hgQ (by simp [e]))
  have hav : Av wc s.ownBlock.toList [117, 312] := by
    intro x hx cs t fr hh
    rcases oy.2 with ⟨rfl, _⟩ | ⟨k, cap, cur, rfl, hb, hk, rest⟩
    · simp [Value.ownBlock] at hx
    · simp [Value.ownBlock] at hx
      subst hx
      rw [hk] at hh
      cases hh
      simp
  have hq1 : Av w5 [Q] [117, 312] := fun x hx cs t fr hh => by
    rw [List.mem_singleton] at hx; subst hx; rw [q5] at hh; cases hh; simp
  have hq2 : Av w5 [Q] [285] := fun x hx cs t fr hh => by
    rw [List.mem_singleton] at hx; subst hx; rw [q5] at hh; cases hh; simp
  refine ⟨V :: Q :: s.ownBlock.toList, ?_, HRt, ((hB.chg ky).chgT k5 hgn).chgT kS hgQ', ⟨_, m + 1, ys, heap_set q5 4 _ rfl, by omega, ownsRow_av o5 kS hq2⟩, (sb.keep k5 hav).keep kS hq1⟩
  refine (((k9.mono ?_).then (ky.mono ?_)).then (k5.mono ?_)).then (kS.mono ?_)
  · intro x hx _; simp at hx; simp [hx]
  · intro x hx _; cases hx
  · intro x hx _; simp only [List.mem_cons]; exact Or.inr (Or.inr hx)
  · intro x hx _; simp at hx; simp [hx]
theorem Bs.cells_at {w : World} {g : Nat} {l : List UInt8} (h : Bs w (some ⟨g, 0, none⟩) l) : ∀ j v, (Lib.byteCells l)[j]? = some v → w.cell? ((⟨g, 0, none⟩ : Addr).add j) = some v := by
  intro j u hu
  rcases h with rfl | ⟨b, off, e, hb, hc⟩
  · simp [Lib.byteCells] at hu
  · cases e
    have hj : j < l.length := by
      rcases Nat.lt_or_ge j l.length with h | h
      · exact h
      · rw [List.getElem?_eq_none (by simpa [Lib.byteCells] using h)] at hu; cases hu
    rw [add_lit, hc j hj, ← hu]
    simp [Lib.byteCells, hj]
theorem byteCells_one (l : List UInt8) : ∀ v ∈ Lib.byteCells l, v.oneCell' = true := by
  intro u hu
  simp only [Lib.byteCells, List.mem_map] at hu
  obtain ⟨x, _, rfl⟩ := hu
  rfl
set_option maxRecDepth 100000 in
set_option maxHeartbeats 20000000 in
theorem vread_one (w : World) {base Q X rx W rw V n : Nat} {L : List (Int × Value)} {b : Int} {l : List UInt8} (hX : VerAt w X rx) (hW : BufAt w W rw L) (hB : Blk w L b l) (hV : Vw w base Q X W V n) (hS : SpV w base V n) (hn : n ≤ 11) (hbase : base ≤ Q ∧ base ≤ V) (h0 : 0 ≤ b) (h1 : b < 258) :
    Calls Tryz.prog 175 #[.pointer (some ⟨Q, 0, none⟩), .agg #[.int .i64 b, .int .i64 1]] w fun e w' =>
    ∃ g c' T, e = .returned (.tuple #[.slice (some ⟨g, 0, none⟩) 40 c', .int .i64 0]) ∧ 40 ≤ c' ∧ Chg T w w' ∧ Rt w base T ∧ w.heap.size ≤ g ∧ Bs w' (some ⟨g, 0, none⟩) l ∧ Vw w' base Q X W V (n + 1) ∧ SpV w' base V (n + 1) := by
  have k0 : Chg [] w (w.alloc (.cells #[.int .i64 b, .int .i64 1] 117)) := Chg.alloc w _
  have K0 := heap_new w (.cells #[.int .i64 b, .int .i64 1] 117)
  have hX1 := hX.keep0 k0
  have hW1 := hW.keep k0 (by simp) (by simp)
  have hB1 := hB.keep k0
  obtain ⟨s, m, xs, qw, hm, how⟩ := hV
  have q := k0.heap qw (by simp)
  have ho := ownsRow_chg how k0
  have hS1 := hS.keep0 k0
  have HRt : Rt w base (V :: Q :: s.ownBlock.toList) := by
    intro x hx
    simp only [List.mem_cons] at hx
    rcases hx with rfl | rfl | hx
    · exact ⟨hbase.2, _, _, _, hS.choose_spec.choose_spec.1, by simp⟩
    · exact ⟨hbase.1, _, _, _, qw, by simp⟩
    · rcases how.2 with ⟨rfl, _⟩ | ⟨k, cap, cur, rfl, hb, hk, rest⟩
      · simp [Value.ownBlock] at hx
      · simp [Value.ownBlock] at hx
        subst hx
        exact ⟨hb, _, _, _, hk, by simp⟩
  clear qw how
  have q0 : (w.alloc (.cells #[.int .i64 b, .int .i64 1] 117)).cell? ⟨Q, 0, none⟩ = some (.pointer (some ⟨X, 0, none⟩)) := cell_is q 0 rfl
  have q1 : (w.alloc (.cells #[.int .i64 b, .int .i64 1] 117)).cell? ⟨Q, 1, none⟩ = some (.pointer (some ⟨W, 0, none⟩)) := cell_is q 1 rfl
  have q2 : (w.alloc (.cells #[.int .i64 b, .int .i64 1] 117)).cell? ⟨Q, 2, none⟩ = some (.int .i64 0) := cell_is q 2 rfl
  have q3 : (w.alloc (.cells #[.int .i64 b, .int .i64 1] 117)).cell? ⟨Q, 3, none⟩ = some (.pointer (some ⟨V, 0, none⟩)) := cell_is q 3 rfl
  have a0 : (w.alloc (.cells #[.int .i64 b, .int .i64 1] 117)).cell? ⟨w.heap.size, 0, none⟩ = some (.int .i64 b) := cell_is K0 0 rfl
  have a1 : (w.alloc (.cells #[.int .i64 b, .int .i64 1] 117)).cell? ⟨w.heap.size, 1, none⟩ = some (.int .i64 1) := cell_is K0 1 rfl
  go_enter Tryz.func175, Tryz.ntmps175
  go_wp2_with fail
  go_step3
  go_wp2_with fail
  generalize w.alloc (.cells #[.int .i64 b, .int .i64 1] 117) = w1 at *
  generalize hK : w.heap.size = K at *
  go_region_held3 (fun wx => wx.cell? ⟨Q, 0, none⟩ = some (.pointer (some ⟨X, 0, none⟩)) ∧ wx.cell? ⟨Q, 2, none⟩ = some (.int .i64 0) ∧ wx.cell? ⟨K, 0, none⟩ = some (.int .i64 b) ∧ wx.cell? ⟨K, 1, none⟩ = some (.int .i64 1))
    (first | (exact ⟨q0, q2, a0, a1⟩) | (exact ⟨k2.cell q0 (by simp), k2.cell q2 (by simp), k2.cell a0 (by simp), k2.cell a1 (by simp)⟩))
    (first | (go_at_call 210; refine (range_one w1.drew (hX1.keep0 (Chg.refl [] w1).drew) h0 h1).mono ?_; rintro e w2 ⟨g, c', rfl, hc', k2, o2⟩))
  have kk2 := (Chg.refl [] w1).drew.then k2
  have q := kk2.heap q (by simp)
  have K0 := kk2.heap K0 (by simp)
  have ho := ownsRow_chg ho kk2
  have hW2 := hW1.keep kk2 (by simp) (by simp)
  have hB2 := hB1.keep kk2
  have hS2 := hS1.keep0 kk2
  have hK2 : K ≤ w2.heap.size := by have := k0.size; have := kk2.size; omega
  have ho2 : w2.ownsRow K 5 1 (.slice (some ⟨g, 0, none⟩) 40 c') 40 (Lib.byteCells zeroB) := ownsRow_base o2 (by have := k0.size; show K ≤ w1.heap.size; omega)
  have kk := k0.then kk2
  clear q0 q1 q2 q3 a0 a1 hX1 hW1 hB1 hS1 o2 k0 k2 kk2
  have q3 : w2.cell? ⟨Q, 3, none⟩ = some (.pointer (some ⟨V, 0, none⟩)) := cell_is q 3 rfl
  have a0 : w2.cell? ⟨K, 0, none⟩ = some (.int .i64 b) := cell_is K0 0 rfl
  have a1 : w2.cell? ⟨K, 1, none⟩ = some (.int .i64 1) := cell_is K0 1 rfl
  go_wp2_with fail
  have kx : Chg [] w2 (w2.drew.alloc (.cells #[.int .i64 b, .int .i64 1] 117)) := (Chg.refl [] w2).drew.then_alloc _
  have kx0 := heap_new w2.drew (.cells #[.int .i64 b, .int .i64 1] 117)
  have hVK : V ≠ K := by obtain ⟨_, _, hh, _⟩ := hS2; exact heap_ne hh K0 (by simp)
  have hVQ : V ≠ Q := by obtain ⟨_, _, hh, _⟩ := hS2; exact heap_ne hh q (by simp)
  have hbw : base ≤ (w2.drew.alloc (.cells #[.int .i64 b, .int .i64 1] 117)).heap.size := by have := heap_lt q; have := kx.size; omega
  have kx2 : Chg [V] w2 (w2.drew.alloc (.cells #[.int .i64 b, .int .i64 1] 117)) := kx.mono (fun x hx _ => by cases hx)
  go_region_held3 (fun wx => wx.cell? ⟨Q, 3, none⟩ = some (.pointer (some ⟨V, 0, none⟩)) ∧ wx.cell? ⟨K, 0, none⟩ = some (.int .i64 b) ∧ wx.cell? ⟨K, 1, none⟩ = some (.int .i64 1))
    (first | (exact ⟨q3, a0, a1⟩) | (exact ⟨kx.cell q3 (by simp), kx.cell a0 (by simp), kx.cell a1 (by simp)⟩) | (exact ⟨(kx2.then k3).cell q3 (by simpa using hVQ.symm), (kx2.then k3).cell a0 (by simpa using hVK.symm), (kx2.then k3).cell a1 (by simpa using hVK.symm)⟩))
    (first | (go_at_call 197; refine (iadd_one (w2.drew.alloc (.cells #[.int .i64 b, .int .i64 1] 117)) (base := base) (V := V) (n := n) (E := w2.drew.heap.size) (hS2.keep0 kx) hn hbw h0 h1 (cell_is kx0 0 rfl) (cell_is kx0 1 rfl)).mono ?_; rintro e w3 ⟨rfl, k3, hS3⟩))
  have k4 := kx2.then k3
  have hR4 : Rt w2 base [V] := fun x hx => by
    rw [List.mem_singleton] at hx
    subst hx
    obtain ⟨_, _, hh, _⟩ := hS2
    exact ⟨hbase.2, _, _, _, hh, by simp⟩
  have q := k4.heap q (by simpa using hVQ.symm)
  have K0 := k4.heap K0 (by simpa using hVK.symm)
  have hW3 := hW2.keep k4 (hR4.cells hW2.1 (by simp)) (hR4.map hW2.2)
  have hB3 := hB2.keepT k4 hR4
  have hz : Bs w2 (some ⟨g, 0, none⟩) zeroB ∧ Bt w2 g ∧ K ≤ g := by
    rcases ho2.2 with ⟨e, h0⟩ | ⟨g', cap, cur, e, hA, hgt, _⟩
    · cases h0
    · cases e; exact ⟨Bs.own ho2, ⟨_, hgt⟩, hA⟩
  have hgV : g ∉ [V] := hR4.cells hz.2.1.choose_spec (by simp)
  have kw3 : Chg [V] w w3 := (kk.mono (fun x hx _ => by cases hx)).then k4
  have hRw : Rt w base [V] := fun x hx => by
    rw [List.mem_singleton] at hx
    subst hx
    obtain ⟨_, _, hh, _⟩ := hS
    exact ⟨hbase.2, _, _, _, hh, by simp⟩
  have ho3 := ownsRow_chgV ho k4 hS2.choose_spec.choose_spec.1
  obtain ⟨cur, hg3, hcur⟩ : ∃ cur, w3.heap[g]? = some (.cells cur 5 (0, 0)) ∧ cur.size = c' * 1 ∧ cur.toList.take (40 * 1) = Lib.byteCells zeroB := by
    rcases ho2.2 with ⟨e, h0⟩ | ⟨g', cap, cur, e, hA, hgt, _, _, hsz, htk⟩
    · cases h0
    · cases e; exact ⟨cur, k4.heap hgt hgV, hsz, htk⟩
  have HC := Lib.hid hcur
  clear hcur
  have hgK := hz.2.2
  clear q3 a0 a1 hW2 hB2 hS2 hz ho2 kx kx2 kx0 k3 k4 hR4 hgV hX hW hS kk hbw hB
  clear ho
  have a0 : w3.cell? ⟨K, 0, none⟩ = some (.int .i64 b) := cell_is K0 0 rfl
  have a1 : w3.cell? ⟨K, 1, none⟩ = some (.int .i64 1) := cell_is K0 1 rfl
  have q1 : w3.cell? ⟨Q, 1, none⟩ = some (.pointer (some ⟨W, 0, none⟩)) := cell_is q 1 rfl
  have q4 : w3.cell? ⟨Q, 4, none⟩ = some s := cell_is q 4 rfl
  go_wp2_with fail
  go_step3
  go_wp2_with fail
  have hb0 : IntKind.i64.wrap b = b := by rw [IntKind.wrap_i64]; omega
  go_loopw [55] (fun i wr => (i = .int .i64 0 ∧ wr = w3) ∨ (i = .int .i64 1 ∧ ∃ T, Chg T w wr ∧ Rt w base T ∧ Bs wr (some ⟨g, 0, none⟩) l ∧ Vw wr base Q X W V (n + 1) ∧ SpV wr base V (n + 1))) (fun i _ => 1 - (intOf i).toNat)
  case atStart => exact Or.inl ⟨rfl, rfl⟩
  case round =>
    rcases hrel with ⟨rfl, rfl⟩ | ⟨rfl, T, kT, hT, hBs, hVw, hSp⟩
    · rcases hB3 with ⟨hg0, rfl⟩ | ⟨gb, cb, hg1, hbs, hl40, hbt⟩
      · go_wp2_with fail
        go_region_held3 (fun wx => wx.cell? ⟨Q, 1, none⟩ = some (.pointer (some ⟨W, 0, none⟩)) ∧ wx.cell? ⟨K, 0, none⟩ = some (.int .i64 b)) (first | (exact ⟨q1, a0⟩))
          (first | (go_at_call 211; refine (bget_none wr.drew (hW3.keep (Chg.refl [] wr).drew (by simp) (by simp)) hg0).mono ?_; rintro e wa ⟨rfl, rfl⟩))
        have k7 : Chg [] wr wr.drew := (Chg.refl [] wr).drew
        have hgb : wr.drew.heap[g]? = some (.cells cur 5 (0, 0)) := hg3
        have qb : ViewAt wr.drew Q X W V s := q
        have Kb : wr.drew.heap[K]? = some (.cells #[.int .i64 b, .int .i64 1] 117 (0, 0)) := K0
        have ob := ownsRow_chg ho3 k7
        have sb := hS3.keep0 k7
        have k9 : Chg [V] w wr.drew := kw3.drew
        have hBb : Bs wr.drew (some ⟨g, 0, none⟩) zeroB := Bs.block hgb (by have := HC.out.2; rw [show zeroB.length = 40 from rfl]; simpa using this)
        have hKQ : K ≠ Q := heap_ne Kb qb (by simp)
        have hgQ : Q ∉ [g] := by simpa using heap_ne qb hgb (by simp)
        clear hg3 q K0 ho3 hS3 kw3 k7 hW3 q1 a0 a1 q4
        generalize wr.drew = wb at *
        have a0 : wb.cell? ⟨K, 0, none⟩ = some (.int .i64 b) := cell_is Kb 0 rfl
        have q4 : wb.cell? ⟨Q, 4, none⟩ = some s := cell_is qb 4 rfl
        have a0d : wb.drew.cell? ⟨K, 0, none⟩ = some (.int .i64 b) := a0
        have q4d : wb.drew.cell? ⟨Q, 4, none⟩ = some s := q4
        have HBb := Lib.hid hBb
        go_wp2_with fail
        go_region_law
          (first
            | (go_simp; go_at_call 113; refine (clone_bs wb.drew (l := zeroB) (m := 40) rfl (by decide) (by decide) (HBb.out.chg (Chg.refl [] wb).drew)).mono ?_; rintro e w6 ⟨g2, c2, rfl, k6, _, _⟩; have a06 := k6.cell a0d (by simp); have q46 := k6.cell q4d (by simp); have ky : Chg [] wb (w6.alloc (.cells #[.int .i64 b, .slice (some ⟨g2, 0, none⟩) 40 c2, .bool false] 285)) := ((Chg.refl [] wb).drew.then k6).then_alloc _; have y0 := heap_new w6 (.cells #[.int .i64 b, .slice (some ⟨g2, 0, none⟩) 40 c2, .bool false] 285); have oy := ownsRow_chg ob ky; have qy := ky.heap qb (by simp); have q4y := cell_is qy 4 rfl; have a0y := cell_is (ky.heap Kb (by simp)) 0 rfl; have hQn := own_block_ne oy qy (by decide); have hby : base ≤ (w6.alloc (.cells #[.int .i64 b, .slice (some ⟨g2, 0, none⟩) 40 c2, .bool false] 285)).heap.size := (by have := heap_lt qy; omega); have gy := ky.heap hgb (by simp); have hgn := own_block_ne oy gy (by decide))
            | (refine step_append_rd rfl (.tmp 100) (.tmp 108) rfl base _ m xs rfl oy w6.heap.size 1 _ _ _ rfl (cell_is y0 0 rfl) (cell_is y0 1 rfl) (cell_is y0 2 rfl) ⟨rfl, rfl, rfl⟩ (by omega) hby ?_; intro g5 cp5 w5 o5 k5; have q5 := k5.heap qy hQn; have q45 := cell_is q5 4 rfl; have f45 := unfrozen q5 4))
        all_goals
          have HZ := Lib.hid (vread_end HRt k9 ky hm HBb.out gy hgn hgQ oy qy hQn (sb.keep0 ky) (g5 := g5) (cp5 := cp5) (w5 := w5) o5 k5)
          clear HBb gy hgn sb o5 k5 q5 f45 q45 hBb
          go_wp2_with fail
          go_roundw
          case rel => exact Or.inr ⟨rfl, HZ.out⟩
          case measure => decide
      · have HG := Lib.hid hg1
        have HL := Lib.hid hl40
        have HB := Lib.hid hbs
        clear hg1 hl40 hbs
        go_wp2_with fail
        go_region_held3 (fun wx => wx.cell? ⟨Q, 1, none⟩ = some (.pointer (some ⟨W, 0, none⟩)) ∧ wx.cell? ⟨K, 0, none⟩ = some (.int .i64 b)) (first | (exact ⟨q1, a0⟩) | (exact ⟨k6.cell q1 (by simp), k6.cell a0 (by simp)⟩))
          (first | (go_at_call 211; refine (bget_some wr.drew (hW3.keep (Chg.refl [] wr).drew (by simp) (by simp)) HG.out HB.out HL.out).mono ?_; rintro e wa ⟨g2, c2, rfl, k6, hbs6, l6⟩))
        have k7 := (Chg.refl [] wr).drew.then k6
        have hga := k7.heap hg3 (by simp)
        have hqa := k7.heap q (by simp)
        have hKa := k7.heap K0 (by simp)
        have hoa := ownsRow_chg ho3 k7
        have hSa := hS3.keep0 k7
        have k8 := kw3.then (k7.mono (T := [V]) (fun x hx _ => by cases hx))
        have hsrc : ∀ j v, (Lib.byteCells l)[j]? = some v → wa.cell? ((⟨g2, 0, none⟩ : Addr).add j) = some v := hbs6.cells_at
        have hlc : (Lib.byteCells l).length = 40 := by simpa [Lib.byteCells] using HL.out
        have H1 := Lib.hid hsrc
        have H2 := Lib.hid hlc
        have hfit : 0 + (Lib.byteCells l).length ≤ cur.size := by have := HC.out.1; omega
        have H3 := Lib.hid hfit
        clear hsrc hlc hfit
        go_wp2_with (refine wpList_copy_own rfl (.tmp 78) (.tmp 79) 23 23 rfl 5 ty23 (by kernel_rfl) g 0 40 c' ⟨g2, 0, none⟩ 40 c2 rfl rfl cur 5 hga (Lib.byteCells l) H2.out H1.out H3.out (fun v hv => byteCells_one l v hv) ?_)
        have kb : Chg [g] wa (wa.setRow g (List.take 0 cur.toList ++ (Lib.byteCells l ++ List.drop (0 + (Lib.byteCells l).length) cur.toList)).toArray) := chg_setRow _ _ _
        have hgb := setRow_heap wa g cur (List.take 0 cur.toList ++ (Lib.byteCells l ++ List.drop (0 + (Lib.byteCells l).length) cur.toList)).toArray 5 (0, 0) hga
        have hBb : Bs (wa.setRow g (List.take 0 cur.toList ++ (Lib.byteCells l ++ List.drop (0 + (Lib.byteCells l).length) cur.toList)).toArray) (some ⟨g, 0, none⟩) l := Bs.block hgb (by rw [HL.out, List.take_zero, List.nil_append, List.toList_toArray]; rw [show (40 : Nat) = (Lib.byteCells l).length from H2.out.symm]; exact List.take_left)
        generalize hwb : (wa.setRow g (List.take 0 cur.toList ++ (Lib.byteCells l ++ List.drop (0 + (Lib.byteCells l).length) cur.toList)).toArray) = wb at *
        clear hwb
        generalize (List.take 0 cur.toList ++ (Lib.byteCells l ++ List.drop (0 + (Lib.byteCells l).length) cur.toList)).toArray = Cb at hgb
        simp only [Act.put, List.setIfInBounds_toArray, List.set_cons_zero, List.set_cons_succ]
        have hgQ : Q ∉ [g] := by simpa using heap_ne hqa hga (by simp)
        have hgK2 : K ∉ [g] := by simpa using heap_ne hKa hga (by simp)
        have qb := kb.heap hqa hgQ
        have Kb := kb.heap hKa hgK2
        have ob := ownsRow_chg2 hoa kb hga
        have sb := hSa.keep kb (fun x hx cs t fr hh => by rw [List.mem_singleton] at hx; subst hx; rw [hga] at hh; cases hh; simp)
        have k9 : Chg [V] w wb := k8.trans kb (fun x hx hlt => by rw [List.mem_singleton] at hx; omega)
        have hKQ : K ≠ Q := heap_ne Kb qb (by simp)
        clear hga hqa hKa hoa hSa k7 k8 kb H1 H2 H3 hbs6 k6
        have a0 : wb.cell? ⟨K, 0, none⟩ = some (.int .i64 b) := cell_is Kb 0 rfl
        have q4 : wb.cell? ⟨Q, 4, none⟩ = some s := cell_is qb 4 rfl
        have ky : Chg [] wb (wb.drew.alloc (.cells #[.int .i64 b, .slice (some ⟨g2, 0, none⟩) 40 c2, .bool true] 285)) := (Chg.refl [] wb).drew.then_alloc _
        have y0 := heap_new wb.drew (.cells #[.int .i64 b, .slice (some ⟨g2, 0, none⟩) 40 c2, .bool true] 285)
        have oy := ownsRow_chg ob ky
        have qy := ky.heap qb (by simp)
        have Ky := ky.heap Kb (by simp)
        have q4y := cell_is qy 4 rfl
        have a0y := cell_is Ky 0 rfl
        have hQn := own_block_ne oy qy (by decide)
        have hKn := own_block_ne oy Ky (by decide)
        have hby : base ≤ (wb.drew.alloc (.cells #[.int .i64 b, .slice (some ⟨g2, 0, none⟩) 40 c2, .bool true] 285)).heap.size := by have := heap_lt qy; omega
        have q4d : wb.drew.cell? ⟨Q, 4, none⟩ = some s := q4
        have q4e : (wb.alloc (.cells #[.int .i64 b, .slice (some ⟨g2, 0, none⟩) 40 c2, .bool true] 285)).cell? ⟨Q, 4, none⟩ = some s := q4y
        have a0e : (wb.alloc (.cells #[.int .i64 b, .slice (some ⟨g2, 0, none⟩) 40 c2, .bool true] 285)).cell? ⟨K, 0, none⟩ = some (.int .i64 b) := a0y
        have a0d : wb.drew.cell? ⟨K, 0, none⟩ = some (.int .i64 b) := a0
        have gy := ky.heap hgb (by simp)
        have hgn := own_block_ne oy gy (by decide)
        have HF := Lib.hid (fun (g5 cp5 : Nat) (w5 : World) (o5 : w5.ownsRow base 285 3 (.slice (some ⟨g5, 0, none⟩) (m + 1) cp5) (m + 1) (xs ++ [.int .i64 b, .slice (some ⟨g2, 0, none⟩) 40 c2, .bool true])) (k5 : Chg s.ownBlock.toList (wb.drew.alloc (.cells #[.int .i64 b, .slice (some ⟨g2, 0, none⟩) 40 c2, .bool true] 285)) w5) =>
          vread_end HRt k9 ky hm hBb gy hgn hgQ oy qy hQn (sb.keep0 ky) o5 k5)
        clear hBb gy hgn sb
        go_region_law
          (first | (refine step_append_rd rfl (.tmp 85) (.tmp 92) rfl base _ m xs rfl oy wb.drew.heap.size 1 _ _ _ rfl (cell_is y0 0 rfl) (cell_is y0 1 rfl) (cell_is y0 2 rfl) ⟨rfl, rfl, rfl⟩ (by omega) hby ?_; intro g5 cp5 w5 o5 k5; have q5 := k5.heap qy hQn; have q45 := cell_is q5 4 rfl; have f45 := unfrozen q5 4; have a05 := k5.cell a0y hKn))
        all_goals
          have HZ := Lib.hid (HF.out g5 cp5 w5 o5 k5)
          clear HF o5 k5 q5 f45 q45
          go_wp2_with fail
          go_roundw
          case rel => exact Or.inr ⟨rfl, HZ.out⟩
          case measure => decide
    · have hgw : w.heap.size ≤ g := by omega
      go_wp2_with fail
      simp only [Exit.noGoto]
      go_ret2
      exact ⟨g, c', T, rfl, hc', kT, hT, hgw, hBs, hVw, hSp⟩
end Go.Proofs.YtfodeeejolkkfaaGreat
namespace Go.Proofs.YtfodeeejolkkfaaGreat
open Go.RowKit Go.Lib

/-- where the parts of a store with one transaction lie. -/
structure Ids where
  P : Nat
  N : Nat
  S : Nat
  M : Nat
  X : Nat
  rx : Nat
  B : Nat
  rb : Nat
  r : Nat
  A : Nat
  c : Nat
  Z : List Nat
  T : Nat
  W : Nat
  rw : Nat
  Q : Nat
  V : Nat
/-- the store's own parts; they lie below base. -/
structure Sta (w : World) (base : Nat) (d : Ids) : Prop where
  store : StoreAt w d.P d.N d.S (some ⟨d.M, 0, none⟩)
  dev : ∃ ops, DevAt w d.N d.A d.c ops d.Z
  mg : Mg w d.M d.X d.rx d.B d.rb d.r 1 [(1, .int .i64 0)] [(1, .pointer (some ⟨d.T, 0, none⟩))]
  low : d.P < base ∧ d.N < base ∧ d.A < base ∧ d.M < base ∧ d.X < base ∧ d.rx < base ∧ d.B < base ∧ d.rb < base ∧ d.r < base
  lowZ : ∀ z ∈ d.Z, z < base
theorem Sta.keep {w w' : World} {base : Nat} {d : Ids} {T : List Nat} (h : Sta w base d) (hc : Chg T w w') (hT : ∀ x ∈ T, base ≤ x) : Sta w' base d := by
  obtain ⟨l1, l2, l3, l4, l5, l6, l7, l8, l9⟩ := h.low
  have n : ∀ x, x < base → x ∉ T := fun x hx hm => by have := hT x hm; omega
  obtain ⟨ops, hd⟩ := h.dev
  have m := h.mg
  exact ⟨h.store.keep hc (n _ l1), ⟨ops, hd.keep hc (n _ l2) (n _ l3) (fun z hz => n _ (h.lowZ z hz))⟩,
    ⟨hc.heap m.mgr (n _ l4), ⟨hc.heap m.ver.1 (n _ l5), m.ver.2.keep hc (n _ l6)⟩, m.book.keep hc (n _ l7) (n _ l8), m.map.keep hc (n _ l9), m.n1, m.n2, m.n3⟩, h.low, h.lowZ⟩
/-- what of memory behind base may change while one transaction goes on. -/
def Ow (base : Nat) (w w' : World) : Prop := ∃ T, Chg T w w' ∧ ∀ x ∈ T, base ≤ x ∧ ∀ cs t fr, w.heap[x]? = some (.cells cs t fr) → t = 275 ∨ t = 312 ∨ t = 285
theorem Ow.refl (base : Nat) (w : World) : Ow base w w := ⟨[], Chg.refl _ _, fun x hx => by cases hx⟩
theorem Ow.of_chg {base : Nat} {w w' : World} (h : Chg [] w w') : Ow base w w' := ⟨[], h, fun x hx => by cases hx⟩
theorem Ow.trans {base : Nat} {a b c : World} (h : Ow base a b) (k : Ow base b c) : Ow base a c := by
  obtain ⟨T, h1, h2⟩ := h
  obtain ⟨U, k1, k2⟩ := k
  refine ⟨T ++ U, (h1.mono (fun x hx _ => List.mem_append_left _ hx)).then (k1.mono (fun x hx _ => List.mem_append_right _ hx)), fun x hx => ?_⟩
  by_cases hT : x ∈ T
  · exact h2 x hT
  · rcases List.mem_append.1 hx with hx | hx
    · exact absurd hx hT
    · exact ⟨(k2 x hx).1, fun cs t fr hh => (k2 x hx).2 cs t fr (h1.heap hh hT)⟩
theorem Ow.then {base : Nat} {a b c : World} (h : Ow base a b) (k : Chg [] b c) : Ow base a c := h.trans (Ow.of_chg k)
theorem Ow.heap {base : Nat} {w w' : World} (h : Ow base w w') {g : Nat} {cs : Array Value} {t : TypeId} {fr : Nat × Nat} (hg : w.heap[g]? = some (.cells cs t fr)) (ht : t ≠ 275 ∧ t ≠ 312 ∧ t ≠ 285) : w'.heap[g]? = some (.cells cs t fr) := by
  obtain ⟨T, h1, h2⟩ := h
  refine h1.heap hg (fun hm => ?_)
  rcases (h2 g hm).2 cs t fr hg with h | h | h
  · exact ht.1 h
  · exact ht.2.1 h
  · exact ht.2.2 h
theorem Ow.below {base : Nat} {w w' : World} (h : Ow base w w') {B : Nat} (hB : B ≤ w.heap.size) (hb : B ≤ base) : Below B w w' := by
  obtain ⟨T, h1, h2⟩ := h
  exact h1.below hB (fun x hx => Nat.le_trans hb (h2 x hx).1)
theorem Ow.size {base : Nat} {w w' : World} (h : Ow base w w') : w.heap.size ≤ w'.heap.size := by obtain ⟨T, h1, _⟩ := h; exact h1.size
theorem av_map {w : World} {r : Nat} {L : List (Int × Value)} (h : MapAt w r L) (ts : List Nat) : Av w [r] ts := fun x hx cs t fr hh => by rw [List.mem_singleton] at hx; subst hx; exact absurd rfl (map_cells h hh)
/-- a store with one transaction, whose blocks are q, behind n reads and k writes. -/
structure St (w : World) (base : Nat) (d : Ids) (q : Int → List UInt8) (n k : Nat) : Prop where
  sta : Sta w base d
  tx : TxAt w d.T d.W d.Q
  buf : ∃ L, BufAt w d.W d.rw L ∧ L.length ≤ k ∧ ∀ b, 0 ≤ b → b < 258 → Blk w L b (q b)
  vw : Vw w base d.Q d.X d.W d.V n
  sp : SpV w base d.V n
  high : base ≤ d.Q ∧ base ≤ d.V ∧ base ≤ d.rw
theorem St.keep {w w' : World} {base : Nat} {d : Ids} {q : Int → List UInt8} {n k : Nat} (h : St w base d q n k) (hc : Chg [] w w') : St w' base d q n k := by
  obtain ⟨L, h1, h2, h3⟩ := h.buf
  exact ⟨h.sta.keep hc (fun x hx => by cases hx), hc.heap h.tx (by simp), ⟨L, h1.keep hc (by simp) (by simp), h2, fun b hb hb' => (h3 b hb hb').keep hc⟩, h.vw.keep hc (Av.nil _ _), h.sp.keep0 hc, h.high⟩
theorem St.tx4 {w : World} {base : Nat} {d : Ids} {q : Int → List UInt8} {n k : Nat} (h : St w base d q n k) : ∃ L v s, Tx w d.X d.T d.W d.rw d.Q d.V L v s ∧ L.length ≤ k ∧ BufAt w d.W d.rw L ∧ ∀ b, 0 ≤ b → b < 258 → Blk w L b (q b) := by
  obtain ⟨L, h1, h2, h3⟩ := h.buf
  obtain ⟨s, m, xs, h4, _, _⟩ := h.vw
  obtain ⟨v, l, h5, _, _⟩ := h.sp
  exact ⟨L, v, s, ⟨h.tx, h1, h4, h5⟩, h2, h1, h3⟩
set_option maxRecDepth 100000 in
set_option maxHeartbeats 2000000 in
theorem tread_one (w : World) {base : Nat} {d : Ids} {q : Int → List UInt8} {n k : Nat} {b : Int} (h : St w base d q n k) (hn : n ≤ 11) (h0 : 0 ≤ b) (h1 : b < 258) :
    Calls Tryz.prog 125 #[.pointer (some ⟨d.M, 0, none⟩), .int .i64 1, .agg #[.int .i64 b, .int .i64 1]] w fun e w' =>
    ∃ g c', e = .returned (.tuple #[.slice (some ⟨g, 0, none⟩) 40 c', .int .i64 0]) ∧ 40 ≤ c' ∧ Ow base w w' ∧ St w' base d q (n + 1) k ∧ w.heap.size ≤ g ∧ Bs w' (some ⟨g, 0, none⟩) (q b) := by
  have k0 : Chg [] w (w.alloc (.cells #[.int .i64 b, .int .i64 1] 117)) := Chg.alloc w _
  have K0 := heap_new w (.cells #[.int .i64 b, .int .i64 1] 117)
  have h2 := h.keep k0
  have HO := Lib.hid (topen_one _ h2.sta.mg h2.tx)
  clear h
  go_enter Tryz.func125, Tryz.ntmps125
  go_wp2_with fail
  generalize w.alloc (.cells #[.int .i64 b, .int .i64 1] 117) = w1 at *
  generalize hK : w.heap.size = K at *
  refine HO.out.mono ?_
  rintro e w2 ⟨rfl, rfl⟩
  have t5 : w1.cell? ⟨d.T, 5, none⟩ = some (.pointer (some ⟨d.Q, 0, none⟩)) := cell_is h2.tx 5 rfl
  have a0 : w1.cell? ⟨K, 0, none⟩ = some (.int .i64 b) := cell_is K0 0 rfl
  have a1 : w1.cell? ⟨K, 1, none⟩ = some (.int .i64 1) := cell_is K0 1 rfl
  go_wp2_with fail
  obtain ⟨L, hbuf, hL, hq⟩ := h2.buf
  have h3 := h2.keep (Chg.refl [] w1).drew
  go_region_held3 (fun wx => wx.cell? ⟨d.T, 5, none⟩ = some (.pointer (some ⟨d.Q, 0, none⟩)) ∧ wx.cell? ⟨K, 0, none⟩ = some (.int .i64 b) ∧ wx.cell? ⟨K, 1, none⟩ = some (.int .i64 1))
    (first | (exact ⟨t5, a0, a1⟩) | (exact ⟨cell_is t6 5 rfl, cell_is K6 0 rfl, cell_is K6 1 rfl⟩))
    (first | (go_at_call 175; refine (vread_one w1.drew h3.sta.mg.ver (hbuf.keep (Chg.refl [] w1).drew (by simp) (by simp)) (hq b h0 h1) h3.vw h3.sp hn ⟨h3.high.1, h3.high.2.1⟩ h0 h1).mono ?_; rintro e w6 ⟨g, c', T, rfl, hc', k6, hT, hg, hB6, hV6, hS6⟩; have t6 := k6.heap h3.tx (hT.cells h3.tx (by simp)); have K6 := k6.heap K0 (hT.cells K0 (by simp))))
  have hlow : ∀ x ∈ T, base ≤ x := fun x hx => (hT x hx).1
  have hfin : St w6 base d q (n + 1) k := ⟨h3.sta.keep k6 hlow, t6, ⟨L, (hbuf.keep (Chg.refl [] w1).drew (by simp) (by simp)).keep k6 (hT.cells hbuf.1 (by simp)) (hT.map hbuf.2), hL, fun x hx hx' => ((hq x hx hx').keep (Chg.refl [] w1).drew).keepT k6 hT⟩, hV6, hS6, h3.high⟩
  have how : Ow base w w6 := by
    refine ⟨T, ((k0.drew.mono (T := T) (fun x hx _ => by cases hx))).then k6, fun x hx => ⟨hlow x hx, fun cs t fr hh => ?_⟩⟩
    have := k0.drew.heap hh (by simp)
    obtain ⟨_, cs', t', fr', hx', ht⟩ := hT x hx
    rw [this] at hx'
    cases hx'
    exact ht
  have hsz : w.heap.size ≤ g := by have := k0.size; have h9 : w1.drew.heap.size = w1.heap.size := rfl; omega
  clear hq hbuf h2 h3 hV6 hS6 k6 hT t6 K6
  go_wp2_with fail
  go_ret2
  exact ⟨g, c', rfl, hc', how, hfin, hsz, hB6⟩
set_option maxRecDepth 100000 in
set_option maxHeartbeats 2000000 in
theorem sread_one (w : World) {base : Nat} {d : Ids} {q : Int → List UInt8} {n k : Nat} {b : Int} (h : St w base d q n k) (hn : n ≤ 11) (h0 : 0 ≤ b) (h1 : b < 258) :
    Calls Tryz.prog 66 #[.pointer (some ⟨d.P, 0, none⟩), .int .i64 1, .agg #[.int .i64 b, .int .i64 1]] w fun e w' =>
    ∃ g c', e = .returned (.tuple #[.slice (some ⟨g, 0, none⟩) 40 c', .int .i64 0]) ∧ 40 ≤ c' ∧ Ow base w w' ∧ St w' base d q (n + 1) k ∧ w.heap.size ≤ g ∧ Bs w' (some ⟨g, 0, none⟩) (q b) := by
  have k0 : Chg [] w (w.alloc (.cells #[.int .i64 b, .int .i64 1] 117)) := Chg.alloc w _
  have K0 := heap_new w (.cells #[.int .i64 b, .int .i64 1] 117)
  have h2 := h.keep k0
  have HO := Lib.hid (dead_any _ h2.sta.store)
  clear h
  go_enter Tryz.func66, Tryz.ntmps66
  go_wp2_with fail
  generalize w.alloc (.cells #[.int .i64 b, .int .i64 1] 117) = w1 at *
  generalize hK : w.heap.size = K at *
  refine HO.out.mono ?_
  rintro e w2 ⟨rfl, rfl⟩
  have t5 : w1.cell? ⟨d.P, 5, none⟩ = some (.pointer (some ⟨d.M, 0, none⟩)) := cell_is h2.sta.store 5 rfl
  have a0 : w1.cell? ⟨K, 0, none⟩ = some (.int .i64 b) := cell_is K0 0 rfl
  have a1 : w1.cell? ⟨K, 1, none⟩ = some (.int .i64 1) := cell_is K0 1 rfl
  go_wp2_with fail
  have h3 := h2.keep (Chg.refl [] w1).drew
  go_region_held3 (fun wx => wx.cell? ⟨d.P, 5, none⟩ = some (.pointer (some ⟨d.M, 0, none⟩)) ∧ wx.cell? ⟨K, 0, none⟩ = some (.int .i64 b) ∧ wx.cell? ⟨K, 1, none⟩ = some (.int .i64 1))
    (first | (exact ⟨t5, a0, a1⟩) | (exact ⟨cell_is t6 5 rfl, cell_is K6 0 rfl, cell_is K6 1 rfl⟩))
    (first | (go_at_call 125; refine (tread_one w1.drew h3 hn h0 h1).mono ?_; rintro e w6 ⟨g, c', rfl, hc', k6, h6, hg, hB6⟩; have t6 := h6.sta.store; have K6 := k6.heap K0 (by simp)))
  have hsz : w.heap.size ≤ g := by have := k0.size; have h9 : w1.drew.heap.size = w1.heap.size := rfl; omega
  have how := (Ow.of_chg (base := base) k0.drew).trans k6
  clear h2 h3 t6 K6 k6
  go_wp2_with fail
  go_ret2
  exact ⟨g, c', rfl, hc', how, h6, hsz, hB6⟩
/-- the blocks behind a write. -/
def putQ (q : Int → List UInt8) (b : Int) (l : List UInt8) (x : Int) : List UInt8 := if x = b then l else q x
set_option maxRecDepth 100000 in
theorem swrite_st (w : World) {base : Nat} {d : Ids} {q : Int → List UInt8} {n k : Nat} {E eo cp D o c : Nat} {b : Int} {l : List UInt8} (h : St w base d q n k) (hk : k ≤ 15) (h0 : 0 ≤ b) (h1 : b < 258)
    (e0 : w.cell? ⟨E, eo, none⟩ = some (.int .i64 b)) (e1 : w.cell? ⟨E, eo + 1, none⟩ = some (.slice (some ⟨D, o, none⟩) 40 c)) (hb : Bs w (some ⟨D, o, none⟩) l) (hl : l.length = 40) :
    Calls Tryz.prog 48 #[.pointer (some ⟨d.P, 0, none⟩), .int .i64 1, .slice (some ⟨E, eo, none⟩) 1 cp] w fun e w' => e = .returned (.int .i64 0) ∧ Ow base w w' ∧ St w' base d (putQ q b l) n (k + 1) := by
  obtain ⟨L, v, s, hT, hL, hbuf, hq⟩ := h.tx4
  refine (swrite_one w h.sta.store h.sta.mg hT e0 e1 hb hl h0 h1 (by omega)).mono ?_
  rintro e w' ⟨g, c', rfl, kc, hB, hbs, hbt⟩
  have hr : ∀ {x : Nat} {cs : Array Value} {t : TypeId} {fr : Nat × Nat}, w.heap[x]? = some (.cells cs t fr) → x ∉ [d.rw] := fun hx => by simpa using (map_cells hbuf.2 hx).symm
  refine ⟨rfl, ⟨[d.rw], kc, fun x hx => ?_⟩, h.sta.keep kc (fun x hx => by rw [List.mem_singleton] at hx; subst hx; exact h.high.2.2), kc.heap h.tx (hr h.tx), ⟨_, hB, Nat.le_trans (putL_len _ _ _) (by omega), fun x hx hx' => ?_⟩, h.vw.keep kc (av_map hbuf.2 _), h.sp.keep kc (av_map hbuf.2 _), h.high⟩
  · rw [List.mem_singleton] at hx
    subst hx
    exact ⟨h.high.2.2, fun cs t fr hh => absurd rfl (map_cells hbuf.2 hh)⟩
  · unfold putQ
    by_cases hxb : x = b
    · rw [if_pos hxb]
      exact Or.inr ⟨g, c', by rw [getL_put, if_pos hxb], hbs, hl, hbt⟩
    · rw [if_neg hxb]
      rcases hq x hx hx' with ⟨hg, hz⟩ | ⟨g2, c2, hg, hb2, hl2, cs, ht2⟩
      · exact Or.inl ⟨by rw [getL_put, if_neg hxb]; exact hg, hz⟩
      · exact Or.inr ⟨g2, c2, by rw [getL_put, if_neg hxb]; exact hg, hb2.chgT kc (hr ht2), hl2, cs, kc.heap ht2 (hr ht2)⟩
end Go.Proofs.YtfodeeejolkkfaaGreat
namespace Go.Proofs.YtfodeeejolkkfaaGreat
open Go.RowKit Go.Lib

theorem Bs.part {w : World} {g : Nat} {k n : Nat} (h : Bs w (some ⟨g, 0, none⟩) (List.replicate (40 * n) 0)) (hk : k < n) : Bs w (some ⟨g, 40 * k, none⟩) zeroB := by
  rcases h with h | ⟨b, off, he, hb, hc⟩
  · have := congrArg List.length h
    simp at this
    omega
  · cases he
    refine Or.inr ⟨g, 40 * k, rfl, hb, fun j hj => ?_⟩
    have hj' : j < 40 := hj
    have := hc (40 * k + j) (by simp; omega)
    simp only [Nat.zero_add] at this
    rw [this]
    simp only [show zeroB = List.replicate 40 0 from rfl, List.getElem_replicate]
/-- what stands of a view without writes of its own. -/
structure Vz (w : World) (base Q X rx W rw V n : Nat) (l : List (Int × Int)) : Prop where
  ver : VerAt w X rx
  buf : BufAt w W rw []
  vw : Vw w base Q X W V n
  sp : SpX w base V l
theorem Vz.keep {w w' : World} {base Q X rx W rw V n : Nat} {l : List (Int × Int)} (h : Vz w base Q X rx W rw V n l) (hc : Chg [] w w') : Vz w' base Q X rx W rw V n l :=
  ⟨h.ver.keep0 hc, h.buf.keep hc (by simp) (by simp), h.vw.keep hc (Av.nil _ _), h.sp.keep0 hc⟩
theorem Ow.of_rt {base : Nat} {w w' : World} {T : List Nat} (h : Chg T w w') (hT : Rt w base T) : Ow base w w' := by
  refine ⟨T, h, fun x hx => ⟨(hT x hx).1, fun cs t fr hh => ?_⟩⟩
  obtain ⟨_, cs', t', fr', hx', ht⟩ := hT x hx
  rw [hh] at hx'
  cases hx'
  exact ht
/-- what stands behind a read's last store. -/
theorem vmany_end {wb wc w5 : World} {base Q X rx W rw V n m g5 cp5 : Nat} {l : List (Int × Int)} {s : Value} {xs ys : List Value} (hver : VerAt wc X rx) (hbuf : BufAt wc W rw []) (hsp : SpX wc base V l) (hbQ : base ≤ Q) (ky : Chg [] wb wc) (hm : m ≤ n)
    (oy : wc.ownsRow base 285 3 s m xs) (qy : ViewAt wc Q X W V s) (hQn : Q ∉ s.ownBlock.toList)
    (o5 : w5.ownsRow base 285 3 (.slice (some ⟨g5, 0, none⟩) (m + 1) cp5) (m + 1) ys) (k5 : Chg s.ownBlock.toList wc w5) :
    Ow base wb (w5.setCell ⟨Q, 4, none⟩ (.slice (some ⟨g5, 0, none⟩) (m + 1) cp5)) ∧ Vz (w5.setCell ⟨Q, 4, none⟩ (.slice (some ⟨g5, 0, none⟩) (m + 1) cp5)) base Q X rx W rw V (n + 1) l := by
  have q5 := k5.heap qy hQn
  have kS := Chg.set w5 Q 4 (.slice (some ⟨g5, 0, none⟩) (m + 1) cp5)
  have kk : Chg (Q :: s.ownBlock.toList) wc (w5.setCell ⟨Q, 4, none⟩ (.slice (some ⟨g5, 0, none⟩) (m + 1) cp5)) := (k5.mono (fun x hx _ => List.mem_cons_of_mem _ hx)).then (kS.mono (fun x hx _ => by simp at hx; simp [hx]))
  have HRt : Rt wc base (Q :: s.ownBlock.toList) := by
    intro x hx
    simp only [List.mem_cons] at hx
    rcases hx with rfl | hx
    · exact ⟨hbQ, _, _, _, qy, by simp⟩
    · rcases oy.2 with ⟨rfl, _⟩ | ⟨k, cap, cur, rfl, hb, hk, rest⟩
      · simp [Value.ownBlock] at hx
      · simp [Value.ownBlock] at hx
        subst hx
        exact ⟨hb, _, _, _, hk, by simp⟩
  have hav : Av wc (Q :: s.ownBlock.toList) [117, 312] := by
    intro x hx cs t fr hh
    simp only [List.mem_cons] at hx
    rcases hx with rfl | hx
    · rw [qy] at hh; cases hh; simp
    · rcases oy.2 with ⟨rfl, _⟩ | ⟨k, cap, cur, rfl, hb, hk, rest⟩
      · simp [Value.ownBlock] at hx
      · simp [Value.ownBlock] at hx
        subst hx
        rw [hk] at hh; cases hh; simp
  have hq2 : Av w5 [Q] [285] := fun x hx cs t fr hh => by
    rw [List.mem_singleton] at hx; subst hx; rw [q5] at hh; cases hh; simp
  refine ⟨(Ow.of_chg ky).trans (Ow.of_rt kk HRt), ⟨kk.heap hver.1 (HRt.cells hver.1 (by simp)), hver.2.keep kk (HRt.map hver.2)⟩, hbuf.keep kk (HRt.cells hbuf.1 (by simp)) (HRt.map hbuf.2), ⟨_, m + 1, ys, heap_set q5 4 _ rfl, by omega, ownsRow_av o5 kS hq2⟩, hsp.keep kk hav⟩
set_option maxRecDepth 100000 in
set_option maxHeartbeats 20000000 in
theorem vread_many (w : World) {base Q X rx W rw V m n : Nat} {l : List (Int × Int)} {b : Int} (hz : Vz w base Q X rx W rw V m l) (hx : Ext l b n) (hm : m + n ≤ 100000) (hbase : base ≤ Q ∧ base ≤ V) (h0 : 0 ≤ b) (hn : 1 ≤ n) (hn2 : n ≤ 16) (h1 : b + n ≤ 258) :
    Calls Tryz.prog 175 #[.pointer (some ⟨Q, 0, none⟩), .agg #[.int .i64 b, .int .i64 n]] w fun e w' =>
    ∃ g c', e = .returned (.tuple #[.slice (some ⟨g, 0, none⟩) (40 * n) c', .int .i64 0]) ∧ 40 * n ≤ c' ∧ Ow base w w' ∧ w.heap.size ≤ g ∧ Bs w' (some ⟨g, 0, none⟩) (List.replicate (40 * n) 0) ∧ Bt w' g ∧ Vz w' base Q X rx W rw V (m + n) (addSp l b n) := by
  have k0 : Chg [] w (w.alloc (.cells #[.int .i64 b, .int .i64 n] 117)) := Chg.alloc w _
  have K0 := heap_new w (.cells #[.int .i64 b, .int .i64 n] 117)
  have hz1 := hz.keep k0
  obtain ⟨s0, m0, xs0, q, hm0, ho⟩ := hz1.vw
  have q0 : (w.alloc (.cells #[.int .i64 b, .int .i64 n] 117)).cell? ⟨Q, 0, none⟩ = some (.pointer (some ⟨X, 0, none⟩)) := cell_is q 0 rfl
  have q2 : (w.alloc (.cells #[.int .i64 b, .int .i64 n] 117)).cell? ⟨Q, 2, none⟩ = some (.int .i64 0) := cell_is q 2 rfl
  have a0 : (w.alloc (.cells #[.int .i64 b, .int .i64 n] 117)).cell? ⟨w.heap.size, 0, none⟩ = some (.int .i64 b) := cell_is K0 0 rfl
  have a1 : (w.alloc (.cells #[.int .i64 b, .int .i64 n] 117)).cell? ⟨w.heap.size, 1, none⟩ = some (.int .i64 n) := cell_is K0 1 rfl
  have c1 : ¬ ((n : Int) < 1) := by omega
  have c2 : ¬ ((n : Int) > 16) := by omega
  clear hz
  go_enter Tryz.func175, Tryz.ntmps175
  go_wp2_with fail
  go_step3
  go_wp2_with fail
  generalize w.alloc (.cells #[.int .i64 b, .int .i64 n] 117) = w1 at *
  generalize hK : w.heap.size = K at *
  go_region_held3 (fun wx => wx.cell? ⟨Q, 0, none⟩ = some (.pointer (some ⟨X, 0, none⟩)) ∧ wx.cell? ⟨Q, 2, none⟩ = some (.int .i64 0) ∧ wx.cell? ⟨K, 0, none⟩ = some (.int .i64 b) ∧ wx.cell? ⟨K, 1, none⟩ = some (.int .i64 n))
    (first | (exact ⟨q0, q2, a0, a1⟩) | (exact ⟨k2.cell q0 (by simp), k2.cell q2 (by simp), k2.cell a0 (by simp), k2.cell a1 (by simp)⟩))
    (first | (go_at_call 210; refine (range_many w1.drew (n := n) (hz1.ver.keep0 (Chg.refl [] w1).drew) h0 (by omega) h1).mono ?_; rintro e w2 ⟨g, c', rfl, hc', k2, o2⟩))
  have kk2 := (Chg.refl [] w1).drew.then k2
  have q := kk2.heap q (by simp)
  have K0 := kk2.heap K0 (by simp)
  have hz2 := hz1.keep kk2
  have hK2 : K ≤ w2.heap.size := by have := k0.size; have := kk2.size; omega
  have ho2 : w2.ownsRow K 5 1 (.slice (some ⟨g, 0, none⟩) (40 * n) c') (40 * n) (Lib.byteCells (List.replicate (40 * n) 0)) := ownsRow_base o2 (by have := k0.size; show K ≤ w1.heap.size; omega)
  have kk := k0.then kk2
  clear q0 q2 a0 a1 hz1 o2 k0 k2 kk2 ho
  have q3 : w2.cell? ⟨Q, 3, none⟩ = some (.pointer (some ⟨V, 0, none⟩)) := cell_is q 3 rfl
  have a0 : w2.cell? ⟨K, 0, none⟩ = some (.int .i64 b) := cell_is K0 0 rfl
  have a1 : w2.cell? ⟨K, 1, none⟩ = some (.int .i64 n) := cell_is K0 1 rfl
  go_wp2_with fail
  have kx : Chg [] w2 (w2.drew.alloc (.cells #[.int .i64 b, .int .i64 n] 117)) := (Chg.refl [] w2).drew.then_alloc _
  have kx0 := heap_new w2.drew (.cells #[.int .i64 b, .int .i64 n] 117)
  have hVK : V ≠ K := by obtain ⟨_, hh, _⟩ := hz2.sp; exact heap_ne hh K0 (by simp)
  have hVQ : V ≠ Q := by obtain ⟨_, hh, _⟩ := hz2.sp; exact heap_ne hh q (by simp)
  have hbw : base ≤ (w2.drew.alloc (.cells #[.int .i64 b, .int .i64 n] 117)).heap.size := by have := heap_lt q; have := kx.size; omega
  have kx2 : Chg [V] w2 (w2.drew.alloc (.cells #[.int .i64 b, .int .i64 n] 117)) := kx.mono (fun x hx _ => by cases hx)
  go_region_held3 (fun wx => wx.cell? ⟨Q, 3, none⟩ = some (.pointer (some ⟨V, 0, none⟩)) ∧ wx.cell? ⟨K, 0, none⟩ = some (.int .i64 b) ∧ wx.cell? ⟨K, 1, none⟩ = some (.int .i64 n))
    (first | (exact ⟨q3, a0, a1⟩) | (exact ⟨kx.cell q3 (by simp), kx.cell a0 (by simp), kx.cell a1 (by simp)⟩) | (exact ⟨(kx2.then k3).cell q3 (by simpa using hVQ.symm), (kx2.then k3).cell a0 (by simpa using hVK.symm), (kx2.then k3).cell a1 (by simpa using hVK.symm)⟩))
    (first | (go_at_call 197; refine (iadd_ext (w2.drew.alloc (.cells #[.int .i64 b, .int .i64 n] 117)) (base := base) (V := V) (n := n) (E := w2.drew.heap.size) (hz2.sp.keep0 kx) hx hbw h0 (by omega) h1 (cell_is kx0 0 rfl) (cell_is kx0 1 rfl)).mono ?_; rintro e w3 ⟨rfl, k3, hS3⟩))
  have k4 := kx2.then k3
  have hR4 : Rt w2 base [V] := fun x hx => by
    rw [List.mem_singleton] at hx
    subst hx
    obtain ⟨_, hh, _⟩ := hz2.sp
    exact ⟨hbase.2, _, _, _, hh, by simp⟩
  have q := k4.heap q (by simpa using hVQ.symm)
  have K0 := k4.heap K0 (by simpa using hVK.symm)
  have hVav : Av w2 [V] [275, 285] := fun x hx cs t fr hh => by
    rw [List.mem_singleton] at hx
    subst hx
    obtain ⟨_, h9, _⟩ := hz2.sp
    rw [h9] at hh; cases hh; simp
  have hz3 : Vz w3 base Q X rx W rw V m (addSp l b n) := ⟨⟨k4.heap hz2.ver.1 (hR4.cells hz2.ver.1 (by simp)), hz2.ver.2.keep k4 (hR4.map hz2.ver.2)⟩, hz2.buf.keep k4 (hR4.cells hz2.buf.1 (by simp)) (hR4.map hz2.buf.2), hz2.vw.keep k4 hVav, hS3⟩
  have hgz : Bs w2 (some ⟨g, 0, none⟩) (List.replicate (40 * n) 0) ∧ Bt w2 g ∧ K ≤ g := by
    rcases ho2.2 with ⟨e, h0⟩ | ⟨g', cap, cur, e, hA, hgt, _⟩
    · omega
    · cases e; exact ⟨Bs.own ho2, ⟨_, hgt⟩, hA⟩
  have hgV : g ∉ [V] := hR4.cells hgz.2.1.choose_spec (by simp)
  have hB3 : Bs w3 (some ⟨g, 0, none⟩) (List.replicate (40 * n) 0) := hgz.1.chgT k4 hgV
  obtain ⟨cur, hg3⟩ : Bt w3 g := ⟨_, k4.heap hgz.2.1.choose_spec hgV⟩
  have kw3 : Ow base w w3 := (Ow.of_chg kk).trans (Ow.of_rt k4 hR4)
  have hgK := hgz.2.2
  have HB := Lib.hid hB3
  clear q3 a0 a1 hz2 hgz ho2 kx kx2 kx0 k3 k4 hR4 hgV kk hbw hB3 hS3 hVav hx
  obtain ⟨l3, hl3⟩ : ∃ l3, addSp l b n = l3 := ⟨_, rfl⟩
  rw [hl3] at hz3
  have HL3 := Lib.hid hl3
  clear hl3
  have a0 : w3.cell? ⟨K, 0, none⟩ = some (.int .i64 b) := cell_is K0 0 rfl
  have a1 : w3.cell? ⟨K, 1, none⟩ = some (.int .i64 n) := cell_is K0 1 rfl
  go_wp2_with fail
  go_step3
  go_wp2_with fail
  go_loopw [8, 9, 10, 11, 55] (fun _ _ _ _ i wr => ∃ j : Nat, i = .int .i64 j ∧ j ≤ n ∧ Ow base w3 wr ∧ Vz wr base Q X rx W rw V (m + j) l3) (fun _ _ _ _ i _ => n - (intOf i).toNat)
  case atStart => exact ⟨0, rfl, Nat.zero_le _, Ow.refl _ _, hz3⟩
  case round =>
    obtain ⟨j, rfl, hj, kr, hzr⟩ := hrel
    rcases Nat.lt_or_ge j n with hlt | hge
    · have hlt' : (j : Int) < n := by omega
      have K0r := kr.heap K0 (by simp)
      have hgr := kr.heap hg3 (by simp)
      obtain ⟨s, mm, xs, qr, hmm, or⟩ := hzr.vw
      have q1 : wr.cell? ⟨Q, 1, none⟩ = some (.pointer (some ⟨W, 0, none⟩)) := cell_is qr 1 rfl
      have a0 : wr.cell? ⟨K, 0, none⟩ = some (.int .i64 b) := cell_is K0r 0 rfl
      have e1 : IntKind.i64.wrap ((j : Int) * 40) = ((40 * j : Nat) : Int) := by rw [IntKind.wrap_i64]; omega
      have e2 : IntKind.i64.wrap ((j : Int) + 1) = ((j + 1 : Nat) : Int) := by rw [IntKind.wrap_i64]; omega
      have e3 : IntKind.i64.wrap (((j + 1 : Nat) : Int) * 40) = ((40 * (j + 1) : Nat) : Int) := by rw [IntKind.wrap_i64]; omega
      have e4 : IntKind.i64.wrap (b + j) = b + j := by rw [IntKind.wrap_i64]; omega
      go_wp2_with fail
      rw [show (j + 1) * 40 - 40 * j = 40 by omega]
      go_region_held3 (fun wx => wx.cell? ⟨Q, 1, none⟩ = some (.pointer (some ⟨W, 0, none⟩)) ∧ wx.cell? ⟨K, 0, none⟩ = some (.int .i64 b)) (first | (exact ⟨q1, a0⟩))
        (first | (go_at_call 211; refine (bget_none wr.drew (hzr.buf.keep (Chg.refl [] wr).drew (by simp) (by simp)) rfl).mono ?_; rintro e wa ⟨rfl, rfl⟩))
      have k7 : Chg [] wr wr.drew := (Chg.refl [] wr).drew
      have hgb : wr.drew.heap[g]? = some (.cells cur 5 (0, 0)) := hgr
      have qb : ViewAt wr.drew Q X W V s := qr
      have Kb : wr.drew.heap[K]? = some (.cells #[.int .i64 b, .int .i64 n] 117 (0, 0)) := K0r
      have ob := ownsRow_chg or k7
      have hzb := hzr.keep k7
      have krb : Ow base w3 wr.drew := kr.then k7
      have hBb : Bs wr.drew (some ⟨g, 40 * j, none⟩) zeroB := by
        have hBr : Bs wr (some ⟨g, 0, none⟩) (List.replicate (40 * n) 0) := by
          obtain ⟨T, hT1, hT2⟩ := kr
          refine HB.out.chgT hT1 (fun hm => ?_)
          rcases (hT2 g hm).2 _ _ _ hg3 with h | h | h <;> cases h
        exact (hBr.chg k7).part hlt
      clear q1 a0 or hgr qr K0r hzr kr k7
      generalize wr.drew = wb at *
      have a0 : wb.cell? ⟨K, 0, none⟩ = some (.int .i64 b) := cell_is Kb 0 rfl
      have q4 : wb.cell? ⟨Q, 4, none⟩ = some s := cell_is qb 4 rfl
      have a0d : wb.drew.cell? ⟨K, 0, none⟩ = some (.int .i64 b) := a0
      have q4d : wb.drew.cell? ⟨Q, 4, none⟩ = some s := q4
      have HBb := Lib.hid hBb
      clear hBb
      go_wp2_with fail
      go_region_law
        (first
          | (go_simp; go_at_call 113; refine (clone_bs wb.drew (l := zeroB) (m := 40) rfl (by decide) (by decide) (HBb.out.chg (Chg.refl [] wb).drew)).mono ?_; rintro e w6 ⟨g2, c2, rfl, k6, _, _⟩; have a06 := k6.cell a0d (by simp); have q46 := k6.cell q4d (by simp); have ky : Chg [] wb (w6.alloc (.cells #[.int .i64 (b + j), .slice (some ⟨g2, 0, none⟩) 40 c2, .bool false] 285)) := ((Chg.refl [] wb).drew.then k6).then_alloc _; have y0 := heap_new w6 (.cells #[.int .i64 (b + j), .slice (some ⟨g2, 0, none⟩) 40 c2, .bool false] 285); have oy := ownsRow_chg ob ky; have qy := ky.heap qb (by simp); have q4y := cell_is qy 4 rfl; have a0y := cell_is (ky.heap Kb (by simp)) 0 rfl; have hQn := own_block_ne oy qy (by decide); have hby : base ≤ (w6.alloc (.cells #[.int .i64 (b + j), .slice (some ⟨g2, 0, none⟩) 40 c2, .bool false] 285)).heap.size := (by have := heap_lt qy; omega))
          | (refine step_append_rd rfl (.tmp 100) (.tmp 108) rfl base _ mm xs rfl oy w6.heap.size 1 _ _ _ rfl (cell_is y0 0 rfl) (cell_is y0 1 rfl) (cell_is y0 2 rfl) ⟨rfl, rfl, rfl⟩ (by omega) hby ?_; intro g5 cp5 w5 o5 k5; have q5 := k5.heap qy hQn; have q45 := cell_is q5 4 rfl; have f45 := unfrozen q5 4))
      all_goals
        have hzy := hzb.keep ky
        have HZ := Lib.hid (vmany_end hzy.ver hzy.buf hzy.sp hbase.1 ky hmm oy qy hQn (g5 := g5) (cp5 := cp5) (w5 := w5) o5 k5)
        clear HBb o5 k5 q5 f45 q45 hzy hzb
        go_wp2_with fail
        go_roundw
        case rel => exact ⟨j + 1, by go_num, hlt, krb.trans HZ.out.1, HZ.out.2⟩
        case measure => simp [intOf]; omega
    · obtain rfl : j = n := by omega
      have hnl : ¬ ((j : Int) < j) := by omega
      have hgw : w.heap.size ≤ g := by omega
      have hBr : Bs wr (some ⟨g, 0, none⟩) (List.replicate (40 * j) 0) := by
        obtain ⟨T, hT1, hT2⟩ := kr
        refine HB.out.chgT hT1 (fun hm => ?_)
        rcases (hT2 g hm).2 _ _ _ hg3 with h | h | h <;> cases h
      have kw := kw3.trans kr
      have hBt : Bt wr g := ⟨_, kr.heap hg3 (by simp)⟩
      clear hz3
      go_wp2_with fail
      go_ret2
      exact ⟨g, c', rfl, hc', kw, hgw, hBr, hBt, by rw [HL3.out]; exact hzr⟩
end Go.Proofs.YtfodeeejolkkfaaGreat
namespace Go.Proofs.YtfodeeejolkkfaaGreat
open Go.RowKit Go.Lib

theorem Sta.keepO {w w' : World} {base : Nat} {d : Ids} (h : Sta w base d) (k : Ow base w w') : Sta w' base d := by
  obtain ⟨T, hT, hx⟩ := k
  exact h.keep hT (fun x hm => (hx x hm).1)
/-- a store with one transaction that has only read, n blocks, in these spans. -/
structure Sz (w : World) (base : Nat) (d : Ids) (n : Nat) (l : List (Int × Int)) : Prop where
  sta : Sta w base d
  tx : TxAt w d.T d.W d.Q
  vz : Vz w base d.Q d.X d.rx d.W d.rw d.V n l
  high : base ≤ d.Q ∧ base ≤ d.V ∧ base ≤ d.rw
theorem Sz.keep {w w' : World} {base : Nat} {d : Ids} {n : Nat} {l : List (Int × Int)} (h : Sz w base d n l) (hc : Chg [] w w') : Sz w' base d n l :=
  ⟨h.sta.keep hc (fun x hx => by cases hx), hc.heap h.tx (by simp), h.vz.keep hc, h.high⟩
set_option maxRecDepth 100000 in
set_option maxHeartbeats 2000000 in
theorem tread_many (w : World) {base : Nat} {d : Ids} {m n : Nat} {l : List (Int × Int)} {b : Int} (h : Sz w base d m l) (hx : Ext l b n) (hm : m + n ≤ 100000) (h0 : 0 ≤ b) (hn : 1 ≤ n) (hn2 : n ≤ 16) (h1 : b + n ≤ 258) :
    Calls Tryz.prog 125 #[.pointer (some ⟨d.M, 0, none⟩), .int .i64 1, .agg #[.int .i64 b, .int .i64 n]] w fun e w' =>
    ∃ g c', e = .returned (.tuple #[.slice (some ⟨g, 0, none⟩) (40 * n) c', .int .i64 0]) ∧ 40 * n ≤ c' ∧ Ow base w w' ∧ w.heap.size ≤ g ∧ Bs w' (some ⟨g, 0, none⟩) (List.replicate (40 * n) 0) ∧ Bt w' g ∧ Sz w' base d (m + n) (addSp l b n) := by
  have k0 : Chg [] w (w.alloc (.cells #[.int .i64 b, .int .i64 n] 117)) := Chg.alloc w _
  have K0 := heap_new w (.cells #[.int .i64 b, .int .i64 n] 117)
  have h2 := h.keep k0
  have HO := Lib.hid (topen_one _ h2.sta.mg h2.tx)
  clear h
  go_enter Tryz.func125, Tryz.ntmps125
  go_wp2_with fail
  generalize w.alloc (.cells #[.int .i64 b, .int .i64 n] 117) = w1 at *
  generalize hK : w.heap.size = K at *
  refine HO.out.mono ?_
  rintro e w2 ⟨rfl, rfl⟩
  have t5 : w1.cell? ⟨d.T, 5, none⟩ = some (.pointer (some ⟨d.Q, 0, none⟩)) := cell_is h2.tx 5 rfl
  have a0 : w1.cell? ⟨K, 0, none⟩ = some (.int .i64 b) := cell_is K0 0 rfl
  have a1 : w1.cell? ⟨K, 1, none⟩ = some (.int .i64 n) := cell_is K0 1 rfl
  go_wp2_with fail
  have h3 := h2.keep (Chg.refl [] w1).drew
  go_region_held3 (fun wx => wx.cell? ⟨d.T, 5, none⟩ = some (.pointer (some ⟨d.Q, 0, none⟩)) ∧ wx.cell? ⟨K, 0, none⟩ = some (.int .i64 b) ∧ wx.cell? ⟨K, 1, none⟩ = some (.int .i64 n))
    (first | (exact ⟨t5, a0, a1⟩) | (exact ⟨cell_is t6 5 rfl, cell_is K6 0 rfl, cell_is K6 1 rfl⟩))
    (first | (go_at_call 175; refine (vread_many w1.drew h3.vz hx hm ⟨h3.high.1, h3.high.2.1⟩ h0 hn hn2 h1).mono ?_; rintro e w6 ⟨g, c', rfl, hc', k6, hg, hB6, hT6, hV6⟩; have t6 := k6.heap h3.tx (by simp); have K6 := k6.heap (show w1.drew.heap[K]? = _ from K0) (by simp)))
  have hfin : Sz w6 base d (m + n) (addSp l b n) := ⟨h3.sta.keepO k6, t6, hV6, h3.high⟩
  have how : Ow base w w6 := (Ow.of_chg k0.drew).trans k6
  have hsz : w.heap.size ≤ g := by have := k0.size; have h9 : w1.drew.heap.size = w1.heap.size := rfl; omega
  clear h2 h3 hV6 k6 t6 K6 hx
  go_wp2_with fail
  go_ret2
  exact ⟨g, c', rfl, hc', how, hsz, hB6, hT6, hfin⟩
set_option maxRecDepth 100000 in
set_option maxHeartbeats 2000000 in
theorem sread_many (w : World) {base : Nat} {d : Ids} {m n : Nat} {l : List (Int × Int)} {b : Int} (h : Sz w base d m l) (hx : Ext l b n) (hm : m + n ≤ 100000) (h0 : 0 ≤ b) (hn : 1 ≤ n) (hn2 : n ≤ 16) (h1 : b + n ≤ 258) :
    Calls Tryz.prog 66 #[.pointer (some ⟨d.P, 0, none⟩), .int .i64 1, .agg #[.int .i64 b, .int .i64 n]] w fun e w' =>
    ∃ g c', e = .returned (.tuple #[.slice (some ⟨g, 0, none⟩) (40 * n) c', .int .i64 0]) ∧ 40 * n ≤ c' ∧ Ow base w w' ∧ w.heap.size ≤ g ∧ Bs w' (some ⟨g, 0, none⟩) (List.replicate (40 * n) 0) ∧ Bt w' g ∧ Sz w' base d (m + n) (addSp l b n) := by
  have k0 : Chg [] w (w.alloc (.cells #[.int .i64 b, .int .i64 n] 117)) := Chg.alloc w _
  have K0 := heap_new w (.cells #[.int .i64 b, .int .i64 n] 117)
  have h2 := h.keep k0
  have HO := Lib.hid (dead_any _ h2.sta.store)
  clear h
  go_enter Tryz.func66, Tryz.ntmps66
  go_wp2_with fail
  generalize w.alloc (.cells #[.int .i64 b, .int .i64 n] 117) = w1 at *
  generalize hK : w.heap.size = K at *
  refine HO.out.mono ?_
  rintro e w2 ⟨rfl, rfl⟩
  have t5 : w1.cell? ⟨d.P, 5, none⟩ = some (.pointer (some ⟨d.M, 0, none⟩)) := cell_is h2.sta.store 5 rfl
  have a0 : w1.cell? ⟨K, 0, none⟩ = some (.int .i64 b) := cell_is K0 0 rfl
  have a1 : w1.cell? ⟨K, 1, none⟩ = some (.int .i64 n) := cell_is K0 1 rfl
  go_wp2_with fail
  have h3 := h2.keep (Chg.refl [] w1).drew
  go_region_held3 (fun wx => wx.cell? ⟨d.P, 5, none⟩ = some (.pointer (some ⟨d.M, 0, none⟩)) ∧ wx.cell? ⟨K, 0, none⟩ = some (.int .i64 b) ∧ wx.cell? ⟨K, 1, none⟩ = some (.int .i64 n))
    (first | (exact ⟨t5, a0, a1⟩) | (exact ⟨cell_is t6 5 rfl, cell_is K6 0 rfl, cell_is K6 1 rfl⟩))
    (first | (go_at_call 125; refine (tread_many w1.drew h3 hx hm h0 hn hn2 h1).mono ?_; rintro e w6 ⟨g, c', rfl, hc', k6, hg, hB6, hT6, h6⟩; have t6 := h6.sta.store; have K6 := k6.heap (show w1.drew.heap[K]? = _ from K0) (by simp)))
  have hsz : w.heap.size ≤ g := by have := k0.size; have h9 : w1.drew.heap.size = w1.heap.size := rfl; omega
  have how := (Ow.of_chg (base := base) k0.drew).trans k6
  clear h2 h3 t6 K6 k6 hx
  go_wp2_with fail
  go_ret2
  exact ⟨g, c', rfl, hc', how, hsz, hB6, hT6, h6⟩
end Go.Proofs.YtfodeeejolkkfaaGreat
namespace Go.Proofs.YtfodeeejolkkfaaGreat
open Go.RowKit Go.Lib

theorem unpack_zero : unpackB zeroB = some [0, 0, 0, 0, 0] := by kernel_rfl
/-- some doubles are put behind those of an own row. -/
theorem wpList_append_fl {ops : Array Oper} {rest : List Oper} {o : Oper} {a : Act} {w : World} {Q : Exit → Act → World → Prop} (hg : o.guard = none) (s x : Operand)
    (ho : o.op = .call { callee := .builtin .append, args := #[s, x], argTypes := #[22, 22] }) (base : Nat) (v : Value) (n : Nat) (xs l : List Nat) (hs : a.eval s = v) (hown : w.ownsRow base 42 1 v n (flCells xs))
    (b eo m c : Nat) (hx : a.eval x = .slice (some ⟨b, eo, none⟩) m c) (hl : l.length = m) (hm : 0 < m) (hr : Fl w (some ⟨b, eo, none⟩) l) (hn : n + m ≤ 1000000) (hbase : base ≤ w.heap.size)
    (h : ∀ g cap w', w'.ownsRow base 42 1 (.slice (some ⟨g, 0, none⟩) (n + m) cap) (n + m) (flCells (xs ++ l)) → Chg v.ownBlock.toList w w' → wpList Tryz.prog ops Q rest (a.put o.dst (.slice (some ⟨g, 0, none⟩) (n + m) cap)) w') : wpList Tryz.prog ops Q (o :: rest) a w := by
  obtain ⟨i, hi0, hz, hz1, hz2⟩ := info_parts inf42
  refine wpList_append_lies w hg s x 22 ho base 42 i _ 1 8 ty22 hi0 hz hz1 hz2 rfl (by decide) v n (flCells xs) hs hown ⟨b, eo, none⟩ m c (flCells l) hx (by simp [flCells, hl]) ?_ (flCells_one l) hm (by unfold maxLen; omega) (by omega) hbase _ rfl ?_
  · intro j u hu
    rcases hr with rfl | ⟨b', o', e, hc⟩
    · simp [flCells] at hu
    · cases e
      have hj : j < l.length := by
        rcases Nat.lt_or_ge j l.length with h | h
        · exact h
        · rw [List.getElem?_eq_none (by simpa [flCells] using h)] at hu; cases hu
      rw [add_lit, hc j hj, ← hu]
      simp [flCells, hj]
  · intro g cap w' h2 h3 _ _
    refine h g cap w' (by unfold flCells at *; simpa using h2) ?_
    cases hv : v.ownBlock with
    | none => rw [hv] at h3; exact Chg.of_grown0 h3
    | some k => rw [hv] at h3; exact Chg.of_grown h3
theorem Sz.keepF {w w' : World} {base b0 : Nat} {d : Ids} {n k : Nat} {l : List (Int × Int)} {v : Value} {xs : List Value} (h : Sz w base d n l) (ho : w.ownsRow b0 42 1 v k xs) (hb : base ≤ b0) (hc : Chg v.ownBlock.toList w w') : Sz w' base d n l := by
  have hF : ∀ x ∈ v.ownBlock.toList, base ≤ x ∧ ∃ cs fr, w.heap[x]? = some (.cells cs 42 fr) := by
    intro x hx
    rcases ho.2 with ⟨rfl, _⟩ | ⟨g, cap, cur, rfl, hb, hk, rest⟩
    · simp [Value.ownBlock] at hx
    · simp [Value.ownBlock] at hx
      subst hx
      exact ⟨by omega, _, _, hk⟩
  have nc : ∀ {g : Nat} {cs : Array Value} {t : TypeId} {fr : Nat × Nat}, w.heap[g]? = some (.cells cs t fr) → t ≠ 42 → g ∉ v.ownBlock.toList := by
    intro g cs t fr hg ht hm
    obtain ⟨_, cs', fr', hh⟩ := hF g hm
    rw [hg] at hh; cases hh; exact ht rfl
  have nm : ∀ {r : Nat} {L : List (Int × Value)}, MapAt w r L → r ∉ v.ownBlock.toList := by
    intro r L hg hm
    obtain ⟨_, cs', fr', hh⟩ := hF r hm
    exact map_cells hg hh rfl
  have av : ∀ ts : List Nat, 42 ∉ ts → Av w v.ownBlock.toList ts := by
    intro ts ht x hx cs t fr hh
    obtain ⟨_, cs', fr', h2⟩ := hF x hx
    rw [hh] at h2; cases h2; exact ht
  exact ⟨h.sta.keep hc (fun x hx => (hF x hx).1), hc.heap h.tx (nc h.tx (by decide)),
    ⟨⟨hc.heap h.vz.ver.1 (nc h.vz.ver.1 (by decide)), h.vz.ver.2.keep hc (nm h.vz.ver.2)⟩, h.vz.buf.keep hc (nc h.vz.buf.1 (by decide)) (nm h.vz.buf.2), h.vz.vw.keep hc (av _ (by decide)), h.vz.sp.keep hc (av _ (by decide))⟩, h.high⟩
theorem ownsRow_ow {w w' : World} {base b0 n : Nat} {v : Value} {xs : List Value} (h : w.ownsRow b0 42 1 v n xs) (k : Ow base w w') : w'.ownsRow b0 42 1 v n xs := by
  refine ⟨h.1, ?_⟩
  rcases h.2 with hn | ⟨g, cap, cur, hv, hb, hg, rest⟩
  · exact Or.inl hn
  · exact Or.inr ⟨g, cap, cur, hv, hb, k.heap hg (by simp), rest⟩
/-- what a question for cells is told. -/
def qErr (f n : Int) : Int := if n < 0 then 1 else if n > 2000 then 7 else if f < 0 ∨ f > 1290 - n then 2 else 0
set_option maxRecDepth 100000 in
set_option maxHeartbeats 2000000 in
theorem qcells_err (w : World) {base : Nat} {d : Ids} {m : Nat} {l : List (Int × Int)} {f n hd : Int} (h : Sz w base d m l) (hE : qErr f n ≠ 0 ∨ n = 0) :
    Calls Tryz.prog 32 #[.pointer (some ⟨d.P, 0, none⟩), .int .i64 hd, .int .i64 f, .int .i64 n] w fun e w' => e = .returned (.tuple #[.slice none 0 0, .int .i64 (qErr f n)]) ∧ Chg [] w w' := by
  generalize hq : qErr f n = q at *
  have HQ := Lib.hid hq
  clear hq
  obtain ⟨ops, hdev⟩ := h.sta.dev
  have HC := Lib.hid (ccount_any w h.sta.store hdev)
  clear h hdev
  go_enter Tryz.func32, Tryz.ntmps32
  go_wp2_with fail
  go_step3
  go_wp2_with fail
  refine HC.out.mono ?_
  rintro e w1 ⟨rfl, k1⟩
  by_cases c1 : n < 0
  · obtain rfl : q = 1 := by rw [← HQ.out, qErr, if_pos c1]
    go_wp2_with fail
    simp only [Exit.noGoto]
    go_ret2
    exact ⟨rfl, k1⟩
  · by_cases c2 : n > 2000
    · obtain rfl : q = 7 := by rw [← HQ.out, qErr, if_neg c1, if_pos c2]
      go_wp2_with fail
      simp only [Exit.noGoto]
      go_ret2
      exact ⟨rfl, k1⟩
    · have hw : IntKind.i64.wrap (1290 - n) = 1290 - n := by rw [IntKind.wrap_i64]; omega
      by_cases c3 : f < 0
      · obtain rfl : q = 2 := by rw [← HQ.out, qErr, if_neg c1, if_neg c2, if_pos (Or.inl c3)]
        go_wp2_with fail
        simp only [Exit.noGoto]
        go_ret2
        exact ⟨rfl, k1⟩
      · by_cases c4 : f > 1290 - n
        · obtain rfl : q = 2 := by rw [← HQ.out, qErr, if_neg c1, if_neg c2, if_pos (Or.inr c4)]
          go_wp2_with fail
          simp only [Exit.noGoto]
          go_ret2
          exact ⟨rfl, k1⟩
        · obtain rfl : q = 0 := by rw [← HQ.out, qErr, if_neg c1, if_neg c2, if_neg (by omega)]
          obtain rfl : n = 0 := by simpa using hE
          clear hE HQ
          go_wp2_with fail
          simp only [Exit.noGoto]
          go_ret2
          exact ⟨rfl, k1⟩
end Go.Proofs.YtfodeeejolkkfaaGreat
namespace Go.Proofs.YtfodeeejolkkfaaGreat
open Go.RowKit Go.Lib

/-- the spans behind j blocks read from a first one. -/
def X2 (l : List (Int × Int)) (a j : Int) : Prop := (l = [] ∧ j = 0) ∨ ∃ p k, l = [(p, k)] ∧ 0 ≤ p ∧ p ≤ a ∧ a + j ≤ p + k ∧ p + k ≤ 258
theorem X2.ext {l : List (Int × Int)} {a j n : Int} (h : X2 l a j) (hj : 0 ≤ j) : Ext l (a + j) n := by
  rcases h with ⟨rfl, _⟩ | ⟨p, k, rfl, h1, h2, h3, h4⟩
  · exact Or.inl rfl
  · exact Or.inr ⟨p, k, rfl, h1, by omega, h3, h4⟩
theorem X2.add {l : List (Int × Int)} {a j s : Int} (h : X2 l a j) (ha : 0 ≤ a) (_hj : 0 ≤ j) (_hs : 0 ≤ s) (hb : a + j + s ≤ 258) : X2 (addSp l (a + j) s) a (j + s) := by
  rcases h with ⟨rfl, rfl⟩ | ⟨p, k, rfl, h1, h2, h3, h4⟩
  · exact Or.inr ⟨a + 0, s, rfl, by omega, by omega, by omega, by omega⟩
  · exact Or.inr ⟨p, _, rfl, h1, h2, by omega, by omega⟩
theorem Ext.x2 {l : List (Int × Int)} {a n : Int} (h : Ext l a n) : X2 l a 0 := by
  rcases h with rfl | ⟨p, k, rfl, h1, h2, h3, h4⟩
  · exact Or.inl ⟨rfl, rfl⟩
  · exact Or.inr ⟨p, k, rfl, h1, h2, by omega, h4⟩
theorem X2.ext0 {l : List (Int × Int)} {a j : Int} (h : X2 l a j) (hj : 0 ≤ j := by omega) : Ext l a 0 := by
  rcases h with ⟨rfl, _⟩ | ⟨p, k, rfl, h1, h2, h3, h4⟩
  · exact Or.inl rfl
  · exact Or.inr ⟨p, k, rfl, h1, h2, by omega, h4⟩
theorem Ow.then_new {base : Nat} {a b c : World} {U : List Nat} (h : Ow base a b) (k : Chg U b c) (hU : ∀ x ∈ U, a.heap.size ≤ x) : Ow base a c := by
  obtain ⟨T, h1, h2⟩ := h
  exact ⟨T, h1.trans k (fun x hx hlt => by have := hU x hx; omega), h2⟩
theorem own_low {w : World} {b0 e size n : Nat} {v : Value} {xs : List Value} (h : w.ownsRow b0 e size v n xs) : ∀ x ∈ v.ownBlock.toList, b0 ≤ x := by
  intro x hx
  rcases h.2 with ⟨rfl, _⟩ | ⟨g, cap, cur, rfl, hb, hk, rest⟩
  · simp [Value.ownBlock] at hx
  · simp [Value.ownBlock] at hx
    subst hx
    exact hb
theorem fl_own {w : World} {b0 n : Nat} {v : Value} {xs : List Nat} (h : w.ownsRow b0 42 1 v n (flCells xs)) (hn : 0 < n) : ∃ g c, v = .slice (some ⟨g, 0, none⟩) n c ∧ Fl w (some ⟨g, 0, none⟩) xs := by
  rcases h.2 with ⟨_, h0⟩ | ⟨g, cap, cur, rfl, hb, hg, hc, hm, hs, ht⟩
  · omega
  · refine ⟨g, cap, rfl, Or.inr ⟨g, 0, rfl, fun j hj => ?_⟩⟩
    rw [Nat.zero_add]
    have hl : (flCells xs)[j]? = some (.float .f64 xs[j]) := by simp [flCells, hj]
    rw [← ht, List.getElem?_take] at hl
    split at hl
    · exact cell_is hg j (by simpa using hl)
    · cases hl
/-- a slice's length. -/
def lenV : Value → Nat
  | .slice _ n _ => n
  | _ => 0
theorem meas_lt {L F j i : Nat} (hi : 1 ≤ i) (h : F + j + i ≤ L + 1) (hL : L ≤ 257) : L + 1 - (intOf (Value.int IntKind.i64 (wrap64 ((F : Int) + j + i)))).toNat < L + 1 - (intOf (Value.int IntKind.i64 ((F : Int) + j))).toNat := by
  have e : wrap64 ((F : Int) + j + i) = ((F + j + i : Nat) : Int) := by unfold wrap64; omega
  rw [e]
  show L + 1 - (((F + j + i : Nat) : Int)).toNat < L + 1 - ((F : Int) + j).toNat
  omega
/-- n noughts. -/
def zeroF (n : Nat) : List Nat := List.replicate n 0
theorem fin_fl {w : World} {g k o n : Nat} (h : Fl w (some ⟨g, 0, none⟩) (zeroF k)) (hk : o + n ≤ k) : Fl w (some ⟨g, o, none⟩) (zeroF n) := by
  rcases h with h | ⟨b, o', e, h⟩
  · refine Or.inl ?_
    have := congrArg List.length h
    simp only [zeroF, List.length_replicate, List.length_nil] at this
    obtain rfl : n = 0 := by omega
    rfl
  · cases e
    refine Or.inr ⟨g, o, rfl, fun j hj => ?_⟩
    have hj' : j < n := by simpa [zeroF] using hj
    have := h (o + j) (by simp [zeroF]; omega)
    rw [Nat.zero_add] at this
    rw [this]
    simp [zeroF]
set_option maxRecDepth 100000 in
set_option maxHeartbeats 20000000 in
theorem qcells_ok (w : World) {base : Nat} {d : Ids} {m f n : Nat} {l : List (Int × Int)} (h : Sz w base d m l) (hx : Ext l (f / 5 : Nat) 0) (hm : m ≤ 90000) (hn : 0 < n) (hf : f + n ≤ 1290) :
    Calls Tryz.prog 32 #[.pointer (some ⟨d.P, 0, none⟩), .int .i64 1, .int .i64 f, .int .i64 n] w fun e w' =>
    ∃ g o c m' l', e = .returned (.tuple #[.slice (some ⟨g, o, none⟩) n c, .int .i64 0]) ∧ n ≤ c ∧ Ow base w w' ∧ Fl w' (some ⟨g, o, none⟩) (zeroF n) ∧ Sz w' base d m' l' ∧ Ext l' (f / 5 : Nat) 0 ∧ m' ≤ m + 258 := by
  obtain ⟨ops, hdev⟩ := h.sta.dev
  have HC := Lib.hid (ccount_any w h.sta.store hdev)
  clear hdev
  have c1 : ¬ ((n : Int) < 0) := by omega
  have c2 : ¬ ((n : Int) > 2000) := by omega
  have c3 : ¬ ((f : Int) < 0) := by omega
  have hw : IntKind.i64.wrap (1290 - (n : Int)) = 1290 - n := by rw [IntKind.wrap_i64]; omega
  have c4 : ¬ ((f : Int) > 1290 - n) := by omega
  have c5 : (n : Int) ≠ 0 := by omega
  go_enter Tryz.func32, Tryz.ntmps32
  go_wp2_with fail
  go_step3
  go_wp2_with fail
  refine HC.out.mono ?_
  rintro e w1 ⟨rfl, k1⟩
  have h1 := h.keep k1
  clear h HC
  go_wp2_with fail
  obtain ⟨F, hF⟩ : ∃ F, f / 5 = F := ⟨_, rfl⟩
  obtain ⟨L, hL⟩ : ∃ L, (f + n - 1) / 5 = L := ⟨_, rfl⟩
  have eF : (f : Int) / 5 = (F : Int) := by omega
  have eL : ((f : Int) + n - 1) / 5 = (L : Int) := by omega
  rw [hF] at hx
  simp only [eF, eL]
  have hFL : F ≤ L ∧ L ≤ 257 ∧ 5 * F ≤ f ∧ f + n ≤ 5 * (L + 1) := by omega
  have HF := Lib.hid hF
  have HX := Lib.hid hFL
  clear eF eL hF hL hFL c1 c2 c3 c4 c5 hw
  have hb1 : base ≤ w1.heap.size := by have := heap_lt h1.tx; have := h1.high.1; obtain ⟨s, m0, xs, q, _, _⟩ := h1.vz.vw; have := heap_lt q; omega
  go_step3
  go_wp2_with fail
  go_loopw [13, 14, 15, 16, 17, 18, 19] (fun v i _ _ _ _ _ wr => ∃ j : Nat, i = .int .i64 ((F + j : Nat) : Int) ∧ F + j ≤ L + 1 ∧ Ow base w1 wr ∧ wr.ownsRow w1.heap.size 42 1 v (5 * j) (flCells (zeroF (5 * j))) ∧ ∃ ls, Sz wr base d (m + j) ls ∧ X2 ls F j) (fun _ i _ _ _ _ _ _ => L + 1 - (intOf i).toNat)
  case atStart => exact ⟨0, rfl, by have := HX.out; omega, Ow.refl _ _, World.ownsRow_nil _ _ _ _, l, h1, hx.x2⟩
  case round =>
    obtain ⟨j, rfl, hj, kr, hor, ls, hzr, hx2⟩ := hrel
    rcases Nat.lt_or_ge (F + j) (L + 1) with hlt | hge
    · have hlt' : ((F + j : Nat) : Int) ≤ L := by omega
      go_wp2_with fail
      obtain ⟨s, hs, hs1, hs2, hs3⟩ : ∃ s : Nat, min 16 (wrap64 (wrap64 ((L : Int) - (F + j)) + 1)) = (s : Int) ∧ 1 ≤ s ∧ s ≤ 16 ∧ F + j + s ≤ L + 1 := by
        refine ⟨min 16 (L + 1 - F - j), ?_, by omega, by omega, by omega⟩
        have := HX.out
        unfold wrap64
        omega
      simp only [hs]
      refine (sread_many wr (n := s) hzr (hx2.ext (by omega)) (by have := HX.out; omega) (by omega) hs1 hs2 (by have := HX.out; omega)).mono ?_
      rintro e w2 ⟨g, c', rfl, hc', k2, hg, hB, hT, h2⟩
      have hx3 := hx2.add (s := s) (by omega) (by omega) (by omega) (by have := HX.out; omega)
      have kr2 := kr.trans k2
      have ho2 := ownsRow_ow hor k2
      have hsz2 := kr2.size
      have HS := Lib.hid hs
      clear hzr hx2 kr k2 hor hs hg
      generalize addSp ls (F + j) s = ls2 at *
      go_wp2_with fail
      go_loopw [13, 16, 18, 19] (fun v b _ _ wx => ∃ (i : Nat) (pa : Option Addr), i ≤ s ∧ b = .slice pa (40 * (s - i)) (c' - 40 * i) ∧ (i < s → pa = some ⟨g, 40 * i, none⟩) ∧ Ow base w1 wx ∧ wx.ownsRow w1.heap.size 42 1 v (5 * (j + i)) (flCells (zeroF (5 * (j + i)))) ∧ Sz wx base d (m + j + s) ls2 ∧ Bs wx (some ⟨g, 0, none⟩) (List.replicate (40 * s) 0) ∧ Bt wx g) (fun _ b _ _ _ => lenV b)
      case atStart => exact ⟨0, _, by omega, rfl, fun _ => rfl, kr2, ho2, h2, hB, hT⟩
      case round =>
        obtain ⟨i, pa, hi, rfl, hpa, kx, hox, hzx, hBx, hTx⟩ := hrel
        rcases Nat.lt_or_ge i s with hl | hl
        · obtain rfl := hpa hl
          have hpos : 0 < 40 * (s - i) := by omega
          go_wp2_with fail
          refine (unpack_forty wr (l := zeroB) (c := c' - 40 * i) rfl (by omega) (hBx.part hl)).mono ?_
          rintro e w4 hu
          rcases hu with ⟨v5, xs5, hu5, rfl, k4, o5⟩ | ⟨hu5, _⟩
          rotate_left
          · rw [unpack_zero] at hu5; cases hu5
          obtain rfl : [0, 0, 0, 0, 0] = xs5 := by rw [unpack_zero] at hu5; exact Option.some.inj hu5
          clear hu5
          obtain ⟨g5, c5, rfl, hF5⟩ := fl_own o5 (by decide)
          have kx4 := kx.then k4
          have hz4 := hzx.keep k4
          have hB4 := hBx.chg k4
          have hT4 : Bt w4 g := ⟨_, k4.heap hTx.choose_spec (by simp)⟩
          have ho4 := ownsRow_chg hox k4
          have hb4 := kx4.size
          have HFl := Lib.hid hF5
          clear kx hzx hBx hTx hox hF5 o5
          go_wp2_with (at_builtin; refine wpList_append_fl rfl (.tmp 84) (.tmp 85) rfl w1.heap.size _ (5 * (j + i)) (zeroF (5 * (j + i))) [0, 0, 0, 0, 0] rfl ho4 g5 0 5 c5 rfl rfl (by decide) HFl.out (by have := HX.out; omega) hb4 ?_; intro g9 cap9 w9 h9 k9)
          have hgn := own_block_ne ho4 hT4.choose_spec (by decide)
          have HB9 := Lib.hid (hB4.chgT k9 hgn)
          have HT9 := Lib.hid (show Bt w9 g from ⟨_, k9.heap hT4.choose_spec hgn⟩)
          have HZ9 := Lib.hid (hz4.keepF ho4 hb1 k9)
          have HK9 := Lib.hid (kx4.then_new k9 (own_low ho4))
          have h9' : w9.ownsRow w1.heap.size 42 1 (.slice (some ⟨g9, 0, none⟩) (5 * (j + i) + 5) cap9) (5 * (j + (i + 1))) (flCells (zeroF (5 * (j + (i + 1))))) := by
            have e1 : 5 * (j + (i + 1)) = 5 * (j + i) + 5 := by omega
            have e2 : zeroF (5 * (j + (i + 1))) = zeroF (5 * (j + i)) ++ [0, 0, 0, 0, 0] := by rw [e1]; unfold zeroF; rw [← List.replicate_append_replicate]; rfl
            rw [e2, e1]; exact h9
          clear hB4 hT4 hz4 ho4 h9 k9 k4 HFl
          go_roundw
          case rel => exact ⟨i + 1, _, by omega, by congr 1 <;> omega, fun h => by rw [if_neg (by omega)]; congr 2, HK9.out, h9', HZ9.out, HB9.out, HT9.out⟩
          case measure => simp [lenV]; omega
        · obtain rfl : i = s := by omega
          have hz0 : 40 * (i - i) = 0 := by omega
          have hnz : ¬ ((0 : Int) < ((40 * (i - i) : Nat) : Int)) := by omega
          have HA := Lib.hid (show F + (j + i) ≤ L + 1 by omega)
          have HR := Lib.hid (show Value.int IntKind.i64 (wrap64 ((F : Int) + j + i)) = Value.int IntKind.i64 ((F : Int) + ((j + i : Nat) : Int)) from congrArg _ (by have := HX.out; unfold wrap64; omega))
          have HZ := Lib.hid (show Sz wr base d (m + (j + i)) ls2 by rw [← Nat.add_assoc]; exact hzx)
          have HX3 := Lib.hid (show X2 ls2 F ((j + i : Nat) : Int) by simpa using hx3)
          have HM := Lib.hid (meas_lt hs1 hs3 HX.out.2.1)
          go_wp2_with fail
          go_roundw
          case rel => exact ⟨_, _, _, _, ⟨j + i, rfl, HA.out, hox, ls2, HZ.out, HX3.out⟩, rfl, rfl, rfl, HR.out⟩
          case measure => exact HM.out
    · have hnl : ¬ ((F + j : Nat) : Int) ≤ L := by omega
      obtain ⟨gv, cv, rfl, hFv⟩ := fl_own hor (by have := HX.out; omega)
      have hle : 5 * j ≤ cv := by obtain ⟨_, _, e, h9⟩ := own_form hor; cases e; exact h9
      have e1 : IntKind.i64.wrap ((F : Int) * 5) = ((5 * F : Nat) : Int) := by rw [IntKind.wrap_i64]; have := HX.out; omega
      have e2 : IntKind.i64.wrap ((f : Int) - ((5 * F : Nat) : Int)) = ((f - 5 * F : Nat) : Int) := by rw [IntKind.wrap_i64]; have := HX.out; omega
      have e3 : IntKind.i64.wrap (((f - 5 * F : Nat) : Int) + n) = ((f - 5 * F + n : Nat) : Int) := by rw [IntKind.wrap_i64]; have := HX.out; omega
      have e4 : f - 5 * F + n ≤ 5 * j := by have := HX.out; omega
      have e5 : 5 * F ≤ f := by have := HX.out; omega
      have HE := Lib.hid (fin_fl (o := f - 5 * F) (n := n) hFv e4)
      have HK := Lib.hid ((Ow.of_chg (base := base) k1).trans kr)
      have HXX := Lib.hid (show Ext ls ((f / 5 : Nat) : Int) 0 by rw [HF.out]; exact hx2.ext0)
      have HM := Lib.hid (show m + j ≤ m + 258 by have := HX.out; omega)
      have HC := Lib.hid (show n ≤ cv - (f - 5 * F) by omega)
      go_wp2_with fail
      go_ret2
      exact ⟨gv, f - 5 * F, cv - (f - 5 * F), m + j, ls, rfl, HC.out, HK.out, HE.out, hzr, HXX.out, HM.out⟩
end Go.Proofs.YtfodeeejolkkfaaGreat
namespace Go.Proofs.YtfodeeejolkkfaaGreat
open Go.RowKit Go.Lib

set_option maxRecDepth 100000 in
theorem rmay_min (w : World) : Calls Tryz.prog 152 #[.agg #[.int .i64 8, .int .i64 96]] w fun e w' => e = .returned (.bool true) ∧ Chg [] w w' := by
  go_enter Tryz.func152, Tryz.ntmps152
  go_wp2_with fail
  go_ret
  exact ⟨rfl, Chg.alloc _ _⟩
set_option maxRecDepth 100000 in
theorem rsplit_min (w : World) : Calls Tryz.prog 91 #[.agg #[.int .i64 8, .int .i64 96]] w fun e w' => e = .returned (.tuple #[.agg #[.int .i64 0, .int .i64 3, .int .i64 6, .int .i64 7], .int .i64 0]) ∧ Chg [] w w' := by
  go_enter Tryz.func91, Tryz.ntmps91
  go_wp2_with fail
  obtain ⟨g0, g1⟩ := two_new w (.cells #[.int .i64 8, .int .i64 96] 80) (.cells #[.int .i64 0, .int .i64 0, .int .i64 0, .int .i64 0] 164)
  have hc := chg_two w (.cells #[.int .i64 8, .int .i64 96] 80) (.cells #[.int .i64 0, .int .i64 0, .int .i64 0, .int .i64 0] 164)
  generalize (w.alloc (.cells #[.int .i64 8, .int .i64 96] 80)).alloc (.cells #[.int .i64 0, .int .i64 0, .int .i64 0, .int .i64 0] 164) = w1 at *
  refine (rmay_min w1).mono ?_
  rintro e w2 ⟨rfl, hc2⟩
  have k0 := hc2.heap g0 (by simp)
  have k1 := hc2.heap g1 (by simp)
  have hc3 := hc.then hc2
  have a0 : w2.cell? ⟨w.heap.size, 0, none⟩ = some (.int .i64 8) := cell_is k0 0 rfl
  have a1 : w2.cell? ⟨w.heap.size, 1, none⟩ = some (.int .i64 96) := cell_is k0 1 rfl
  clear g0 g1 k0 hc hc2
  have b0 := unfrozen k1 0
  have b1 := unfrozen k1 1
  have b2 := unfrozen k1 2
  have b3 := unfrozen k1 3
  have c0 := cell_is k1 0 rfl
  have c1 := cell_is k1 1 rfl
  have c2 := cell_is k1 2 rfl
  have c3 := cell_is k1 3 rfl
  go_wp2_with fail
  refine bodyPost_ret (v := .tuple #[.agg #[.int .i64 0, .int .i64 3, .int .i64 6, .int .i64 7], .int .i64 0]) (by simp [results, Tryz.results91, go_sem, c0, c1, c2, c3]) rfl ?_
  exact ⟨rfl, (((hc3.new_set (by omega) _ _).new_set (by omega) _ _).new_set (by omega) _ _).new_set (by omega) _ _⟩
set_option maxRecDepth 100000 in
theorem rcap_min (w : World) : Calls Tryz.prog 44 #[.agg #[.int .i64 8, .int .i64 96]] w fun e w' => e = .returned (.int .i64 258) ∧ Chg [] w w' := by
  go_enter Tryz.func44, Tryz.ntmps44
  go_wp2_with fail
  have g0 := heap_new w (.cells #[.int .i64 8, .int .i64 96] 80)
  have hc : Chg [] w (w.alloc (.cells #[.int .i64 8, .int .i64 96] 80)) := Chg.alloc _ _
  generalize w.alloc (.cells #[.int .i64 8, .int .i64 96] 80) = w1 at *
  refine (rsplit_min w1).mono ?_
  rintro e w2 ⟨rfl, hc2⟩
  have k0 := hc2.heap g0 (by simp)
  have hc3 := hc.then hc2
  have a1a : ∀ o, (w2.alloc o).cell? ⟨w.heap.size, 1, none⟩ = some (.int .i64 96) := fun o => cell_is (heap_old k0) 1 rfl
  clear g0 k0 hc hc2
  go_wp2_with fail
  go_ret
  exact ⟨rfl, hc3.then_alloc _⟩
set_option maxRecDepth 100000 in
theorem rmap_new (w : World) : Calls Tryz.prog 90 #[.int .i64 258] w fun e w' => ∃ Y, e = .returned (.tuple #[.pointer (some ⟨Y, 0, none⟩), .int .i64 0]) ∧ Chg [] w w' ∧ w.heap.size ≤ Y := by
  go_enter Tryz.func90, Tryz.ntmps90
  go_wp2_with fail
  go_ret2
  exact ⟨_, rfl, Chg.alloc _ _, Nat.le_refl _⟩
/-- block G is a reference's manager that has begun n times. -/
def RmAt (w : World) (G Y : Nat) (a b c : Value) (n : Int) : Prop :=
  w.heap[G]? = some (.cells #[.pointer (some ⟨Y, 0, none⟩), .int .i64 16, a, b, .int .i64 n, c, .slice none 0 0, .slice none 0 0, .int .i64 0, .int .i64 0, .int .i64 0, .int .i64 0, .bool false, .int .i64 258, .int .i64 0] 163 (0, 0))
set_option maxRecDepth 100000 in
theorem rm_new (w : World) : Calls Tryz.prog 43 #[.int .i64 258, .int .i64 0] w fun e w' => ∃ G Y, e = .returned (.tuple #[.pointer (some ⟨G, 0, none⟩), .int .i64 0]) ∧ Chg [] w w' ∧ RmAt w' G Y (.slice none 0 0) (.slice none 0 0) (.slice none 0 0) 0 ∧ w.heap.size ≤ G := by
  go_enter Tryz.func43, Tryz.ntmps43
  go_wp2_with fail
  refine (rmap_new w).mono ?_
  rintro e w1 ⟨Y, rfl, k1, hY⟩
  go_wp2_with fail
  go_ret2
  exact ⟨_, Y, rfl, k1.then_alloc _, heap_new w1 _, k1.size⟩
set_option maxRecDepth 100000 in
theorem rbuf_new (w : World) : Calls Tryz.prog 121 #[.int .i64 258, .int .i64 16] w fun e w' => ∃ Y, e = .returned (.tuple #[.pointer (some ⟨Y, 0, none⟩), .int .i64 0]) ∧ Chg [] w w' ∧ w.heap.size ≤ Y := by
  go_enter Tryz.func121, Tryz.ntmps121
  go_wp2_with fail
  go_ret2
  exact ⟨_, rfl, Chg.alloc _ _, Nat.le_refl _⟩
set_option maxRecDepth 100000 in
theorem rview_new (w : World) (X B : Nat) : Calls Tryz.prog 122 #[.pointer (some ⟨X, 0, none⟩), .pointer (some ⟨B, 0, none⟩), .int .i64 0] w fun e w' => ∃ Y, e = .returned (.pointer (some ⟨Y, 0, none⟩)) ∧ Chg [] w w' ∧ w.heap.size ≤ Y := by
  go_enter Tryz.func122, Tryz.ntmps122
  go_wp2_with fail
  go_ret
  exact ⟨_, rfl, Chg.alloc _ _, Nat.le_refl _⟩
end Go.Proofs.YtfodeeejolkkfaaGreat
namespace Go.Proofs.YtfodeeejolkkfaaGreat
open Go.RowKit Go.Lib

theorem step_append_run {P : Program} {ops : Array Oper} {o : Oper} {a : Act} {w : World} {K : Act → World → Prop} {Q : Exit → Act → World → Prop} {E : Prop} (hgd : o.guard = none) (s x : Operand) (t t' : TypeId)
    (ho : o.op = .call { callee := .builtin .append, args := #[s, x], argTypes := #[t, t'] }) (v y : Value) (hs : a.eval s = v) (hx : a.eval x = y) (v' : Value) (w' : World) (hr : (Builtin.append_ #[t, t'] o.type #[v, y]).run P w = .ok v' w') (h : K (a.put o.dst v') w') :
    if Region.wanted o (yielded ops a.tmps) = true then Oper.wp P o a w K Q else E := by
  have hw : Region.wanted o (yielded ops a.tmps) = true := by simp [Region.wanted, hgd]
  rw [if_pos hw]
  unfold Oper.wp execOp
  simp only [ho, resolve, invoke, builtin, Sem.run_bind, Sem.run_pure, Result.andThen_ok, List.map_toArray, List.map_cons, List.map_nil, hs, hx, hr]
  exact h
theorem ty62 : Tryz.prog.underlying 62 = some (.slice 3) := by kernel_rfl
theorem inf3 : (Tryz.prog.info? 3).map (fun i => (i.zero, i.size, i.bytes)) = some (some (.int .i64 0), 1, 8) := by kernel_rfl
theorem ty161 : Tryz.prog.underlying 161 = some (.slice 206) := by kernel_rfl
theorem inf206 : (Tryz.prog.info? 206).map (fun i => (i.zero, i.size, i.bytes)) = some (some (.pointer none), 1, 8) := by kernel_rfl
/-- nothing is put behind an empty row of ints. -/
theorem append_none (w : World) (z : Nat) (ty : TypeId) : (Builtin.append_ #[62, 62] ty #[.slice (some ⟨z, 0, none⟩) 0 0, .slice none 0 0]).run Tryz.prog w = .ok (.slice (some ⟨z, 0, none⟩) 0 0) w := by
  obtain ⟨i, hi0, hz, hz1, hz2⟩ := info_parts inf3
  simp [Builtin.append_, run_underlying ty62, sizeOf, typeInfo, hi0, Builtin.lenOf, Builtin.firstCells, storeCells]
theorem own0 (w : World) (z : Nat) (hz : w.heap[z]? = some (.cells #[] 3 (0, 0))) : w.ownsRow 0 3 1 (.slice (some ⟨z, 0, none⟩) 0 0) 0 [] :=
  ⟨rfl, Or.inr ⟨z, 0, #[], rfl, Nat.zero_le _, hz, Nat.le_refl _, by unfold maxLen; omega, rfl, rfl⟩⟩
/-- an int is put behind an empty row of ints. -/
theorem step_append_int {ops : Array Oper} {o : Oper} {a : Act} {w : World} {K : Act → World → Prop} {Q : Exit → Act → World → Prop} {E : Prop} (hgd : o.guard = none) (s x : Operand)
    (ho : o.op = .call { callee := .builtin .append, args := #[s, x], argTypes := #[62, 62] }) (z b c : Nat) (k : Int) (hs : a.eval s = .slice (some ⟨z, 0, none⟩) 0 0) (hz : w.heap[z]? = some (.cells #[] 3 (0, 0)))
    (hx : a.eval x = .slice (some ⟨b, 0, none⟩) 1 c) (hb : w.cell? ⟨b, 0, none⟩ = some (.int .i64 k))
    (h : ∀ g cap w', Chg [z] w w' → K (a.put o.dst (.slice (some ⟨g, 0, none⟩) 1 cap)) w') :
    if Region.wanted o (yielded ops a.tmps) = true then Oper.wp Tryz.prog o a w K Q else E := by
  obtain ⟨i, hi0, hz0, hz1, hz2⟩ := info_parts inf3
  refine step_append_lies w hgd s x 62 ho 0 3 i _ 1 8 ty62 hi0 hz0 hz1 hz2 rfl (by decide) _ 0 [] hs (own0 w z hz) ⟨b, 0, none⟩ 1 c [.int .i64 k] hx rfl ?_ ?_ (by decide) (by unfold maxLen; omega) (by omega) (Nat.zero_le _) _ rfl ?_
  · intro j u hu
    rw [add_lit, Nat.zero_add]
    match j with
    | 0 => cases hu; exact hb
    | j + 1 => simp at hu
  · intro u hu
    simp at hu
    subst hu
    rfl
  · intro g cap w' _ h3 _ _
    exact h g cap w' (Chg.of_grown h3)
theorem wpList_append_int {ops : Array Oper} {rest : List Oper} {o : Oper} {a : Act} {w : World} {Q : Exit → Act → World → Prop} (hgd : o.guard = none) (s x : Operand)
    (ho : o.op = .call { callee := .builtin .append, args := #[s, x], argTypes := #[62, 62] }) (z b c : Nat) (k : Int) (hs : a.eval s = .slice (some ⟨z, 0, none⟩) 0 0) (hz : w.heap[z]? = some (.cells #[] 3 (0, 0)))
    (hx : a.eval x = .slice (some ⟨b, 0, none⟩) 1 c) (hb : w.cell? ⟨b, 0, none⟩ = some (.int .i64 k))
    (h : ∀ g cap w', Chg [z] w w' → wpList Tryz.prog ops Q rest (a.put o.dst (.slice (some ⟨g, 0, none⟩) 1 cap)) w') : wpList Tryz.prog ops Q (o :: rest) a w := by
  obtain ⟨i, hi0, hz0, hz1, hz2⟩ := info_parts inf3
  refine wpList_append_lies w hgd s x 62 ho 0 3 i _ 1 8 ty62 hi0 hz0 hz1 hz2 rfl (by decide) _ 0 [] hs (own0 w z hz) ⟨b, 0, none⟩ 1 c [.int .i64 k] hx rfl ?_ ?_ (by decide) (by unfold maxLen; omega) (by omega) (Nat.zero_le _) _ rfl ?_
  · intro j u hu
    rw [add_lit, Nat.zero_add]
    match j with
    | 0 => cases hu; exact hb
    | j + 1 => simp at hu
  · intro u hu
    simp at hu
    subst hu
    rfl
  · intro g cap w' _ h3 _ _
    exact h g cap w' (Chg.of_grown h3)
set_option maxRecDepth 100000 in
set_option maxHeartbeats 4000000 in
theorem rbook_open (w : World) {G Y : Nat} (h : RmAt w G Y (.slice none 0 0) (.slice none 0 0) (.slice none 0 0) 0) : Calls Tryz.prog 120 #[.pointer (some ⟨G, 1, none⟩), .int .i64 0] w fun e w' =>
    ∃ a b, e = .returned (.tuple #[.int .i64 1, .int .i64 0]) ∧ Chg [G] w w' ∧ RmAt w' G Y a b (.slice none 0 0) 1 := by
  have c1 : w.cell? ⟨G, 1, none⟩ = some (.int .i64 16) := cell_is h 1 rfl
  have c2 : w.cell? ⟨G, 2, none⟩ = some (.slice none 0 0) := cell_is h 2 rfl
  have c3 : w.cell? ⟨G, 3, none⟩ = some (.slice none 0 0) := cell_is h 3 rfl
  have c4 : w.cell? ⟨G, 4, none⟩ = some (.int .i64 0) := cell_is h 4 rfl
  have f4 := unfrozen h 4
  go_enter Tryz.func120, Tryz.ntmps120
  go_wp2_with fail
  go_quiet (fail)
  go_upto_region 6 with fail
  have h1 : RmAt ((w.drewN nq).setCell ⟨G, 4, none⟩ (.int .i64 1)) G Y (.slice none 0 0) (.slice none 0 0) (.slice none 0 0) 1 := heap_set (show (w.drewN nq).heap[G]? = _ from h) 4 _ rfl
  have k1 : Chg [G] w ((w.drewN nq).setCell ⟨G, 4, none⟩ (.int .i64 1)) := ((Chg.refl [G] w).drewN nq).then (Chg.set _ G 4 _)
  generalize (w.drewN nq).setCell ⟨G, 4, none⟩ (.int .i64 1) = w1 at *
  clear c1 c2 c3 c4 f4
  have hG := heap_lt h1
  have e2 : w1.cell? ⟨G, 2, none⟩ = some (.slice none 0 0) := cell_is h1 2 rfl
  have e4 : w1.cell? ⟨G, 4, none⟩ = some (.int .i64 1) := cell_is h1 4 rfl
  have e2d : w1.drew.cell? ⟨G, 2, none⟩ = some (.slice none 0 0) := e2
  have e4d : w1.drew.cell? ⟨G, 4, none⟩ = some (.int .i64 1) := e4
  have e2a : ∀ o, (w1.alloc o).cell? ⟨G, 2, none⟩ = some (.slice none 0 0) := fun o => cell_is (heap_old h1) 2 rfl
  have e4a : ∀ o, (w1.alloc o).cell? ⟨G, 4, none⟩ = some (.int .i64 1) := fun o => cell_is (heap_old h1) 4 rfl
  have e2b : ∀ o p, ((w1.alloc o).alloc p).cell? ⟨G, 2, none⟩ = some (.slice none 0 0) := fun o p => cell_is (heap_old (heap_old h1)) 2 rfl
  have e4b : ∀ o p, ((w1.alloc o).alloc p).cell? ⟨G, 4, none⟩ = some (.int .i64 1) := fun o p => cell_is (heap_old (heap_old h1)) 4 rfl
  obtain ⟨zA, bA⟩ := two_new w1 (.cells #[] 3) (.cells #[.int .i64 1] 3)
  obtain ⟨bB, zB⟩ := two_new w1 (.cells #[.int .i64 1] 3) (.cells #[] 3)
  have rA : RmAt ((w1.alloc (.cells #[] 3)).alloc (.cells #[.int .i64 1] 3)) G Y (.slice none 0 0) (.slice none 0 0) (.slice none 0 0) 1 := heap_old (heap_old h1)
  have rB : RmAt ((w1.alloc (.cells #[.int .i64 1] 3)).alloc (.cells #[] 3)) G Y (.slice none 0 0) (.slice none 0 0) (.slice none 0 0) 1 := heap_old (heap_old h1)
  have kA := (Chg.refl [G] w1).drew.then_alloc (.cells #[] 3) |>.then_alloc (.cells #[.int .i64 1] 3)
  have kB := (Chg.refl [G] w1).drew.then_alloc (.cells #[.int .i64 1] 3) |>.then_alloc (.cells #[] 3)
  have nA : G ∉ [w1.heap.size] := by simp; omega
  have nB : G ∉ [w1.heap.size + 1] := by simp; omega
  go_cut [5] from 29 (fun e wx => e = .int .i64 0 ∧ ∃ a, RmAt wx G Y a (.slice none 0 0) (.slice none 0 0) 1 ∧ Chg [G] w wx)
  case first =>
    go_region_law
      (first
        | (refine step_append_run rfl (.tmp 30) (.tmp 34) 62 62 rfl _ _ rfl rfl _ _ (append_none _ _ _) ?_)
        | (refine step_append_int rfl (.tmp 35) (.tmp 40) rfl w1.heap.size (w1.heap.size + 1) 1 1 rfl zA rfl (cell_is bA 0 rfl) ?_; intro g5 cp5 w5 k5; have r5 := k5.heap rA nA; have c5 := cell_is r5 2 rfl; have f5 := unfrozen r5 2; have k6 : Chg [G] w1 w5 := kA.trans k5 (by intro x hx hlt; rw [List.mem_singleton] at hx; omega))
        | (refine step_append_int rfl (.tmp 35) (.tmp 40) rfl (w1.heap.size + 1) w1.heap.size 1 1 rfl zB rfl (cell_is bB 0 rfl) ?_; intro g5 cp5 w5 k5; have r5 := k5.heap rB nB; have c5 := cell_is r5 2 rfl; have f5 := unfrozen r5 2; have k6 : Chg [G] w1 w5 := kB.trans k5 (by intro x hx hlt; rw [List.mem_singleton] at hx; omega)))
    all_goals
      have r6 : RmAt (w5.setCell ⟨G, 2, none⟩ (.slice (some ⟨g5, 0, none⟩) 1 cp5)) G Y (.slice (some ⟨g5, 0, none⟩) 1 cp5) (.slice none 0 0) (.slice none 0 0) 1 := heap_set r5 2 _ rfl
      have k7 := (k1.then k6).then (Chg.set w5 G 2 (.slice (some ⟨g5, 0, none⟩) 1 cp5))
      clear k6 r5 c5 f5
      go_wp2_with fail
      go_meet
      exact ⟨rfl, _, r6, k7⟩
  case rest =>
    obtain ⟨rfl, a, h7, k7⟩ := hcut
    clear k1 h1 e2 e4 e2d e4d e2a e4a e2b e4b zA bA zB bB rA rB kA kB nA nB hG h
    have hG := heap_lt h7
    have c3 : wc.cell? ⟨G, 3, none⟩ = some (.slice none 0 0) := cell_is h7 3 rfl
    have c3a : ∀ o, (wc.alloc o).cell? ⟨G, 3, none⟩ = some (.slice none 0 0) := fun o => cell_is (heap_old h7) 3 rfl
    have c4 : wc.cell? ⟨G, 4, none⟩ = some (.int .i64 1) := cell_is h7 4 rfl
    obtain ⟨zA, bA⟩ := two_new wc (.cells #[] 3) (.cells #[.int .i64 0] 3)
    have rA : RmAt ((wc.alloc (.cells #[] 3)).alloc (.cells #[.int .i64 0] 3)) G Y a (.slice none 0 0) (.slice none 0 0) 1 := heap_old (heap_old h7)
    have kA := (Chg.refl [G] wc).then_alloc (.cells #[] 3) |>.then_alloc (.cells #[.int .i64 0] 3)
    have nA : G ∉ [wc.heap.size] := by simp; omega
    have HF := Lib.hid (fun (g5 cp5 : Nat) (w5 : World) (k5 : Chg [wc.heap.size] ((wc.alloc (.cells #[] 3)).alloc (.cells #[.int .i64 0] 3)) w5) =>
      (show RmAt (w5.setCell ⟨G, 3, none⟩ (.slice (some ⟨g5, 0, none⟩) 1 cp5)) G Y a (.slice (some ⟨g5, 0, none⟩) 1 cp5) (.slice none 0 0) 1 ∧ Chg [G] w (w5.setCell ⟨G, 3, none⟩ (.slice (some ⟨g5, 0, none⟩) 1 cp5)) from
        ⟨heap_set (k5.heap rA nA) 3 _ rfl, (k7.then (kA.trans k5 (by intro x hx hlt; rw [List.mem_singleton] at hx; omega))).then (Chg.set w5 G 3 _)⟩))
    go_wp2_with (at_builtin; first
      | (refine Lib.wpList_append_run _ rfl (.tmp 45) (.tmp 49) 62 62 rfl _ _ rfl rfl _ _ (append_none _ _ _) ?_)
      | (refine wpList_append_int rfl (.tmp 50) (.tmp 52) rfl wc.heap.size (wc.heap.size + 1) 1 0 rfl zA rfl (cell_is bA 0 rfl) ?_; intro g5 cp5 w5 k5; have r5 := k5.heap rA nA; have c5 := cell_is r5 3 rfl; have f5 := unfrozen r5 3; have c6 : (w5.setCell ⟨G, 3, none⟩ (.slice (some ⟨g5, 0, none⟩) 1 cp5)).cell? ⟨G, 4, none⟩ = some (.int .i64 1) := cell_is (heap_set r5 3 _ rfl) 4 rfl))
    go_ret2
    have hf := HF.out g5 cp5 w5 k5
    exact ⟨_, _, rfl, hf.2, hf.1⟩
end Go.Proofs.YtfodeeejolkkfaaGreat
namespace Go.Proofs.YtfodeeejolkkfaaGreat
open Go.RowKit Go.Lib

/-- a pointer is put behind nothing. -/
theorem step_append_ptr {ops : Array Oper} {o : Oper} {a : Act} {w : World} {K : Act → World → Prop} {Q : Exit → Act → World → Prop} {E : Prop} (hgd : o.guard = none) (s x : Operand)
    (ho : o.op = .call { callee := .builtin .append, args := #[s, x], argTypes := #[161, 161] }) (b c : Nat) (k : Value) (hs : a.eval s = .slice none 0 0)
    (hx : a.eval x = .slice (some ⟨b, 0, none⟩) 1 c) (hb : w.cell? ⟨b, 0, none⟩ = some k) (hk : k.oneCell' = true)
    (h : ∀ g cap w', Chg [] w w' → K (a.put o.dst (.slice (some ⟨g, 0, none⟩) 1 cap)) w') :
    if Region.wanted o (yielded ops a.tmps) = true then Oper.wp Tryz.prog o a w K Q else E := by
  obtain ⟨i, hi0, hz0, hz1, hz2⟩ := info_parts inf206
  refine step_append_lies w hgd s x 161 ho 0 206 i _ 1 8 ty161 hi0 hz0 hz1 hz2 rfl (by decide) _ 0 [] hs (World.ownsRow_nil _ _ _ _) ⟨b, 0, none⟩ 1 c [k] hx rfl ?_ ?_ (by decide) (by unfold maxLen; omega) (by omega) (Nat.zero_le _) _ rfl ?_
  · intro j u hu
    rw [add_lit, Nat.zero_add]
    match j with
    | 0 => cases hu; exact hb
    | j + 1 => simp at hu
  · intro u hu
    simp at hu
    subst hu
    exact hk
  · intro g cap w' _ h3 _ _
    exact h g cap w' (Chg.of_grown0 h3)
set_option maxRecDepth 100000 in
set_option maxHeartbeats 8000000 in
theorem rbegin_one (w : World) {G Y : Nat} (h : RmAt w G Y (.slice none 0 0) (.slice none 0 0) (.slice none 0 0) 0) : Calls Tryz.prog 64 #[.pointer (some ⟨G, 0, none⟩)] w fun e w' =>
    e = .returned (.tuple #[.int .i64 1, .int .i64 0]) ∧ Chg [G] w w' := by
  have c11 : w.cell? ⟨G, 11, none⟩ = some (.int .i64 0) := cell_is h 11 rfl
  go_enter Tryz.func64, Tryz.ntmps64
  go_wp2_with fail
  go_region_held3 (fun wx => wx.cell? ⟨G, 11, none⟩ = some (.int .i64 0)) (first | (exact c11) | (exact cell_is h2 11 rfl))
    (first | (go_at_call 120; refine (rbook_open w.drew (G := G) (Y := Y) h).mono ?_; rintro e w2 ⟨a, b, rfl, k2, h2⟩))
  have k2' := (Chg.refl [G] w).drew.then k2
  clear c11 k2 h
  have c13 : w2.cell? ⟨G, 13, none⟩ = some (.int .i64 258) := cell_is h2 13 rfl
  go_wp2_with fail
  refine (rbuf_new w2).mono ?_
  rintro e w3 ⟨U, rfl, k3, -⟩
  have h3 : RmAt w3 G Y a b (.slice none 0 0) 1 := k3.heap h2 (by simp)
  have k3' := k2'.then (k3.mono (T := [G]) (fun x hx _ => by cases hx))
  clear c13 h2 k2' k3
  go_wp2_with fail
  have e5 : w3.cell? ⟨G, 5, none⟩ = some (.slice none 0 0) := cell_is h3 5 rfl
  have e0 : w3.cell? ⟨G, 0, none⟩ = some (.pointer (some ⟨Y, 0, none⟩)) := cell_is h3 0 rfl
  have e11 : w3.cell? ⟨G, 11, none⟩ = some (.int .i64 0) := cell_is h3 11 rfl
  have e5d : w3.drew.cell? ⟨G, 5, none⟩ = some (.slice none 0 0) := e5
  have e0d : w3.drew.cell? ⟨G, 0, none⟩ = some (.pointer (some ⟨Y, 0, none⟩)) := e0
  have e11d : w3.drew.cell? ⟨G, 11, none⟩ = some (.int .i64 0) := e11
  go_region_law
    (first
      | (go_simp; go_at_call 122; refine (rview_new w3.drew Y U).mono ?_; rintro e w4 ⟨D, rfl, k4, -⟩; have h4 : RmAt w4 G Y a b (.slice none 0 0) 1 := k4.heap h3 (by simp); have g5 := cell_is h4 5 rfl; have g5a : ∀ o, (w4.alloc o).cell? ⟨G, 5, none⟩ = some (.slice none 0 0) := (fun o => cell_is (heap_old h4) 5 rfl); have g5b : ∀ o p, ((w4.alloc o).alloc p).cell? ⟨G, 5, none⟩ = some (.slice none 0 0) := (fun o p => cell_is (heap_old (heap_old h4)) 5 rfl); have x1 := (two_new w4 (.cells #[.int .i64 1, .int .i64 0, .int .i64 0, .pointer (some ⟨D, 0, none⟩), .pointer (some ⟨U, 0, none⟩)] 210) (.cells #[.pointer (some ⟨w4.heap.size, 0, none⟩)] 206)).2; have h6 : RmAt ((w4.alloc (.cells #[.int .i64 1, .int .i64 0, .int .i64 0, .pointer (some ⟨D, 0, none⟩), .pointer (some ⟨U, 0, none⟩)] 210)).alloc (.cells #[.pointer (some ⟨w4.heap.size, 0, none⟩)] 206)) G Y a b (.slice none 0 0) 1 := heap_old (heap_old h4))
      | (refine step_append_ptr rfl (.tmp 34) (.tmp 48) rfl (w4.heap.size + 1) 1 _ rfl rfl (cell_is x1 0 rfl) rfl ?_; intro q5 cp5 w5 k5; have h7 : RmAt w5 G Y a b (.slice none 0 0) 1 := k5.heap h6 (by simp); have c7 := cell_is h7 5 rfl; have f7 := unfrozen h7 5))
  all_goals
    have kf : Chg [G] w (w5.setCell ⟨G, 5, none⟩ (.slice (some ⟨q5, 0, none⟩) 1 cp5)) := ((((k3'.drew.then (k4.mono (T := [G]) (fun x hx _ => by cases hx))).then_alloc _).then_alloc _).then (k5.mono (T := [G]) (fun x hx _ => by cases hx))).then (Chg.set w5 G 5 _)
    clear h4 g5 g5a g5b x1 h6 h7 c7 f7 k4 k5
    go_wp2_with fail
    go_ret2
    exact ⟨rfl, kf⟩
end Go.Proofs.YtfodeeejolkkfaaGreat
namespace Go.Proofs.YtfodeeejolkkfaaGreat
open Go.RowKit Go.Lib

/-- a store with one transaction, whose blocks are these numbers. -/
structure Sn (w : World) (base : Nat) (d : Ids) (f : Int → List Nat) (n k : Nat) : Prop where
  st : St w base d (fun b => packB (f b)) n k
  five : ∀ b, (f b).length = 5 ∧ ∀ x ∈ f b, CanB x
theorem Sn.keep {w w' : World} {base : Nat} {d : Ids} {f : Int → List Nat} {n k : Nat} (h : Sn w base d f n k) (hc : Chg [] w w') : Sn w' base d f n k := ⟨h.st.keep hc, h.five⟩
theorem unpack_can {l : List Nat} (hl : l.length = 5) (h : ∀ x ∈ l, CanB x) : unpackB (packB l) = some l := by
  rw [unpackB_pack hl (fun x hx => (h x hx).1)]
  congr 1
  rw [List.map_congr_left (fun x hx => canB_self (h x hx)), List.map_id']
set_option maxRecDepth 100000 in
set_option maxHeartbeats 1000000 in
theorem block_out (w : World) {base : Nat} {d : Ids} {f : Int → List Nat} {n k : Nat} {i : Int} (h : Sn w base d f n k) (hi : i < 0 ∨ 1290 ≤ i) :
    Calls Tryz.prog 47 #[.pointer (some ⟨d.P, 0, none⟩), .int .i64 1, .int .i64 i] w fun e w' => e = .returned (.tuple #[.slice none 0 0, .int .i64 2]) ∧ Chg [] w w' := by
  obtain ⟨ops, hd⟩ := h.st.sta.dev
  have HC := Lib.hid (ccount_any w h.st.sta.store hd)
  clear h hd
  rcases (show i < 0 ∨ 0 ≤ i by omega) with h0 | h0
  · have n0 : decide (i < 0) = true := decide_eq_true h0
    go_enter Tryz.func47, Tryz.ntmps47
    go_wp2_with fail
    go_ret2
    exact ⟨rfl, Chg.refl _ _⟩
  · have n0 : decide (i < 0) = false := decide_eq_false (by omega)
    have n1 : (1290 : Int) ≤ i := by omega
    go_enter Tryz.func47, Tryz.ntmps47
    go_wp2_with fail
    refine HC.out.mono ?_
    rintro e w1 ⟨rfl, k1⟩
    go_wp2_with fail
    go_ret2
    exact ⟨rfl, k1⟩
set_option maxRecDepth 100000 in
set_option maxHeartbeats 1000000 in
theorem block_in (w : World) {base : Nat} {d : Ids} {f : Int → List Nat} {n k m : Nat} (h : Sn w base d f n k) (hn : n ≤ 11) (hm : m < 1290) :
    Calls Tryz.prog 47 #[.pointer (some ⟨d.P, 0, none⟩), .int .i64 1, .int .i64 m] w fun e w' => ∃ v, e = .returned (.tuple #[v, .int .i64 0]) ∧ Ow base w w' ∧ Sn w' base d f (n + 1) k ∧ w'.ownsRow w.heap.size 42 1 v 5 (flCells (f (m / 5 : Nat))) := by
  obtain ⟨ops, hd⟩ := h.st.sta.dev
  have HC := Lib.hid (ccount_any w h.st.sta.store hd)
  have n0 : decide ((m : Int) < 0) = false := decide_eq_false (by omega)
  have n1 : ¬ (1290 : Int) ≤ m := by omega
  have hq : (m : Int).tdiv 5 = ((m / 5 : Nat) : Int) := rfl
  have h5 := h.five (m / 5 : Nat)
  have hu := unpack_can h5.1 h5.2
  have HU := Lib.hid hu
  have hlen : (packB (f (m / 5 : Nat))).length = 40 := by rw [packB_len, h5.1]
  have HL := Lib.hid hlen
  clear hd h5 hu hlen
  go_enter Tryz.func47, Tryz.ntmps47
  go_wp2_with fail
  refine HC.out.mono ?_
  rintro e w1 ⟨rfl, k1⟩
  have h2 := h.keep k1
  go_wp2_with fail
  refine (sread_one w1 h2.st hn (b := (m / 5 : Nat)) (by omega) (by omega)).mono ?_
  rintro e w2 ⟨g, c', rfl, hc', k2, h3, hg, hB⟩
  have hs := k1.size
  go_wp2_with fail
  refine (unpack_forty w2 HL.out hc' hB).mono ?_
  rintro e w3 (⟨v, xs, hx, rfl, k3, ho⟩ | ⟨hx, -, -⟩)
  · rw [HU.out] at hx
    cases hx
    have hs2 := k2.size
    have hfin : Sn w3 base d f (n + 1) k := ⟨h3.keep k3, h.five⟩
    have how : Ow base w w3 := ((Ow.of_chg k1).trans k2).then k3
    have hof : w3.ownsRow w.heap.size 42 1 v 5 (flCells (f (m / 5 : Nat))) := ownsRow_base ho (by omega)
    clear h h2 h3 k1 k2 k3 ho hB
    go_wp2_with fail
    go_ret2
    exact ⟨v, rfl, how, hfin, hof⟩
  · rw [HU.out] at hx
    cases hx
end Go.Proofs.YtfodeeejolkkfaaGreat
