/- Lemmas and walks: Walks: zdev.Reset; what a Commit says of a text (slot.tail); slot.Room, slot.Dead. The blocks of a slot's text in plain words; rows of frames; what a device's calls change. Walks: slot.write (a text goes into a slot). Walks: slot.Save. Walks: a store's batch of one transaction is flushed. Walks: a device with any count of ops and of reads: its parts, a block is read, it is flushed. Walks: slots of a device whose zones for the slots are empty. Walks: what stands in a log's zones is read. -/
import Derived.Test.YtnelakpdmjfolaaGreatCf
import Derived.Test.YtnelakpdmjfolaaGreatCg
namespace Go.Proofs.YtnelakpdmjfolaaGreat
open Go.RowKit Go.Lib

set_option maxHeartbeats 1000000 in
/-- Reset. -/
theorem dreset_any (w : World) {base N A c : Nat} {ops : Int} {Z : List Nat} {vs : Nat → Value} {gs : Nat → Nat} {zs : Nat → List (List UInt8)} (h : DevG w base N A c ops Z vs gs zs) (h0 : 0 ≤ ops) (h1 : ops ≤ 1000000) (j : Nat) (hj : j < Z.length) :
    Calls Tryz.prog 48 #[.pointer (some ⟨N, 0, none⟩), .int .i64 j] w fun e w' => e = .returned (.int .i64 0) ∧ Chg [N, Z[j]] w w' ∧ DevG w' base N A c (ops + 1) Z (upF vs j (.slice none 0 0)) (upF gs j 0) (upF zs j []) := by
  have HAt := Lib.hid (dat_any w h j hj)
  have HB := Lib.hid (dbegin_any w h h0 h1)
  clear h
  go_enter Tryz.func48, Tryz.ntmps48
  go_wp2_with fail
  refine HAt.out.mono ?_
  rintro e w1 ⟨rfl, rfl⟩
  go_wp2_with fail
  refine HB.out.mono ?_
  rintro e w2 ⟨rfl, hc1, h2⟩
  have hz := h2.zone j hj
  have hfin : ∀ w', w' = (w2.setCell ⟨Z[j], 0, none⟩ (.slice none 0 0)).setCell ⟨Z[j], 1, none⟩ (.int .i64 0) → Chg [N, Z[j]] w w' ∧ DevG w' base N A c (ops + 1) Z (upF vs j (.slice none 0 0)) (upF gs j 0) (upF zs j []) := by
    rintro w' rfl
    have k1 : Chg [Z[j]] w2 (w2.setCell ⟨Z[j], 0, none⟩ (.slice none 0 0)) := Chg.set _ _ _ _
    have d1 := h2.put hj (v' := .slice none 0 0) (l' := []) (w' := w2.setCell ⟨Z[j], 0, none⟩ (.slice none 0 0)) (k1.mono (fun x hx _ => by rw [List.mem_singleton] at hx; simp [hx])) (heap_set hz 0 _ rfl) (RowsAt.nil _ _) (fun g hg => by cases hg)
    exact ⟨(hc1.mono (fun x hx _ => by rw [List.mem_singleton] at hx; simp [hx])).then ((k1.mono (fun x hx _ => by rw [List.mem_singleton] at hx; simp [hx])).then ((Chg.set _ Z[j] 1 _).mono (fun x hx _ => by rw [List.mem_singleton] at hx; simp [hx]))), d1.setGood hj 0⟩
  have q0 := cell_is hz 0 rfl
  have q1 := cell_is hz 1 rfl
  have f0 := unfrozen hz 0
  have f1 := unfrozen hz 1
  have HF := Lib.hid hfin
  clear hfin h2 hc1 hz HB HAt
  generalize hgz : Z[j] = z at *
  have HZ := Lib.hid hgz
  clear hgz
  go_wp2_with fail
  go_ret
  rw [HZ.out]
  exact ⟨rfl, HF.out _ rfl⟩
/-- what a Commit says of a text. -/
def tailB (l : List UInt8) : List UInt8 := leB l.length 4 ++ leB (crcN l) 4
theorem tailB_length (l : List UInt8) : (tailB l).length = 8 := by simp [tailB, leB_length]
set_option maxHeartbeats 1000000 in
theorem tail_any (w : World) {pa : Option Addr} {m c : Nat} {l : List UInt8} (hb : Bs w pa l) (hl : l.length = m) (hm : m ≤ 1000000) : Calls Tryz.prog 106 #[.slice pa m c] w fun e w' => ∃ g c', e = .returned (.slice (some ⟨g, 0, none⟩) 8 c') ∧ Chg [] w w' ∧ w.heap.size ≤ g ∧ Bs w' (some ⟨g, 0, none⟩) (tailB l) ∧ Bt w' g := by
  have n1 : IntKind.u32.wrap (m : Int) = m := by rw [IntKind.wrap_u32]; omega
  have H1 := Lib.hid (put32_any w m (by omega))
  have HL := Lib.hid (And.intro hl hm)
  have HB := Lib.hid hb
  clear hb hl hm
  go_enter Tryz.func106, Tryz.ntmps106
  go_wp2_with fail
  refine H1.out.mono ?_
  rintro e w1 ⟨g1, rfl, k1, b1, s1⟩
  have HC := Lib.hid (crc_of w1 (c := c) (HB.out.chg k1) HL.out.1 HL.out.2)
  have HX := Lib.hid (And.intro k1 (And.intro b1 s1))
  clear k1 b1 s1 H1
  go_wp2_with fail
  refine HC.out.mono ?_
  rintro e w2 ⟨rfl, k2⟩
  have H2 := Lib.hid (put32_any w2 (crcN l) (crcN_lt l))
  have HY := Lib.hid (And.intro (HX.out.1.then k2) (HX.out.2.1.chg k2))
  clear k2 HC HX
  go_wp2_with fail
  refine H2.out.mono ?_
  rintro e w3 ⟨g2, rfl, k3, b3, s3⟩
  have ya := heap_new w3 (.cells #[.slice (some ⟨g1, 0, none⟩) 4 4, .slice (some ⟨g2, 0, none⟩) 4 4] 38)
  have ka : Chg [] w3 (w3.alloc (.cells #[.slice (some ⟨g1, 0, none⟩) 4 4, .slice (some ⟨g2, 0, none⟩) 4 4] 38)) := Chg.alloc w3 _
  have hR : Rws (w3.alloc (.cells #[.slice (some ⟨g1, 0, none⟩) 4 4, .slice (some ⟨g2, 0, none⟩) 4 4] 38)) w3.heap.size 0 [leB m 4, leB (crcN l) 4] := fun i hi => by
    match i, hi with
    | 0, _ => exact ⟨some ⟨g1, 0, none⟩, 4, cell_is ya 0 rfl, (HY.out.2.chg k3).chg ka⟩
    | 1, _ => exact ⟨some ⟨g2, 0, none⟩, 4, cell_is ya 1 rfl, b3.chg ka⟩
    | i + 2, h => exact absurd h (by simp)
  have HCo := Lib.hid (bconcat_any _ (cp := 2) (n := 8) (F := tailB l) hR rfl (by simp) (by simp [tailB, HL.out.1]) (tailB_length l) (by decide) (by decide))
  have HZ := Lib.hid ((HY.out.1.then k3).then ka)
  clear ya ka hR k3 b3 s3 HY H2
  go_wp2_with fail
  refine HCo.out.mono ?_
  rintro e w4 ⟨v, rfl, k4, o4⟩
  have hw : w.heap.size ≤ (w3.alloc (.cells #[.slice (some ⟨g1, 0, none⟩) 4 4, .slice (some ⟨g2, 0, none⟩) 4 4] 38)).heap.size := HZ.out.size
  have kf := HZ.out.then k4
  obtain ⟨g, c', rfl, hbt, hbs⟩ : ∃ g c', v = .slice (some ⟨g, 0, none⟩) 8 c' ∧ (w.heap.size ≤ g ∧ Bt w4 g) ∧ Bs w4 (some ⟨g, 0, none⟩) (tailB l) := by
    obtain ⟨pa2, c2, rfl, -⟩ := own_form o4
    rcases o4.2 with ⟨e, h0⟩ | ⟨g, cap, cur, e, hA, hg, -⟩
    · cases h0
    · cases e
      exact ⟨g, _, rfl, ⟨Nat.le_trans hw hA, _, hg⟩, Bs.own o4⟩
  go_wp2_with fail
  go_ret
  exact ⟨g, c', rfl, kf, hbt.1, hbs, hbt.2⟩
set_option maxHeartbeats 1000000 in
theorem sroom_any (w : World) {S N : Nat} {inn : Int} {tv : Value} {cnt : Nat} (h : SlotG w S N inn tv cnt) : Calls Tryz.prog 92 #[.pointer (some ⟨S, 0, none⟩)] w fun e w' => e = .returned (.int .i64 11440) ∧ Chg [] w w' := by
  have c0 : w.cell? ⟨S, 0, none⟩ = some (.pointer (some ⟨N, 0, none⟩)) := cell_is h 0 rfl
  have c1 : w.cell? ⟨S, 1, none⟩ = some (.int .i64 0) := cell_is h 1 rfl
  have c2 : w.cell? ⟨S, 2, none⟩ = some (.int .i64 3) := cell_is h 2 rfl
  have c3 : w.cell? ⟨S, 3, none⟩ = some (.int .i64 6) := cell_is h 3 rfl
  have c4 : w.cell? ⟨S, 4, none⟩ = some (.int .i64 96) := cell_is h 4 rfl
  clear h
  go_enter Tryz.func92, Tryz.ntmps92
  go_wp2_with fail
  go_quiet (fail)
  have kd : Chg [] w (w.drewN nq) := (Chg.refl [] w).drewN nq
  have c4q := kd.cell c4 (by simp)
  go_wp2_with fail
  go_ret
  exact ⟨rfl, kd⟩
theorem sldead_any (w : World) {S N : Nat} {inn : Int} {tv : Value} {cnt : Nat} (h : SlotG w S N inn tv cnt) : Calls Tryz.prog 93 #[.pointer (some ⟨S, 0, none⟩)] w fun e w' => e = .returned (.bool false) ∧ w = w' := by
  have c0 : w.cell? ⟨S, 0, none⟩ = some (.pointer (some ⟨N, 0, none⟩)) := cell_is h 0 rfl
  have c8 : w.cell? ⟨S, 8, none⟩ = some (.bool false) := cell_is h 8 rfl
  clear h
  go_enter Tryz.func93, Tryz.ntmps93
  go_wp2_with fail
  go_ret
  exact ⟨rfl, rfl⟩
end Go.Proofs.YtnelakpdmjfolaaGreat
namespace Go.Proofs.YtnelakpdmjfolaaGreat
open Go.RowKit Go.Lib

theorem own_chgB {w w' : World} {S : List Nat} {base e size n : Nat} {v : Value} {xs : List Value} (h : w.ownsRow base e size v n xs) (hc : Chg S w w') (hS : ∀ g, v.ownBlock = some g → g ∉ S) : w'.ownsRow base e size v n xs := by
  refine ⟨h.1, ?_⟩
  rcases h.2 with ⟨e, h0⟩ | ⟨g, cap, cur, e, hA, hg, h3⟩
  · exact Or.inl ⟨e, h0⟩
  · exact Or.inr ⟨g, cap, cur, e, hA, hc.heap hg (hS g (by rw [e]; rfl)), h3⟩
theorem Chg.of_grownO {w w' : World} {ob : Option Nat} (h : w.grownBy w' ob) : Chg ob.toList w w' := by
  cases ob with
  | none => exact Chg.of_grown0 h
  | some g => exact Chg.of_grown h
theorem own_not {w : World} {base e size n K t : Nat} {v : Value} {xs : List Value} {cs : Array Value} (h : w.ownsRow base e size v n xs) (hK : w.heap[K]? = some (.cells cs t (0, 0))) (ht : t ≠ e) : K ∉ v.ownBlock.toList := by
  intro hx
  obtain ⟨-, cur, hc⟩ := own_elem h (show v.ownBlock = some K by simpa using hx)
  rw [hc] at hK
  cases hK
  exact ht rfl
theorem ty270 : Tryz.prog.underlying 211 = some (.slice 176) := by kernel_rfl
theorem inf226 : (Tryz.prog.info? 176).map (fun i => (i.zero, i.size, i.bytes)) = some (some (.agg #[.int .i64 0, .int .i64 0, .int .i64 0, .int .i64 0, .slice none 0 0]), 5, 56) := by kernel_rfl
theorem wpList_append_fr {ops : Array Oper} {rest : List Oper} {o : Oper} {a : Act} {w : World} {Q : Exit → Act → World → Prop} (hgd : o.guard = none) (s x : Operand)
    (ho : o.op = .call { callee := .builtin .append, args := #[s, x], argTypes := #[211, 211] }) (base b c n : Nat) (v u0 u1 u2 u3 u4 : Value) (xs : List Value) (hs : a.eval s = v) (hown : w.ownsRow base 176 5 v n xs) (hbase : base ≤ w.heap.size) (hn : n ≤ 1000)
    (hx : a.eval x = .slice (some ⟨b, 0, none⟩) 1 c) (hb : w.heap[b]? = some (.cells #[u0, u1, u2, u3, u4] 176 (0, 0))) (h1 : u0.oneCell' = true ∧ u1.oneCell' = true ∧ u2.oneCell' = true ∧ u3.oneCell' = true ∧ u4.oneCell' = true)
    (h : ∀ g cap w', w'.ownsRow base 176 5 (.slice (some ⟨g, 0, none⟩) (n + 1) cap) (n + 1) (xs ++ [u0, u1, u2, u3, u4]) → Chg v.ownBlock.toList w w' → wpList Tryz.prog ops Q rest (a.put o.dst (.slice (some ⟨g, 0, none⟩) (n + 1) cap)) w') : wpList Tryz.prog ops Q (o :: rest) a w := by
  obtain ⟨i, hi0, hz, hz1, hz2⟩ := info_parts inf226
  refine wpList_append_lies w hgd s x 211 ho base 176 i _ 5 56 ty270 hi0 hz hz1 hz2 rfl (by decide) v n xs hs hown ⟨b, 0, none⟩ 1 c [u0, u1, u2, u3, u4] hx rfl ?_ ?_ (by decide) (by unfold maxLen; omega) (by omega) hbase _ rfl ?_
  · intro j u hu
    rw [show (⟨b, 0, none⟩ : Addr).add j = ⟨b, 0 + j, none⟩ from by unfold Addr.add; split <;> simp_all, Nat.zero_add]
    exact cell_is hb j (by simpa using hu)
  · intro u hu
    simp at hu
    obtain ⟨h2, h3, h4, h5, h6⟩ := h1
    rcases hu with rfl | rfl | rfl | rfl | rfl <;> assumption
  · intro g cap w' h2 h3 _ _
    exact h g cap w' h2 (Chg.of_grownO h3)
/-- a frame's kind, its number, its bytes. -/
abbrev Frm := Nat × Nat × List UInt8
/-- bytes in a block of bytes, or none. -/
def BsT (w : World) (pb : Option Addr) (l : List UInt8) : Prop := l = [] ∨ ∃ g o, pb = some ⟨g, o, none⟩ ∧ Bt w g ∧ Bs w pb l
theorem BsT.bs {w : World} {pb : Option Addr} {l : List UInt8} (h : BsT w pb l) : Bs w pb l := by
  rcases h with h | ⟨_, _, _, _, h⟩
  · exact Or.inl h
  · exact h
theorem BsT.keep {w w' : World} {U : List Nat} {pb : Option Addr} {l : List UInt8} (h : BsT w pb l) (hc : Chg U w w') (hU : Av w U [5]) : BsT w' pb l := by
  rcases h with h | ⟨g, o, rfl, hb, h⟩
  · exact Or.inl h
  · have hn : g ∉ U := Bt.av hb hU (by simp)
    exact Or.inr ⟨g, o, rfl, Bt.keep hb hc hn, h.chgT hc hn⟩
/-- a frame stands in a row. -/
def FrAt (w : World) (n : Nat) (f : Frm) (xs : List Value) (i : Nat) : Prop := ∃ pb c, xs[i * 5]? = some (.int .i64 f.1) ∧ xs[i * 5 + 1]? = some (.int .i64 0) ∧ xs[i * 5 + 2]? = some (.int .i64 n) ∧ xs[i * 5 + 3]? = some (.int .i64 f.2.1) ∧ xs[i * 5 + 4]? = some (.slice pb f.2.2.length c) ∧ BsT w pb f.2.2
def RowF (w : World) (base n : Nat) (v : Value) (fs : List Frm) : Prop := ∃ xs, w.ownsRow base 176 5 v fs.length xs ∧ ∀ i (h : i < fs.length), FrAt w n fs[i] xs i
theorem RowF.keep {w w' : World} {U : List Nat} {base n : Nat} {v : Value} {fs : List Frm} (h : RowF w base n v fs) (hc : Chg U w w') (hU : Av w U [5, 176]) : RowF w' base n v fs := by
  obtain ⟨xs, h1, h2⟩ := h
  refine ⟨xs, own_chgB h1 hc (fun g hg hm => ?_), fun i hi => ?_⟩
  · obtain ⟨-, cur, hh⟩ := own_elem h1 hg
    exact hU g hm _ _ _ hh (by simp)
  · obtain ⟨pb, c, e0, e1, e2, e3, e4, e5⟩ := h2 i hi
    exact ⟨pb, c, e0, e1, e2, e3, e4, e5.keep hc (fun x hx cs t fr hh hm => hU x hx cs t fr hh (by simp at hm; simp [hm]))⟩
theorem RowF.push {w w' : World} {base n g cap : Nat} {v : Value} {fs : List Frm} {f : Frm} {pb : Option Addr} {c : Nat} {xs : List Value} (hx : ∀ i (h : i < fs.length), FrAt w n fs[i] xs i) (hl : xs.length = fs.length * 5) (hv : w.ownsRow base 176 5 v fs.length xs)
    (ho : w'.ownsRow base 176 5 (.slice (some ⟨g, 0, none⟩) (fs.length + 1) cap) (fs.length + 1) (xs ++ [.int .i64 f.1, .int .i64 0, .int .i64 n, .int .i64 f.2.1, .slice pb f.2.2.length c])) (hc : Chg v.ownBlock.toList w w') (hb : BsT w pb f.2.2) : RowF w' base n (.slice (some ⟨g, 0, none⟩) (fs.length + 1) cap) (fs ++ [f]) := by
  have hU : Av w v.ownBlock.toList [5] := fun x hx cs t fr hh hm => by
    obtain ⟨-, cur, h2⟩ := own_elem hv (show v.ownBlock = some x by simpa using hx)
    rw [hh] at h2
    cases h2
    simp at hm
  refine ⟨_, by rw [List.length_append]; exact ho, fun i hi => ?_⟩
  by_cases e : i < fs.length
  · rw [List.getElem_append_left e]
    obtain ⟨pb, c, e0, e1, e2, e3, e4, e5⟩ := hx i e
    refine ⟨pb, c, ?_, ?_, ?_, ?_, ?_, e5.keep hc hU⟩
    all_goals (rw [List.getElem?_append_left (by omega)]; assumption)
  · have e2 : i = fs.length := by rw [List.length_append] at hi; simp at hi; omega
    subst e2
    rw [List.getElem_append_right (Nat.le_refl _)]
    simp only [Nat.sub_self, List.getElem_cons_zero]
    refine ⟨pb, c, ?_, ?_, ?_, ?_, ?_, hb.keep hc hU⟩
    · rw [List.getElem?_append_right (by omega), hl, Nat.sub_self]; rfl
    · rw [List.getElem?_append_right (by omega), hl, Nat.add_sub_cancel_left]; rfl
    · rw [List.getElem?_append_right (by omega), hl, Nat.add_sub_cancel_left]; rfl
    · rw [List.getElem?_append_right (by omega), hl, Nat.add_sub_cancel_left]; rfl
    · rw [List.getElem?_append_right (by omega), hl, Nat.add_sub_cancel_left]; rfl
theorem RowF.open_ {w : World} {base n K : Nat} {v : Value} {fs : List Frm} (h : RowF w base n v fs) (hK : fs.length = K) : ∃ xs pv cv, v = .slice pv K cv ∧ K ≤ cv ∧ w.ownsRow base 176 5 (.slice pv K cv) K xs ∧ ∀ (f : Frm) (pb : Option Addr) (c : Nat) (w' : World) (g cap : Nat),
    w'.ownsRow base 176 5 (.slice (some ⟨g, 0, none⟩) (K + 1) cap) (K + 1) (xs ++ [.int .i64 f.1, .int .i64 0, .int .i64 n, .int .i64 f.2.1, .slice pb f.2.2.length c]) → Chg (Value.slice pv K cv).ownBlock.toList w w' → BsT w pb f.2.2 → RowF w' base n (.slice (some ⟨g, 0, none⟩) (K + 1) cap) (fs ++ [f]) := by
  subst hK
  obtain ⟨xs, h1, h2⟩ := h
  obtain ⟨pv, cv, rfl, hc⟩ := own_form h1
  exact ⟨xs, pv, cv, rfl, hc, h1, fun f pb c w' g cap ho hc hb => RowF.push h2 h1.1 h1 ho hc hb⟩
theorem RowF.get {w : World} {base n : Nat} {v : Value} {fs : List Frm} (h : RowF w base n v fs) (i : Nat) (hi : i < fs.length) : ∃ g cap pb c, v = .slice (some ⟨g, 0, none⟩) fs.length cap ∧ fs.length ≤ cap ∧ (∃ cs, w.heap[g]? = some (.cells cs 176 (0, 0))) ∧
    w.cell? ⟨g, i * 5, none⟩ = some (.int .i64 fs[i].1) ∧ w.cell? ⟨g, i * 5 + 1, none⟩ = some (.int .i64 0) ∧ w.cell? ⟨g, i * 5 + 2, none⟩ = some (.int .i64 n) ∧ w.cell? ⟨g, i * 5 + 3, none⟩ = some (.int .i64 fs[i].2.1) ∧ w.cell? ⟨g, i * 5 + 4, none⟩ = some (.slice pb fs[i].2.2.length c) ∧ BsT w pb fs[i].2.2 := by
  obtain ⟨xs, h1, h2⟩ := h
  obtain ⟨pb, c, e0, e1, e2, e3, e4, e5⟩ := h2 i hi
  rcases h1.2 with ⟨e, h0⟩ | ⟨g, cap, cur, e, hA, hg, hc1, hc2, hc3, ht⟩
  · omega
  · have hget : ∀ k, k < fs.length * 5 → cur[k]? = xs[k]? := fun k hk => by
      rw [← ht, List.getElem?_take_of_lt hk, Array.getElem?_toList]
    exact ⟨g, cap, pb, c, e, hc1, ⟨_, hg⟩, cell_is hg _ (by rw [hget _ (by omega)]; exact e0), cell_is hg _ (by rw [hget _ (by omega)]; exact e1), cell_is hg _ (by rw [hget _ (by omega)]; exact e2), cell_is hg _ (by rw [hget _ (by omega)]; exact e3), cell_is hg _ (by rw [hget _ (by omega)]; exact e4), e5⟩
/-- a text in pieces of 40 bytes. -/
def nCh (m : Nat) : Nat := (m + 39) / 40
def chB (l : List UInt8) (j : Nat) : List UInt8 := (l.drop (40 * j)).take 40
theorem chB_length (l : List UInt8) (j : Nat) : (chB l j).length = min 40 (l.length - 40 * j) := by simp [chB]
/-- a slot's frames. -/
def frmA (l : List UInt8) (k : Nat) : List Frm := (3, 0, []) :: (List.range k).map fun j => (1, 0, chB l j)
def frmL (l : List UInt8) : List Frm := frmA l (nCh l.length) ++ [(2, nCh l.length, tailB l)]
theorem frmA_length (l : List UInt8) (k : Nat) : (frmA l k).length = k + 1 := by simp [frmA]
theorem frmL_length (l : List UInt8) : (frmL l).length = nCh l.length + 2 := by simp [frmL, frmA_length]
theorem frmA_succ (l : List UInt8) (k : Nat) : frmA l (k + 1) = frmA l k ++ [(1, 0, chB l k)] := by simp [frmA, List.range_succ]
def encS (n : Nat) (l : List UInt8) : List (List UInt8) := (frmL l).map fun f => encF f.1 0 n f.2.1 f.2.2
theorem encS_length (n : Nat) (l : List UInt8) : (encS n l).length = nCh l.length + 2 := by simp [encS, frmL_length]
theorem frmL_ok {l : List UInt8} (hl : l.length ≤ 11440) : ∀ f ∈ frmL l, (1 ≤ f.1 ∧ f.1 ≤ 3) ∧ f.2.1 ≤ 1000 ∧ f.2.2.length ≤ 40 := fun f hf => by
  have hn : nCh l.length ≤ 286 := by unfold nCh; omega
  rcases List.mem_append.1 hf with hf | hf
  · rcases List.mem_cons.1 hf with rfl | hf
    · exact ⟨⟨Nat.le_of_ble_eq_true rfl, Nat.le_of_ble_eq_true rfl⟩, Nat.zero_le _, Nat.zero_le _⟩
    · obtain ⟨j, -, rfl⟩ := List.mem_map.1 hf
      exact ⟨⟨Nat.le_refl 1, Nat.le_of_ble_eq_true rfl⟩, by show 0 ≤ 1000; omega, by show (chB l j).length ≤ 40; rw [chB_length]; omega⟩
  · rw [List.mem_singleton] at hf
    subst hf
    exact ⟨⟨Nat.le_of_ble_eq_true rfl, Nat.le_of_ble_eq_true rfl⟩, by show nCh l.length ≤ 1000; omega, by show (tailB l).length ≤ 40; rw [tailB_length]; omega⟩
/-- zones from a on, filled with blocks one behind the other, three of them. -/
def putF (zs : Nat → List (List UInt8)) (a : Nat) (F : List (List UInt8)) (k : Nat) : Nat → List (List UInt8) := fun z => if a ≤ z ∧ z < a + 3 then ((F.take k).drop (96 * (z - a))).take 96 else zs z
theorem putF_len {zs : Nat → List (List UInt8)} {a k : Nat} {F : List (List UInt8)} (hk : k < F.length) (hF : F.length ≤ 288) : (putF zs a F k (a + k / 96)).length = k % 96 := by
  have h1 : a ≤ a + k / 96 ∧ a + k / 96 < a + 3 := by omega
  simp only [putF, if_pos h1, List.length_take, List.length_drop]
  omega
theorem putF_succ {zs : Nat → List (List UInt8)} {a k : Nat} {F : List (List UInt8)} (hk : k < F.length) (hF : F.length ≤ 288) : upF (putF zs a F k) (a + k / 96) (putF zs a F k (a + k / 96) ++ [F[k]]) = putF zs a F (k + 1) := by
  have e0 : F.take (k + 1) = F.take k ++ [F[k]] := by rw [List.take_add_one, List.getElem?_eq_getElem hk]; rfl
  funext z
  by_cases e : z = a + k / 96
  · subst e
    have h1 : a ≤ a + k / 96 ∧ a + k / 96 < a + 3 := by omega
    simp only [upF, putF, if_pos h1, if_true]
    rw [Nat.add_sub_cancel_left, e0, List.drop_append_of_le_length (by simp; omega), List.take_append]
    have h2 : (List.drop (96 * (k / 96)) (List.take k F)).length = k % 96 := by simp; omega
    rw [h2]
    congr 1
    rw [List.take_of_length_le (by simp; omega)]
  · simp only [upF, if_neg e, putF]
    by_cases h1 : a ≤ z ∧ z < a + 3
    · rw [if_pos h1, if_pos h1]
      by_cases h2 : z < a + k / 96
      · rw [e0, List.drop_append_of_le_length (by simp; omega), List.take_append_of_le_length (by simp; omega)]
      · rw [List.drop_eq_nil_of_le (by simp; omega), List.drop_eq_nil_of_le (by simp; omega)]
    · rw [if_neg h1, if_neg h1]
theorem encS_get {n i : Nat} {l : List UInt8} (h : i < (frmL l).length) (h' : i < (encS n l).length) : (encS n l)[i] = encF (frmL l)[i].1 0 n (frmL l)[i].2.1 (frmL l)[i].2.2 := by simp [encS]
/-- what a device's calls change. -/
def Dc (lw : Nat) (w w' : World) : Prop := ∃ U, Chg U w w' ∧ Tp w U [60, 64, 38] ∧ ∀ x ∈ U, lw ≤ x
theorem Dc.of0 {lw : Nat} {w w' : World} (h : Chg [] w w') : Dc lw w w' := ⟨[], h, (fun x hx => by cases hx), fun x hx => by cases hx⟩
theorem Dc.trans {lw : Nat} {a b c : World} (h : Dc lw a b) (k : Dc lw b c) : Dc lw a c := by
  obtain ⟨U, h1, h2, h3⟩ := h
  obtain ⟨V, k1, k2, k3⟩ := k
  refine ⟨U ++ V.filter (fun x => decide (x < a.heap.size ∧ x ∉ U)), ?_, fun x hx => ?_, fun x hx => ?_⟩
  · refine (h1.mono (fun x hx _ => List.mem_append_left _ hx)).trans k1 (fun x hx hl => ?_)
    by_cases e : x ∈ U
    · exact List.mem_append_left _ e
    · exact List.mem_append_right _ (List.mem_filter.2 ⟨hx, by simpa using ⟨hl, e⟩⟩)
  · rcases List.mem_append.1 hx with hx | hx
    · exact h2 x hx
    · obtain ⟨hx1, hx2⟩ := List.mem_filter.1 hx
      obtain ⟨hl, hn⟩ : x < a.heap.size ∧ x ∉ U := by simpa using hx2
      obtain ⟨cs, t, e1, e2⟩ := k2 x hx1
      have : a.heap[x]? = b.heap[x]? := by
        have ho : a.heap[x]? = some a.heap[x] := Array.getElem?_eq_getElem hl
        rw [ho, h1.heap ho hn]
      exact ⟨cs, t, by rw [this]; exact e1, e2⟩
  · rcases List.mem_append.1 hx with hx | hx
    · exact h3 x hx
    · exact k3 x (List.mem_filter.1 hx).1
theorem Dc.size {lw : Nat} {w w' : World} (h : Dc lw w w') : w.heap.size ≤ w'.heap.size := by
  obtain ⟨U, h1, -⟩ := h
  exact h1.size
theorem Dc.heap {lw : Nat} {w w' : World} (h : Dc lw w w') {x : Nat} {cs : Array Value} {t : TypeId} (hh : w.heap[x]? = some (.cells cs t (0, 0))) (ht : t ∉ [60, 64, 38]) : w'.heap[x]? = some (.cells cs t (0, 0)) := by
  obtain ⟨U, h1, h2, -⟩ := h
  refine h1.heap hh (fun hm => ?_)
  obtain ⟨cs2, t2, e1, e2⟩ := h2 x hm
  rw [hh] at e1
  cases e1
  exact ht e2
end Go.Proofs.YtnelakpdmjfolaaGreat
namespace Go.Proofs.YtnelakpdmjfolaaGreat
open Go.RowKit Go.Lib

/-- zones that were emptied. -/
def clrF (zs : Nat → List (List UInt8)) (a j : Nat) : Nat → List (List UInt8) := fun z => if a ≤ z ∧ z < j then [] else zs z
theorem clrF_zero (zs : Nat → List (List UInt8)) (a : Nat) : clrF zs a a = zs := funext fun z => by simp only [clrF]; rw [if_neg (by omega)]
theorem clrF_succ {zs : Nat → List (List UInt8)} {a j : Nat} (h : a ≤ j) : upF (clrF zs a j) j [] = clrF zs a (j + 1) := funext fun z => by
  simp only [upF, clrF]
  by_cases e : z = j
  · rw [if_pos e, if_pos (by omega)]
  · rw [if_neg e]
    by_cases h2 : a ≤ z ∧ z < j
    · rw [if_pos h2, if_pos (by omega)]
    · rw [if_neg h2, if_neg (by omega)]
theorem clrF_same {zs : Nat → List (List UInt8)} {a j : Nat} (h : a ≤ j) (hz : clrF zs a j j = []) : clrF zs a (j + 1) = clrF zs a j := by
  rw [← clrF_succ h]
  funext z
  simp only [upF]
  by_cases e : z = j
  · subst e; rw [if_pos rfl, hz]
  · rw [if_neg e]
theorem putF_zero (zs : Nat → List (List UInt8)) (a : Nat) (F : List (List UInt8)) : putF zs a F 0 = clrF zs a (a + 3) := funext fun z => by
  simp only [putF, clrF]
  by_cases h : a ≤ z ∧ z < a + 3
  · rw [if_pos h, if_pos h]; simp
  · rw [if_neg h, if_neg h]
/-- how long the zones are. -/
def lenF (zs : Nat → List (List UInt8)) : Nat → Nat := fun z => (zs z).length
theorem lenF_up (zs : Nat → List (List UInt8)) (j : Nat) : upF (lenF zs) j 0 = lenF (upF zs j []) := by
  funext z
  simp only [upF, lenF]
  split <;> rfl
theorem DevG.good {w : World} {base N A c : Nat} {ops : Int} {Z : List Nat} {vs : Nat → Value} {gs : Nat → Nat} {zs : Nat → List (List UInt8)} (h : DevG w base N A c ops Z vs (goodF gs zs 8) zs) : DevG w base N A c ops Z vs (lenF zs) zs :=
  ⟨h.hdr, h.cap, h.len, h.tA, h.ptr, fun j hj => by
    have h1 := h.zone j hj
    have h2 : goodF gs zs 8 j = lenF zs j := by unfold goodF lenF; rw [if_pos (by have := h.len; omega)]
    rw [h2] at h1
    exact h1, h.rows, h.apart, h.nodup⟩
/-- a device somewhere behind: how many ops, which zones. -/
def DevZ (w : World) (base N A c : Nat) (ops : Int) (Z : List Nat) (zs : Nat → List (List UInt8)) : Prop := ∃ vs, DevG w base N A c ops Z vs (lenF zs) zs
theorem Dc.dev {lw : Nat} {w w' : World} {base N A c : Nat} {ops : Int} {Z : List Nat} {vs : Nat → Value} {gs : Nat → Nat} {zs : Nat → List (List UInt8)} {U : List Nat} (h : DevG w base N A c ops Z vs gs zs) (hc : Chg U w w') (hN : lw ≤ N) (hZ : ∀ z ∈ Z, lw ≤ z) (hb : lw ≤ base)
    (hU : ∀ x ∈ U, x = N ∨ x ∈ Z ∨ ∃ j, j < 8 ∧ (vs j).ownBlock = some x) : Dc lw w w' := by
  refine ⟨U, hc, fun x hx => ?_, fun x hx => ?_⟩
  · rcases hU x hx with rfl | h2 | ⟨j, hj, h2⟩
    · exact ⟨_, _, h.hdr, by simp⟩
    · obtain ⟨i, hi, rfl⟩ := List.getElem_of_mem h2
      exact ⟨_, _, h.zone i hi, by simp⟩
    · obtain ⟨cs, hh⟩ := (h.rows j hj).block x h2
      exact ⟨_, _, hh, by simp⟩
  · rcases hU x hx with rfl | h2 | ⟨j, hj, h2⟩
    · exact hN
    · exact hZ x h2
    · obtain ⟨xs, ho, -⟩ := h.rows j hj
      exact Nat.le_trans hb (own_elem ho h2).1
/-- what a write of a text leaves. -/
def SWr (w w' : World) (lw base N A c : Nat) (Z : List Nat) (ops : Int) (zs : Nat → List (List UInt8)) (a n : Nat) (l : List UInt8) : Prop :=
  ∃ ops', (ops ≤ ops' ∧ ops' ≤ ops + 300) ∧ DevZ w' base N A c ops' Z (putF zs a (encS n l) (encS n l).length) ∧ Dc lw w w'
set_option maxRecDepth 100000 in
set_option maxHeartbeats 8000000 in
theorem slwrite_any (w : World) {S N A c base lw n o cp : Nat} {inn : Int} {tv : Value} {cnt : Nat} {ops : Int} {Z : List Nat} {vs : Nat → Value} {gs : Nat → Nat} {zs : Nat → List (List UInt8)} {i a m D : Nat} {l : List UInt8}
    (hS : SlotG w S N inn tv cnt) (hd : DevG w base N A c ops Z vs gs zs) (h0 : 0 ≤ ops) (h1 : ops ≤ 900000) (hi : (i = 0 ∧ a = 0) ∨ (i = 1 ∧ a = 3)) (hn : n ≤ 1099511627776) (hb : Bs w (some ⟨D, o, none⟩) l) (hbt : Bt w D) (hl : l.length = m) (hm : m ≤ 11440) (hlow : base ≤ N) (hlw : lw ≤ base) (hZ : ∀ z ∈ Z, lw ≤ z) (hcp : m ≤ cp) :
    Calls Tryz.prog 94 #[.pointer (some ⟨S, 0, none⟩), .int .i64 i, .int .i64 n, .slice (some ⟨D, o, none⟩) m cp] w fun e w' => e = .returned (.int .i64 0) ∧ SWr w w' lw base N A c Z ops zs a n l := by
  have hlen8 := hd.len
  have c0 : w.cell? ⟨S, 0, none⟩ = some (.pointer (some ⟨N, 0, none⟩)) := cell_is hS 0 rfl
  have cA : w.cell? ⟨S, 1 + i, none⟩ = some (.int .i64 a) := by
    rcases hi with ⟨rfl, rfl⟩ | ⟨rfl, rfl⟩
    · exact cell_is hS 1 rfl
    · exact cell_is hS 2 rfl
  have n1 : IntKind.i64.wrap ((i : Int) + 1) = ((i + 1 : Nat) : Int) := by rw [IntKind.wrap_i64]; omega
  have hi1 : i ≤ 1 := by omega
  obtain ⟨e3, he3⟩ : ∃ e3, e3 = a + 3 := ⟨_, rfl⟩
  have HE3 := Lib.hid he3
  have he3a : a ≤ e3 ∧ e3 ≤ 6 := by omega
  clear he3
  have hi2 : (i : Int) < 3 := by omega
  have HI := Lib.hid hi
  have HS := Lib.hid hS
  have HD := Lib.hid (And.intro hd (And.intro hb hbt))
  have HB := Lib.hid (show lw ≤ N ∧ (∀ z ∈ Z, lw ≤ z) ∧ lw ≤ base ∧ base ≤ N from ⟨by omega, hZ, hlw, hlow⟩)
  clear hS hd hb hbt hi hZ
  go_enter Tryz.func94, Tryz.ntmps94
  go_wp2_with fail
  go_loopw [9, 10, 11, 12] (fun z _ _ _ wr => ∃ j : Nat, z = .int .i64 j ∧ (a ≤ j ∧ j ≤ e3) ∧ (∃ ops' vs' gs', (ops ≤ ops' ∧ ops' ≤ ops + (j - a : Nat)) ∧ DevG wr base N A c ops' Z vs' gs' (clrF zs a j)) ∧ Dc lw w wr) (fun z _ _ _ _ => e3 - (intOf z).toNat)
  case atStart => exact ⟨a, rfl, ⟨Nat.le_refl _, he3a.1⟩, ⟨ops, vs, gs, ⟨by omega, by omega⟩, by rw [clrF_zero]; exact HD.out.1⟩, Dc.of0 (Chg.refl _ _)⟩
  case round =>
    obtain ⟨j, rfl, ⟨hj0, hj1⟩, ⟨ops', vs', gs', ho, hd⟩, hdc⟩ := hrel
    have hSr : SlotG wr S N inn tv cnt := hdc.heap HS.out (by decide)
    have d0 : wr.cell? ⟨S, 0, none⟩ = some (.pointer (some ⟨N, 0, none⟩)) := cell_is hSr 0 rfl
    have dA : wr.cell? ⟨S, 1 + (i + 1), none⟩ = some (.int .i64 (e3 : Int)) := by
      rw [HE3.out]
      rcases HI.out with ⟨rfl, rfl⟩ | ⟨rfl, rfl⟩
      · exact cell_is hSr 2 rfl
      · exact cell_is hSr 3 rfl
    by_cases hlt : j < e3
    · have hj8 : j < Z.length := by omega
      have HP := Lib.hid (pointer_ok wr hd j hj8)
      have HR := Lib.hid (dreset_any wr hd (by omega) (by omega) j hj8)
      have HW := Lib.hid (And.intro hd (And.intro ho hdc))
      have m1 : decide ((j : Int) < (e3 : Int)) = true := decide_eq_true (by omega)
      clear hd ho hdc c0 cA hSr
      obtain ⟨p, hp⟩ : ∃ p, p = (clrF zs a j j).length := ⟨_, rfl⟩
      rw [← hp] at HP
      have Hp := Lib.hid hp
      clear hp
      have m2 : IntKind.i64.wrap ((j : Int) + 1) = ((j + 1 : Nat) : Int) := by rw [IntKind.wrap_i64]; omega
      go_wp2_with fail
      refine HP.out.mono ?_
      rintro e w1 ⟨rfl, rfl⟩
      by_cases hp0 : 0 < p
      · have m3 : decide (0 < (p : Int)) = true := decide_eq_true (by omega)
        go_wp2_with fail
        refine HR.out.mono ?_
        rintro e w2 ⟨rfl, k2, d2⟩
        have hnew : Hid ((∃ ops2 vs' gs', (ops ≤ ops2 ∧ ops2 ≤ ops + ((j + 1) - a : Nat)) ∧ DevG w2 base N A c ops2 Z vs' gs' (clrF zs a (j + 1))) ∧ Dc lw w w2) := Lib.hid (by
          obtain ⟨hd, ho, hdc⟩ := HW.out
          refine ⟨⟨ops' + 1, _, _, by omega, by rw [← clrF_succ hj0]; exact d2⟩, hdc.trans (Dc.dev hd k2 HB.out.1 HB.out.2.1 HB.out.2.2.1 (fun x hx => ?_))⟩
          simp only [List.mem_cons, List.not_mem_nil, or_false] at hx
          rcases hx with rfl | rfl
          · exact Or.inl rfl
          · exact Or.inr (Or.inl (List.getElem_mem _)))
        clear k2 d2 HR HP HW
        go_wp2_with fail
        go_roundw
        case rel => exact ⟨j + 1, rfl, ⟨by omega, by omega⟩, hnew.out.1, hnew.out.2⟩
        case measure => simp [intOf]; omega
      · have m3 : decide (0 < (p : Int)) = false := decide_eq_false (by omega)
        have hnew : Hid ((∃ ops2 vs' gs', (ops ≤ ops2 ∧ ops2 ≤ ops + ((j + 1) - a : Nat)) ∧ DevG wr base N A c ops2 Z vs' gs' (clrF zs a (j + 1))) ∧ Dc lw w wr) := Lib.hid (by
          obtain ⟨hd, ho, hdc⟩ := HW.out
          have hz : clrF zs a j j = [] := List.length_eq_zero_iff.1 (by have := Hp.out; omega)
          exact ⟨⟨ops', _, _, by omega, by rw [clrF_same hj0 hz]; exact hd⟩, hdc⟩)
        clear HR HP HW
        go_wp2_with fail
        go_roundw
        case rel => exact ⟨j + 1, rfl, ⟨by omega, by omega⟩, hnew.out.1, hnew.out.2⟩
        case measure => simp [intOf]; omega
    · have hje : j = e3 := by omega
      subst hje
      have m1 : decide ((j : Int) < (j : Int)) = false := decide_eq_false (by omega)
      have HW := Lib.hid (And.intro hd (And.intro ho hdc))
      clear hd ho hdc c0 cA hSr
      have hbr : Bs wr (some ⟨D, o, none⟩) l ∧ Bt wr D := by
        obtain ⟨U, u1, u2, -⟩ := HW.out.2.2
        have hn : D ∉ U := fun hm => by
          obtain ⟨cs, hh⟩ := HD.out.2.2
          obtain ⟨cs2, t2, e1, e2⟩ := u2 D hm
          rw [hh] at e1
          cases e1
          revert e2
          decide
        exact ⟨HD.out.2.1.chgT u1 hn, Bt.keep HD.out.2.2 u1 hn⟩
      have HT := Lib.hid hbr
      clear hbr
      go_wp2_with fail
      clear m1
      have kA : Chg [] wr (wr.alloc (.cells #[.int .i64 3, .int .i64 0, .int .i64 n, .int .i64 0, .slice none 0 0] 176)) := Chg.alloc wr _
      have yA := heap_new wr (.cells #[.int .i64 3, .int .i64 0, .int .i64 n, .int .i64 0, .slice none 0 0] 176)
      have hrow : RowF (wr.alloc (.cells #[.int .i64 3, .int .i64 0, .int .i64 n, .int .i64 0, .slice none 0 0] 176)) wr.heap.size n (.slice (some ⟨wr.heap.size, 0, none⟩) 1 1) (frmA l 0) := by
        refine ⟨[.int .i64 3, .int .i64 0, .int .i64 n, .int .i64 0, .slice none 0 0], ⟨rfl, Or.inr ⟨wr.heap.size, 1, _, rfl, Nat.le_refl _, yA, Nat.le_refl 1, by decide, rfl, rfl⟩⟩, fun i hi => ?_⟩
        have : i = 0 := by simp [frmA] at hi; omega
        subst this
        exact ⟨none, 0, rfl, rfl, rfl, rfl, rfl, Or.inl rfl⟩
      have HR0 := Lib.hid (And.intro hrow kA)
      clear hrow kA yA
      generalize hwA : wr.alloc (.cells #[.int .i64 3, .int .i64 0, .int .i64 n, .int .i64 0, .slice none 0 0] 176) = wA at *
      clear hwA
      go_loopw [13, 14] (fun v at_ wx => ∃ k p : Nat, at_ = .int .i64 (p : Int) ∧ (p = 40 * k ∧ k ≤ nCh m) ∧ RowF wx wr.heap.size n v (frmA l k) ∧ Chg [] wr wx) (fun _ at_ _ => m + 40 - (intOf at_).toNat)
      case atStart => exact ⟨0, 0, rfl, ⟨rfl, Nat.zero_le _⟩, HR0.out.1, HR0.out.2⟩
      case round =>
        obtain ⟨k, p, rfl, hpk, hrw, hcw⟩ := hrel
        rename World => wx
        have HPk := Lib.hid hpk
        have hpm : p ≤ m + 39 := by unfold nCh at hpk; omega
        clear hpk
        by_cases hkn : p < m
        · have m1 : decide ((p : Int) < (m : Int)) = true := decide_eq_true (by omega)
          have m2 : IntKind.i64.wrap ((p : Int) + 40) = ((p + 40 : Nat) : Int) := by rw [IntKind.wrap_i64]; omega
          obtain ⟨-, pv, cv, rfl, hcv, -⟩ := hrw.open_ (frmA_length l k)
          have hlr : wr.heap.size ≤ wx.heap.size := hcw.size
          have hr1000 : k + 1 ≤ 1000 := by have := HPk.out; omega
          have HRw := Lib.hid (And.intro hrw hcw)
          clear hrw hcw
          obtain ⟨q, hq⟩ : ∃ q, q = (min ((p : Int) + 40) m).toNat - p := ⟨_, rfl⟩
          have hq40 : q ≤ 40 := by omega
          have hqc : (chB l k).length = q := by rw [chB_length, hl]; have := HPk.out; omega
          have kB : Chg [] wx (wx.alloc (.cells #[.int .i64 1, .int .i64 0, .int .i64 n, .int .i64 0, .slice (some ⟨D, o + p, none⟩) q (cp - p)] 176)) := Chg.alloc wx _
          have yB := heap_new wx (.cells #[.int .i64 1, .int .i64 0, .int .i64 n, .int .i64 0, .slice (some ⟨D, o + p, none⟩) q (cp - p)] 176)
          have hRB := HRw.out.1.keep kB (Av.nil _ _)
          obtain ⟨xs, pv', cv', e, -, oB, hpush⟩ := hRB.open_ (frmA_length l k)
          cases e
          have hBT : BsT (wx.alloc (.cells #[.int .i64 1, .int .i64 0, .int .i64 n, .int .i64 0, .slice (some ⟨D, o + p, none⟩) q (cp - p)] 176)) (some ⟨D, o + p, none⟩) (chB l k) := by
            have h1 := (HT.out.1.chg HRw.out.2).chg kB
            refine Or.inr ⟨D, o + p, rfl, Bt.keep (Bt.keep HT.out.2 HRw.out.2 (by simp)) kB (by simp), ?_⟩
            have h2 := h1.sub p 40
            unfold chB
            rw [← HPk.out.1]
            exact h2
          have HPu := Lib.hid (hpush (1, 0, chB l k) (some ⟨D, o + p, none⟩) (cp - p))
          have HBT := Lib.hid (And.intro hBT (And.intro hqc (And.intro kB (frmA_succ l k))))
          have hlB : wr.heap.size ≤ (wx.alloc (.cells #[.int .i64 1, .int .i64 0, .int .i64 n, .int .i64 0, .slice (some ⟨D, o + p, none⟩) q (cp - p)] 176)).heap.size := Nat.le_trans hlr kB.size
          clear hRB hpush hBT hqc kB
          go_upto_region 12 with (first | (rw [← hq]; at_builtin; refine wpList_append_fr rfl (.tmp 65) (.tmp 76) rfl wr.heap.size wx.heap.size 1 (k + 1) (.slice pv (k + 1) cv) _ _ _ _ _ xs rfl oB hlB hr1000 rfl yB ⟨rfl, rfl, rfl, rfl, rfl⟩ ?_; intro g7 c7 w7 o7 k7))
          have hnew : Hid (RowF w7 wr.heap.size n (.slice (some ⟨g7, 0, none⟩) (k + 1 + 1) c7) (frmA l (k + 1)) ∧ Chg [] wr w7) := Lib.hid (by
            obtain ⟨b1, b2, b3, b4⟩ := HBT.out
            refine ⟨by rw [b4]; exact HPu.out w7 g7 c7 (by show w7.ownsRow _ _ _ _ _ (xs ++ [_, _, _, _, .slice _ (chB l k).length _]); rw [b2]; exact o7) k7 b1, (HRw.out.2.then b3).trans k7 (fun x hx hl => ?_)⟩
            have h1 := (own_elem oB (show (Value.slice pv (k + 1) cv).ownBlock = some x by simpa using hx)).1
            omega)
          clear HPu HBT o7 k7 oB yB HRw
          go_wp2_with fail
          go_roundw
          case rel => exact ⟨k + 1, p + 40, rfl, ⟨by have := HPk.out; omega, by have := HPk.out; unfold nCh; omega⟩, hnew.out.1, hnew.out.2⟩
          case measure => simp [intOf]; omega
        · have m1 : decide ((p : Int) < (m : Int)) = false := decide_eq_false (by omega)
          have hkn : k = nCh m := by have := HPk.out; unfold nCh at this ⊢; omega
          have HKn := Lib.hid hkn
          have hk286 : k ≤ 286 := by unfold nCh at hkn; omega
          clear hkn
          obtain ⟨-, pv, cv, rfl, hcv, -⟩ := hrw.open_ (frmA_length l k)
          have hlr : wr.heap.size ≤ wx.heap.size := hcw.size
          have HTl := Lib.hid (tail_any wx (c := cp) (HT.out.1.chg hcw) hl (by omega))
          have HRw := Lib.hid (And.intro hrw hcw)
          clear hrw hcw HR0
          have m2 : IntKind.i64.wrap ((k : Int) + 1 - 1) = (k : Int) := by rw [IntKind.wrap_i64]; omega
          go_wp2_with fail
          refine HTl.out.mono ?_
          rintro e w3 ⟨gt, ct, rfl, k3, s3, b3, t3⟩
          have kB : Chg [] w3 (w3.alloc (.cells #[.int .i64 2, .int .i64 0, .int .i64 n, .int .i64 k, .slice (some ⟨gt, 0, none⟩) 8 ct] 176)) := Chg.alloc w3 _
          have yB := heap_new w3 (.cells #[.int .i64 2, .int .i64 0, .int .i64 n, .int .i64 k, .slice (some ⟨gt, 0, none⟩) 8 ct] 176)
          have hRB := HRw.out.1.keep (k3.then kB) (Av.nil _ _)
          obtain ⟨xs, pv', cv', e, -, oB, hpush⟩ := hRB.open_ (frmA_length l k)
          cases e
          have hBT : BsT (w3.alloc (.cells #[.int .i64 2, .int .i64 0, .int .i64 n, .int .i64 k, .slice (some ⟨gt, 0, none⟩) 8 ct] 176)) (some ⟨gt, 0, none⟩) (tailB l) := Or.inr ⟨gt, 0, rfl, Bt.keep t3 kB (by simp), b3.chg kB⟩
          have HPu := Lib.hid (hpush (2, k, tailB l) (some ⟨gt, 0, none⟩) ct)
          have HBT := Lib.hid (And.intro hBT ((HRw.out.2.then k3).then kB))
          have hlB : wr.heap.size ≤ (w3.alloc (.cells #[.int .i64 2, .int .i64 0, .int .i64 n, .int .i64 k, .slice (some ⟨gt, 0, none⟩) 8 ct] 176)).heap.size := HBT.out.2.size
          have hr1000 : k + 1 ≤ 1000 := by omega
          clear hRB hpush hBT kB k3 s3 b3 t3 HTl HRw
          go_upto_region 15 with (first | (at_builtin; refine wpList_append_fr rfl (.tmp 78) (.tmp 86) rfl wr.heap.size w3.heap.size 1 (k + 1) (.slice pv (k + 1) cv) _ _ _ _ _ xs rfl oB hlB hr1000 rfl yB ⟨rfl, rfl, rfl, rfl, rfl⟩ ?_; intro g7 c7 w7 o7 k7))
          have hnew : Hid (RowF w7 wr.heap.size n (.slice (some ⟨g7, 0, none⟩) (k + 2) c7) (frmL l) ∧ Chg [] wr w7) := Lib.hid (by
            obtain ⟨b1, b2⟩ := HBT.out
            have h1 := HPu.out w7 g7 c7 (by show w7.ownsRow _ _ _ _ _ (xs ++ [_, _, _, _, .slice _ (tailB l).length _]); rw [tailB_length]; exact o7) k7 b1
            have e1 : frmL l = frmA l k ++ [(2, k, tailB l)] := by unfold frmL; rw [hl, ← HKn.out]
            refine ⟨by rw [e1]; exact h1, b2.trans k7 (fun x hx hl => ?_)⟩
            have h1 := (own_elem oB (show (Value.slice pv (k + 1) cv).ownBlock = some x by simpa using hx)).1
            omega)
          clear HPu HBT o7 k7 oB yB
          go_wp2_with fail
          have hF288 : (encS n l).length ≤ 288 := by rw [encS_length]; unfold nCh; omega
          have hFk : (encS n l).length = k + 2 := by rw [encS_length, hl, ← HKn.out]
          have hfl : (frmL l).length = k + 2 := by rw [frmL_length, hl, ← HKn.out]
          have HF := Lib.hid (And.intro hF288 (And.intro hFk hfl))
          clear hF288 hFk hfl m1 m2
          have HDv : Hid ((∃ ops1 vs1 gs1, (ops ≤ ops1 ∧ ops1 ≤ ops + 3 + (0 : Nat)) ∧ DevG w7 base N A c ops1 Z vs1 gs1 (putF zs a (encS n l) 0)) ∧ Dc lw w w7) := Lib.hid (by
            obtain ⟨hd, ho, hdc⟩ := HW.out
            refine ⟨⟨ops', vs', gs', by have := HE3.out; omega, ?_⟩, hdc.trans (Dc.of0 hnew.out.2)⟩
            rw [putF_zero, ← HE3.out]
            exact hd.keep hnew.out.2 (Av.nil _ _))
          clear HW
          go_loopw [15, 16, 17, 18, 90] (fun _ _ _ _ ix wy => ∃ q : Nat, q ≤ k + 2 ∧ ix = .int .i64 q ∧ RowF wy wr.heap.size n (.slice (some ⟨g7, 0, none⟩) (k + 2) c7) (frmL l) ∧ (∃ ops1 vs1 gs1, (ops ≤ ops1 ∧ ops1 ≤ ops + 3 + q) ∧ DevG wy base N A c ops1 Z vs1 gs1 (putF zs a (encS n l) q)) ∧ Dc lw w wy) (fun _ _ _ _ ix _ => k + 2 - (intOf ix).toNat)
          case atStart => exact ⟨0, Nat.zero_le _, rfl, hnew.out.1, HDv.out.1, HDv.out.2⟩
          case round =>
            obtain ⟨q, hq, rfl, hrw, ⟨ops1, vs1, gs1, hop, hd⟩, hdc⟩ := hrel
            rename World => wy
            by_cases hqk : q < k + 2
            · have hqf : q < (frmL l).length := by rw [HF.out.2.2]; exact hqk
              have hqe : q < (encS n l).length := by rw [HF.out.2.1]; exact hqk
              obtain ⟨g8, c8, pb, cb, ev, hc8, hgb, r0, r1, r2, r3, r4, hbb⟩ := hrw.get q hqf
              rw [HF.out.2.2] at ev hc8
              cases ev
              have hok := frmL_ok (l := l) (by omega) _ (List.getElem_mem hqf)
              have heq := encS_get (n := n) hqf hqe
              obtain ⟨kd, lb, bd, hf⟩ : ∃ kd lb bd, (frmL l)[q] = (kd, lb, bd) := ⟨_, _, _, rfl⟩
              rw [hf] at r0 r3 r4 hbb hok heq
              have kB : Chg [] wy (wy.alloc (.cells #[.int .i64 kd, .int .i64 0, .int .i64 n, .int .i64 lb, .slice pb bd.length cb] 176)) := Chg.alloc wy _
              have yB := heap_new wy (.cells #[.int .i64 kd, .int .i64 0, .int .i64 n, .int .i64 lb, .slice pb bd.length cb] 176)
              have m1 : decide ((q : Int) < ((k : Int) + 2)) = true := decide_eq_true (by omega)
              have m1' : decide ((q : Int) < ((k + 2 : Nat) : Int)) = true := decide_eq_true (by omega)
              have hS2 := hdc.heap HS.out (by decide)
              have HDd := Lib.hid (And.intro (hrw.keep kB (Av.nil _ _)) (And.intro (hd.keep kB (Av.nil _ _)) (And.intro (hdc.trans (Dc.of0 kB)) (And.intro hop heq))))
              have HEn := Lib.hid (fencode_any (wy.alloc (.cells #[.int .i64 kd, .int .i64 0, .int .i64 n, .int .i64 lb, .slice pb bd.length cb] 176)) (kind := kd) (epoch := 0) (seq := n) (lba := lb) (c := cb) (pa := pb) (body := bd) hok.1.1 (by have := hok.1.2; show kd ≤ 4; have : kd ≤ 3 := hok.1.2; omega) (by decide) hn (by have : lb ≤ 1000 := hok.2.1; omega) rfl hok.2.2 (hbb.bs.chg kB))
              have d0 := cell_is yB 0 rfl
              have d1 := cell_is yB 1 rfl
              have d2 := cell_is yB 2 rfl
              have d3 := cell_is yB 3 rfl
              have d4 := cell_is yB 4 rfl
              have HS2 := Lib.hid hS2
              have HOk := Lib.hid (show bd.length ≤ 40 from hok.2.2)
              clear hrw hd hdc hop hbb hgb heq hok hf kB yB hS2
              go_wp2_with fail
              refine HEn.out.mono ?_
              rintro e w8 ⟨g9, c9, rfl, k8, s8, b8, t8⟩
              have HX8 : Hid (RowF w8 wr.heap.size n (.slice (some ⟨g7, 0, none⟩) (k + 2) c7) (frmL l) ∧ DevG w8 base N A c ops1 Z vs1 gs1 (putF zs a (encS n l) q) ∧ Dc lw w w8 ∧ SlotG w8 S N inn tv cnt) := Lib.hid ⟨HDd.out.1.keep k8 (Av.nil _ _), HDd.out.2.1.keep k8 (Av.nil _ _), HDd.out.2.2.1.trans (Dc.of0 k8), (HDd.out.2.2.1.trans (Dc.of0 k8)).heap HS.out (by decide)⟩
              obtain ⟨qz, hqz⟩ : ∃ qz, qz = q / 96 := ⟨_, rfl⟩
              obtain ⟨zz, hzz⟩ : ∃ zz, zz = a + qz := ⟨_, rfl⟩
              have hz8 : zz < Z.length := by
                have := HI.out
                have h2 := HF.out.1
                rw [HF.out.2.1] at h2
                omega
              have hdd := HX8.out.2.1.keep (Chg.refl [] w8).drew (Av.nil _ _)
              have hzr : (putF zs a (encS n l) q zz).length < 96 := by
                rw [hzz, hqz, putF_len hqe HF.out.1]
                omega
              have HAp := Lib.hid (dappend_any w8.drew (cd := c9) hdd (by have := HDd.out.2.2.2.1; omega) (by have := HDd.out.2.2.2.1; have h2 := HF.out.1; rw [HF.out.2.1] at h2; omega) zz hz8 hzr (b8.chg (Chg.refl [] w8).drew) (encF_length kd 0 n lb bd HOk.out) (fun g hg => by subst hg; obtain ⟨cs, hh⟩ := t8; exact heap_ne hh HX8.out.2.1.hdr (by simp)) HB.out.2.2.2)
              have e0 : w8.cell? ⟨S, 0, none⟩ = some (.pointer (some ⟨N, 0, none⟩)) := cell_is HX8.out.2.2.2 0 rfl
              have e4 : w8.cell? ⟨S, 4, none⟩ = some (.int .i64 96) := cell_is HX8.out.2.2.2 4 rfl
              have eA : w8.cell? ⟨S, 1 + i, none⟩ = some (.int .i64 a) := by
                rcases HI.out with ⟨rfl, rfl⟩ | ⟨rfl, rfl⟩
                · exact cell_is HX8.out.2.2.2 1 rfl
                · exact cell_is HX8.out.2.2.2 2 rfl
              have q1 : (q : Int).tdiv 96 = (qz : Int) := by rw [Int.tdiv_eq_ediv_of_nonneg (by omega)]; omega
              have q3 : IntKind.i64.wrap ((a : Int) + (qz : Int)) = (zz : Int) := by rw [IntKind.wrap_i64]; omega
              have q2 : IntKind.i64.wrap (qz : Int) = (qz : Int) := by rw [IntKind.wrap_i64]; omega
              have hqz6 : qz ≤ 6 := by omega
              have HZz := Lib.hid (And.intro (show zz = a + q / 96 by omega) hz8)
              have hUt : ∀ y ∈ N :: Z[zz] :: (vs1 zz).ownBlock.toList, y = N ∨ y ∈ Z ∨ ∃ j, j < 8 ∧ (vs1 j).ownBlock = some y := fun y hy => by
                rcases List.mem_cons.1 hy with h | hy
                · exact Or.inl h
                · rcases List.mem_cons.1 hy with h | hy
                  · exact Or.inr (Or.inl (h ▸ List.getElem_mem hz8))
                  · exact Or.inr (Or.inr ⟨zz, by omega, by simpa using hy⟩)
              have HUt := Lib.hid hUt
              have kdr := (Chg.refl [] w8).drew.mono (T := N :: Z[zz] :: (vs1 zz).ownBlock.toList) (fun x hx _ => by cases hx)
              have hnS : S ∉ N :: Z[zz] :: (vs1 zz).ownBlock.toList := fun hm => by
                rcases hUt S hm with rfl | h2 | ⟨j, hj, h2⟩
                · exact heap_ne HX8.out.2.2.2 HX8.out.2.1.hdr (by simp) rfl
                · obtain ⟨y, hy, rfl⟩ := List.getElem_of_mem h2
                  exact heap_ne HX8.out.2.2.2 (HX8.out.2.1.zone y hy) (by simp) rfl
                · obtain ⟨cs, hh⟩ := (HX8.out.2.1.rows j hj).block S h2
                  exact heap_ne HX8.out.2.2.2 hh (by simp) rfl
              have HnS := Lib.hid hnS
              clear hdd s8 b8 t8 HEn hzr hqz hzz hUt hnS
              go_wp2_with fail
              go_region_held3 (fun wx => wx.cell? ⟨S, 0, none⟩ = some (.pointer (some ⟨N, 0, none⟩)) ∧ wx.cell? ⟨S, 1 + i, none⟩ = some (.int .i64 a) ∧ wx.cell? ⟨S, 4, none⟩ = some (.int .i64 96))
                (first
                  | (exact ⟨e0, eA, e4⟩)
                  | (exact ⟨kc.cell e0 HnS.out, kc.cell eA HnS.out, kc.cell e4 HnS.out⟩))
                (first
                  | (go_at_call 90; refine HAp.out.mono ?_; rintro e w9 ⟨v', rfl, kc', dc, -⟩; have kc := kdr.then kc'))
              have hnw : Hid (RowF w9 wr.heap.size n (.slice (some ⟨g7, 0, none⟩) (k + 2) c7) (frmL l) ∧ (∃ ops2 vs2 gs2, (ops ≤ ops2 ∧ ops2 ≤ ops + 3 + (q + 1 : Nat)) ∧ DevG w9 base N A c ops2 Z vs2 gs2 (putF zs a (encS n l) (q + 1))) ∧ Dc lw w w9) := Lib.hid (by
                have dc2 : DevG w9 base N A c (ops1 + 1) Z (upF vs1 zz v') gs1 (putF zs a (encS n l) (q + 1)) := by
                  rw [← putF_succ hqe HF.out.1, ← HZz.out.1, HDd.out.2.2.2.2]
                  exact dc
                refine ⟨HX8.out.1.keep kc (fun x hx cs t fr hh hm => ?_), ⟨ops1 + 1, _, _, by have := HDd.out.2.2.2.1; omega, dc2⟩, HX8.out.2.2.1.trans (Dc.dev HX8.out.2.1 kc HB.out.1 HB.out.2.1 HB.out.2.2.1 HUt.out)⟩
                · rcases HUt.out x hx with rfl | h2 | ⟨j, hj, h2⟩
                  · rw [HX8.out.2.1.hdr] at hh; cases hh; simp at hm
                  · obtain ⟨y, hy, rfl⟩ := List.getElem_of_mem h2
                    rw [HX8.out.2.1.zone y hy] at hh; cases hh; simp at hm
                  · obtain ⟨cs2, h3⟩ := (HX8.out.2.1.rows j hj).block x h2
                    rw [h3] at hh; cases hh; simp at hm)
              have hk288 : k + 2 ≤ 288 := by omega
              clear kc' kc dc HAp e0 e4 eA q1 q2 q3
              go_wp2_with fail
              exact ⟨⟨q + 1, by omega, by go_num, hnw.out⟩, by simp [intOf]; omega⟩
            · have hqe : q = k + 2 := by omega
              subst hqe
              have hS2 := hdc.heap HS.out (by decide)
              have e0 : wy.cell? ⟨S, 0, none⟩ = some (.pointer (some ⟨N, 0, none⟩)) := cell_is hS2 0 rfl
              have m1 : decide (((k + 2 : Nat) : Int) < ((k + 2 : Nat) : Int)) = false := decide_eq_false (by omega)
              have HFl := Lib.hid (dflush_any wy hd (by omega) (by omega))
              have HX := Lib.hid (And.intro hd (And.intro hop hdc))
              clear hrw hd hop hdc hS2
              go_wp2_with fail
              refine HFl.out.mono ?_
              rintro e w9 ⟨rfl, k9, d9⟩
              go_wp2_with fail
              go_ret
              obtain ⟨hd, hop, hdc⟩ := HX.out
              refine ⟨rfl, ops1 + 1, by omega, ⟨_, by rw [HF.out.2.1]; exact d9.good⟩, hdc.trans (Dc.dev hd k9 HB.out.1 HB.out.2.1 HB.out.2.2.1 (fun y hy => ?_))⟩
              rcases List.mem_cons.1 hy with h | h
              · exact Or.inl h
              · exact Or.inr (Or.inl h)
end Go.Proofs.YtnelakpdmjfolaaGreat
namespace Go.Proofs.YtnelakpdmjfolaaGreat
open Go.RowKit Go.Lib

/-- what a save leaves: the other slot has the text. -/
def SvR (w w' : World) (lw base S N A c : Nat) (Z : List Nat) (ops : Int) (zs : Nat → List (List UInt8)) (ni : Int) (a cnt : Nat) (l : List UInt8) : Prop :=
  ∃ ops' tv', (ops ≤ ops' ∧ ops' ≤ ops + 300) ∧ DevZ w' base N A c ops' Z (putF zs a (encS (cnt + 1) l) (encS (cnt + 1) l).length) ∧ SlotG w' S N ni tv' (cnt + 1) ∧ TextAt w' tv' ∧
    ∃ U, Chg (S :: U) w w' ∧ Tp w U [60, 64, 38] ∧ ∀ x ∈ U, lw ≤ x
set_option maxRecDepth 100000 in
set_option maxHeartbeats 4000000 in
theorem slsave_any (w : World) {S N A c base lw o cp : Nat} {tv : Value} {cnt : Nat} {ops : Int} {Z : List Nat} {vs : Nat → Value} {gs : Nat → Nat} {zs : Nat → List (List UInt8)} {inn i a m D : Nat} {l : List UInt8}
    (hS : SlotG w S N inn tv cnt) (hd : DevG w base N A c ops Z vs gs zs) (h0 : 0 ≤ ops) (h1 : ops ≤ 900000) (hi : (inn = 1 ∧ i = 0 ∧ a = 0) ∨ (inn = 0 ∧ i = 1 ∧ a = 3)) (hn : cnt < 1099511627776) (hb : Bs w (some ⟨D, o, none⟩) l) (hbt : Bt w D) (hl : l.length = m) (hm0 : 0 < m) (hm : m ≤ 11440) (hlow : base ≤ N) (hlw : lw ≤ base) (hZ : ∀ z ∈ Z, lw ≤ z) (hcp : m ≤ cp) :
    Calls Tryz.prog 45 #[.pointer (some ⟨S, 0, none⟩), .slice (some ⟨D, o, none⟩) m cp] w fun e w' => e = .returned (.int .i64 0) ∧ SvR w w' lw base S N A c Z ops zs i a cnt l := by
  have c5 : w.cell? ⟨S, 5, none⟩ = some (.int .i64 inn) := cell_is hS 5 rfl
  have c7 : w.cell? ⟨S, 7, none⟩ = some (.int .i64 cnt) := cell_is hS 7 rfl
  have n1 : IntKind.i64.wrap (1 - (inn : Int)) = (i : Int) := by rw [IntKind.wrap_i64]; omega
  have n2 : IntKind.i64.wrap ((cnt : Int) + 1) = ((cnt + 1 : Nat) : Int) := by rw [IntKind.wrap_i64]; omega
  have n3 : decide (11440 < (m : Int)) = false := decide_eq_false (by omega)
  have kd : Chg [] w w.drew := (Chg.refl [] w).drew
  have HR := Lib.hid (sroom_any w hS)
  have HI := Lib.hid hi
  have HD := Lib.hid (And.intro hS (And.intro hd (And.intro hb hbt)))
  have HB := Lib.hid (And.intro hlow (And.intro hlw hZ))
  clear hi
  go_enter Tryz.func45, Tryz.ntmps45
  go_wp2_with fail
  refine HR.out.mono ?_
  rintro e w1 ⟨rfl, k1⟩
  have hS1 := k1.heap hS (by simp)
  have HDe := Lib.hid (sldead_any w1 hS1)
  have HW := Lib.hid (slwrite_any w1.drew (lw := lw) (k1.drew.heap hS (by simp)) (hd.keep k1.drew (Av.nil _ _)) h0 h1 (i := i) (a := a) (n := cnt + 1) (by rcases HI.out with ⟨_, h2, h3⟩ | ⟨_, h2, h3⟩; exact Or.inl ⟨h2, h3⟩; exact Or.inr ⟨h2, h3⟩) (by omega) (hb.chg k1.drew) (Bt.keep hbt k1.drew (by simp)) hl (by omega) hlow hlw hZ hcp)
  have e5 : w1.cell? ⟨S, 5, none⟩ = some (.int .i64 inn) := cell_is hS1 5 rfl
  have e7 : w1.cell? ⟨S, 7, none⟩ = some (.int .i64 cnt) := cell_is hS1 7 rfl
  have HK := Lib.hid k1
  clear hS hd hb hbt hZ k1 hS1 c5 c7 kd HR
  go_wp2_with fail
  refine HDe.out.mono ?_
  rintro e w2 ⟨rfl, rfl⟩
  go_wp2_with fail
  go_still_tail 12, (by kernel_rfl)
  change wpList _ _ _ _ _ w1.drew
  have e5d : w1.drew.cell? ⟨S, 5, none⟩ = some (.int .i64 inn) := e5
  have e7d : w1.drew.cell? ⟨S, 7, none⟩ = some (.int .i64 cnt) := e7
  have HKd := Lib.hid (HK.out.drew)
  generalize w1.drew = w2 at *
  go_wp2_with fail
  refine HW.out.mono ?_
  rintro e w3 ⟨rfl, ops', hop, ⟨vs3, hd3⟩, hdc⟩
  obtain ⟨hS, hd, hb, hbt⟩ := HD.out
  have hS2 := HKd.out.heap hS (by simp)
  have hS3 : SlotG w3 S N inn tv cnt := hdc.heap hS2 (by decide)
  have hb3 : Bs w3 (some ⟨D, o, none⟩) l := by
    obtain ⟨U, u1, u2, -⟩ := hdc
    have hb2 := Bt.keep hbt HKd.out (by simp)
    have hn : D ∉ U := fun hm => by
      obtain ⟨cs, hh⟩ := hb2
      obtain ⟨cs2, t2, e1, e2⟩ := u2 D hm
      rw [hh] at e1
      cases e1
      revert e2
      decide
    exact (hb.chg HKd.out).chgT u1 hn
  have HC := Lib.hid (clone_bt w3.drew (c := cp) hl hm0 (by omega) (hb3.chg (Chg.refl [] w3).drew))
  have f5 : w3.cell? ⟨S, 5, none⟩ = some (.int .i64 inn) := cell_is hS3 5 rfl
  have f7 : w3.cell? ⟨S, 7, none⟩ = some (.int .i64 cnt) := cell_is hS3 7 rfl
  have HX := Lib.hid (And.intro hop (And.intro hd3 (And.intro hdc hS3)))
  clear hS hd hb hbt hS2 hS3 hb3 hd3 hdc e5 e7 e5d e7d HW HDe
  go_upto_region 9 with fail
  have f5d : w3.drew.cell? ⟨S, 5, none⟩ = some (.int .i64 inn) := f5
  have f7d : w3.drew.cell? ⟨S, 7, none⟩ = some (.int .i64 cnt) := f7
  have HSd : Hid (SlotG w3.drew S N inn tv cnt) := Lib.hid HX.out.2.2.2
  go_region_law
    (first
      | (go_simp; go_at_call 65; refine HC.out.mono ?_; rintro e wa ⟨g4, c4, rfl, k4, b4, s4, t4⟩
         have ya := k4.heap HSd.out (by simp)
         have y1 := heap_set ya 5 (.int .i64 i) rfl
         have y2 := heap_set y1 6 (.slice (some ⟨g4, 0, none⟩) m c4) rfl
         have a5 := cell_is ya 5 rfl
         have a7 := cell_is ya 7 rfl
         have a6 := cell_is ya 6 rfl
         have u5 := unfrozen ya 5
         have a17 := cell_is y1 7 rfl
         have a16 := cell_is y1 6 rfl
         have u16 := unfrozen y1 6
         have a27 := cell_is y2 7 rfl
         have u27 := unfrozen y2 7))
  all_goals
    have y3 := heap_set y2 7 (.int .i64 ((cnt : Int) + 1)) rfl
    have kz : Chg [S] wa (((wa.setCell ⟨S, 5, none⟩ (.int .i64 i)).setCell ⟨S, 6, none⟩ (.slice (some ⟨g4, 0, none⟩) m c4)).setCell ⟨S, 7, none⟩ (.int .i64 ((cnt : Int) + 1))) := ((Chg.set _ _ _ _).then (Chg.set _ _ _ _)).then (Chg.set _ _ _ _)
    have HZ := Lib.hid (And.intro y3 (And.intro kz (And.intro k4 (And.intro b4 t4))))
    clear ya y1 y2 a5 a7 a6 u5 a17 a16 u16 a27 u27 y3 kz k4 b4 s4 t4
    generalize ((wa.setCell ⟨S, 5, none⟩ (.int .i64 i)).setCell ⟨S, 6, none⟩ (.slice (some ⟨g4, 0, none⟩) m c4)).setCell ⟨S, 7, none⟩ (.int .i64 ((cnt : Int) + 1)) = w5 at *
    go_wp2_with fail
    go_ret
    obtain ⟨y3, kz, k4, b4, t4⟩ := HZ.out
    obtain ⟨hop, hd3, hdc, hS3⟩ := HX.out
    obtain ⟨hlow, hlw, hZ⟩ := HB.out
    have k35 : Chg [S] w3 w5 := ((Chg.refl [] w3).drew.mono (fun x hx _ => by cases hx)).then ((k4.mono (fun x hx _ => by cases hx)).then kz)
    have hS : Tp w3 [S] [113] := fun x hx => by
      rw [List.mem_singleton] at hx
      subst hx
      exact ⟨_, _, hS3, by simp⟩
    have hgS : g4 ∉ [S] := by
      intro hm
      rw [List.mem_singleton] at hm
      subst hm
      obtain ⟨cs, hh⟩ := t4
      have h2 : wa.heap[g4]? = _ := k4.heap (show w3.drew.heap[g4]? = _ from hS3) (by simp)
      rw [h2] at hh
      cases hh
    refine ⟨rfl, ops', .slice (some ⟨g4, 0, none⟩) m c4, hop, ⟨vs3, hd3.keep k35 (hS.av (by decide))⟩, y3, Or.inr ⟨g4, c4, m, l, rfl, hl, hm0, (by omega), b4.chgT kz hgS, Bt.keep t4 kz hgS⟩, ?_⟩
    obtain ⟨U, u1, u2, u3⟩ := hdc
    have hk12 : Chg [] w w2 := HKd.out
    refine ⟨U.filter (fun x => decide (x < w.heap.size)), ?_, fun x hx => ?_, fun x hx => u3 x (List.mem_filter.1 hx).1⟩
    · refine ((hk12.mono (fun x hx _ => by cases hx)).trans u1 (fun x hx hl => ?_)).trans k35 (fun x hx hl => ?_)
      · exact List.mem_cons_of_mem _ (List.mem_filter.2 ⟨hx, by simpa using hl⟩)
      · rw [List.mem_singleton] at hx
        rw [hx]
        exact List.mem_cons_self
    · obtain ⟨h1, h2⟩ := List.mem_filter.1 hx
      have hl : x < w.heap.size := by simpa using h2
      obtain ⟨cs, t, e1, e2⟩ := u2 x h1
      have ho : w.heap[x]? = some w.heap[x] := Array.getElem?_eq_getElem hl
      have h3 := hk12.heap ho (by simp)
      rw [h3] at e1
      exact ⟨cs, t, by rw [ho]; exact e1, e2⟩
end Go.Proofs.YtnelakpdmjfolaaGreat
namespace Go.Proofs.YtnelakpdmjfolaaGreat
open Go.RowKit Go.Lib

theorem BufD.keepA {w w' : World} {U : List Nat} {L : List (Int × Value)} {D : Int → List UInt8} (h : BufD w L D) (hc : Chg U w w') (hU : Av w U [5]) : BufD w' L D := fun k v hv => by
  obtain ⟨g, c, h1, h2, h3, h4⟩ := h k v hv
  have hn : g ∉ U := Bt.av h4 hU (by simp)
  exact ⟨g, c, h1, h2.chgT hc hn, h3, Bt.keep h4 hc hn⟩
theorem Cd.av {lo M T rb X rx : Nat} {w : World} {S ts : List Nat} {csM csT csX : Array Value} {L1 L2 : List (Int × Value)} (hS : ∀ x ∈ S, x < w.heap.size → x = M ∨ x = T ∨ x = rb ∨ x = X ∨ x = rx ∨ (lo ≤ x ∧ ∃ cs, w.heap[x]? = some (.cells cs 196 (0, 0))))
    (hM : w.heap[M]? = some (.cells csM 136 (0, 0))) (hT : w.heap[T]? = some (.cells csT 149 (0, 0))) (hX : w.heap[X]? = some (.cells csX 186 (0, 0))) (h1 : MapAt w rb L1) (h2 : MapAt w rx L2) (h : ∀ t ∈ ts, t ∉ [136, 149, 186, 196]) : Av w S ts := by
  intro x hx cs t fr hh ht
  have hn := h t ht
  rcases hS x hx (heap_lt hh) with rfl | rfl | rfl | rfl | rfl | ⟨-, cs2, h3⟩
  · rw [hM] at hh; cases hh; exact hn (by simp)
  · rw [hT] at hh; cases hh; exact hn (by simp)
  · exact map_cells h1 hh rfl
  · rw [hX] at hh; cases hh; exact hn (by simp)
  · exact map_cells h2 hh rfl
  · rw [h3] at hh; cases hh; exact hn (by simp)
theorem Cs.of_cd {lw lo M T rb X rx : Nat} {w w' : World} {csM csT csX : Array Value} {L1 L2 : List (Int × Value)} (h : Cd lo M T rb X rx w w')
    (hM : w.heap[M]? = some (.cells csM 136 (0, 0))) (hT : w.heap[T]? = some (.cells csT 149 (0, 0))) (hX : w.heap[X]? = some (.cells csX 186 (0, 0))) (h1 : MapAt w rb L1) (h2 : MapAt w rx L2) (hb : lw ≤ lo ∧ lw ≤ M ∧ lw ≤ T ∧ lw ≤ rb ∧ lw ≤ X ∧ lw ≤ rx) : Cs lw w w' := by
  obtain ⟨S, k1, k2⟩ := h
  refine ⟨S, k1, fun x hx hlt => ?_⟩
  obtain ⟨b1, b2, b3, b4, b5, b6⟩ := hb
  rcases k2 x hx hlt with rfl | rfl | rfl | rfl | rfl | ⟨hl, cs2, h3⟩
  · exact ⟨b2, fun cs t fr hh => by rw [hM] at hh; cases hh; simp⟩
  · exact ⟨b3, fun cs t fr hh => by rw [hT] at hh; cases hh; simp⟩
  · exact ⟨b4, fun cs t fr hh => absurd rfl (map_cells h1 hh)⟩
  · exact ⟨b5, fun cs t fr hh => by rw [hX] at hh; cases hh; simp⟩
  · exact ⟨b6, fun cs t fr hh => absurd rfl (map_cells h2 hh)⟩
  · exact ⟨by omega, fun cs t fr hh => by rw [h3] at hh; cases hh; simp⟩
/-- the blocks that a write of a batch changes. -/
theorem Sto.wtp {w : World} {lw : Nat} {d : Ids} {s : Gs} {g : Gd} (h : Sto w lw d s g) : Tp w (d.P :: d.N :: d.Z ++ (g.dv 6).ownBlock.toList) [72, 60, 64, 38] ∧ ∀ x ∈ d.P :: d.N :: d.Z ++ (g.dv 6).ownBlock.toList, lw ≤ x := by
  have hb := h.bnd
  refine ⟨fun x hx => ?_, fun x hx => ?_⟩
  · simp only [List.cons_append, List.mem_cons, List.mem_append] at hx
    rcases hx with rfl | rfl | hx | hx
    · exact ⟨_, _, h.store, by simp⟩
    · exact ⟨_, _, h.dev.hdr, by simp⟩
    · obtain ⟨i, hi, rfl⟩ := List.getElem_of_mem hx
      exact ⟨_, _, h.dev.zone i hi, by simp⟩
    · obtain ⟨cs, hh⟩ := (h.dev.rows 6 (by omega)).block x (by simpa using hx)
      exact ⟨_, _, hh, by simp⟩
  · simp only [List.cons_append, List.mem_cons, List.mem_append] at hx
    rcases hx with rfl | rfl | hx | hx
    · omega
    · omega
    · exact h.bndZ x hx
    · obtain ⟨xs, ho, -⟩ := h.dev.rows 6 (by omega)
      have := (own_elem ho (show (g.dv 6).ownBlock = some x by simpa using hx)).1
      omega
/-- what a transaction that waits holds beside the store. -/
structure Wtx (w : World) (d : Ids) (s : Gs) (gq cq : Nat) (hdl : Int) (k : Nat) (t t0 : Int) (L : List (Int × Value)) (D : Int → List UInt8) : Prop where
  qv : s.qv = .slice (some ⟨gq, 0, none⟩) 1 cq
  cq : 1 ≤ cq
  q : ∃ cs, w.heap[gq]? = some (.cells cs 3 (0, 0)) ∧ cs[0]? = some (.int .i64 hdl)
  tab : getL s.Lr hdl = some (.pointer (some ⟨d.T, 0, none⟩))
  tx : TxW w d.T d.W d.Q k t
  buf : BufAt w d.W d.rw L
  bd : BufD w L D
  bk : ∀ x ∈ L, 0 ≤ x.1 ∧ x.1 < 258
  len0 : 0 < L.length
  len : L.length ≤ 16
  book : getL s.Lb hdl = some (.int .i64 t0)
theorem Wtx.keepA {w w' : World} {U : List Nat} {d : Ids} {s : Gs} {gq cq : Nat} {hdl : Int} {k : Nat} {t t0 : Int} {L : List (Int × Value)} {D : Int → List UInt8} (h : Wtx w d s gq cq hdl k t t0 L D) (hc : Chg U w w') (hU : Av w U [3, 149, 199, 5]) (hr : d.rw ∉ U) : Wtx w' d s gq cq hdl k t t0 L D := by
  obtain ⟨cs, q1, q2⟩ := h.q
  exact ⟨h.qv, h.cq, ⟨cs, hc.heap q1 (hU.ne q1 (by simp)), q2⟩, h.tab, hc.heap h.tx (hU.ne h.tx (by simp)), h.buf.keep hc (hU.ne h.buf.1 (by simp)) hr, h.bd.keepA hc (fun x hx cs t fr hh ht => hU x hx cs t fr hh (by simp at ht; simp [ht])), h.bk, h.len0, h.len, h.book⟩
theorem Wtx.keep {w w' : World} {d : Ids} {s : Gs} {gq cq : Nat} {hdl : Int} {k : Nat} {t t0 : Int} {L : List (Int × Value)} {D : Int → List UInt8} (h : Wtx w d s gq cq hdl k t t0 L D) (hc : Chg [] w w') : Wtx w' d s gq cq hdl k t t0 L D := h.keepA hc (Av.nil _ _) (by simp)
/-- the manager behind a batch. -/
def doneS (s : Gs) (z : Nat) (k : Nat) (hdl : Int) (Lv' : List (Int × Value)) (l : List (Int × List UInt8)) : Gs :=
  { s with qv := .slice (some ⟨z, 0, none⟩) 0 0, out := 0, num := s.num + 1, last := k, lastv := k, Lv := Lv', vs := applyV s.vs k l, Lb := delL s.Lb hdl }
/-- the log behind a batch. -/
def doneG (g : Gd) (v6 : Value) (k : Nat) (l : List (Int × List UInt8)) : Gd :=
  { g with pos := g.pos + l.length + 1, num := g.num + 1, ops := g.ops + l.length + 2, dv := upF g.dv 6 v6, gs := goodF g.gs (upF g.zs 6 (g.zs 6 ++ batL g.cnt (g.num + 1) k l)) 8, zs := upF g.zs 6 (g.zs 6 ++ batL g.cnt (g.num + 1) k l) }
/-- what a flush of one transaction leaves. -/
def FlushR (w w' : World) (lw : Nat) (d : Ids) (s : Gs) (g : Gd) (k : Nat) (hdl : Int) (l : List (Int × List UInt8)) : Prop :=
  ∃ z Lv' v6, Sto w' lw d (doneS s z k hdl Lv' l) (doneG g v6 k l) ∧ Cs lw w w' ∧ w'.ownsRow lw 3 1 (.slice (some ⟨z, 0, none⟩) 0 0) 0 []
set_option maxRecDepth 100000 in
set_option maxHeartbeats 4000000 in
theorem sflush_ok (w : World) {lw : Nat} {d : Ids} {s : Gs} {g : Gd} {gq cq : Nat} {hdl : Int} {k : Nat} {t t0 : Int} {L : List (Int × Value)} {D : Int → List UInt8} (h : Sto w lw d s g) (hw : Wtx w d s gq cq hdl k t t0 L D) (hout : s.out = 0) (hT : lw ≤ d.T) (hlw : lw ≤ w.heap.size)
    (hk0 : 1 ≤ k) (hlast : s.lastv < k) (hk1 : k ≤ 1099511627776) (hs : ∀ c, (s.vs c).length + 16 < 1000000) (hn0 : 0 ≤ s.num) (hn1 : s.num ≤ 100000000) (hroom : (g.zs 6).length + L.length + 1 ≤ 96) (hpos : g.pos + L.length + 1 ≤ 96) (ho0 : 0 ≤ g.ops) (ho1 : g.ops ≤ 900000) (hcnt : g.cnt < 4294967296) (hnum : g.num < 1000000000) :
    Calls Tryz.prog 14 #[.pointer (some ⟨d.P, 0, none⟩)] w fun e w' => e = .returned (.int .i64 0) ∧ FlushR w w' lw d s g k hdl (putsL L D) := by
  have HD := Lib.hid (dead_g w h.store)
  have p5 : w.cell? ⟨d.P, 5, none⟩ = some (.pointer (some ⟨d.M, 0, none⟩)) := cell_is h.store 5 rfl
  have hm := h.mx.mgr
  rw [hw.qv, hout] at hm
  obtain ⟨cs, hq1, hq2⟩ := hw.q
  have hpl : (putsL L D).length = L.length := putsL_length L D
  have HB := Lib.hid (tbatch_one w (k := k) (l := putsL L D) hm (by have := hw.len; omega) hn0 (by omega) (fun w1 k1 => waiting_one w1 (k1.heap hm (by simp)) (k1.cell (cell_is hq1 0 hq2) (by simp)) (h.mx.map.keep k1 (by simp)) hw.tab (k1.heap hw.tx (by simp)) (hw.buf.keep k1 (by simp) (by simp)) (hw.bd.keep k1) hw.bk (by have := hw.len; omega)))
  have HS := Lib.hid h
  have HW := Lib.hid hw
  have HO := Lib.hid hout
  have HQv := Lib.hid hw.qv
  clear h hw hm hout hq1 hq2
  go_enter Tryz.func14, Tryz.ntmps14
  go_wp2_with fail
  refine HD.out.mono ?_
  rintro e w1 ⟨rfl, rfl⟩
  go_wp2_with fail
  refine HB.out.mono ?_
  rintro e w1 ⟨gt, ct, rfl, k1, hm1, ht1⟩
  have hS := HS.out
  have avM : ∀ ts, 136 ∉ ts → Av w [d.M] ts := fun ts h1 => Av.row hS.mx.mgr h1
  have nmM : ∀ {x L}, MapAt w x L → x ∉ [d.M] := fun hm => by simpa using map_cells hm hS.mx.mgr
  have S1 : Sto w1 lw d { s with out := 1 } g :=
    ⟨k1.heap hS.store ((avM [72] (by decide)).ne hS.store (by simp)), k1.heap hS.slot ((avM [113] (by decide)).ne hS.slot (by simp)), hS.text.keep k1 (avM _ (by decide)), hS.dev.keep k1 (avM _ (by decide)),
      hS.mx.chgM k1 (by rw [HQv.out]; exact hm1) rfl rfl rfl rfl rfl rfl rfl, hS.ap, hS.keys, hS.bnd, hS.bndZ, Nat.le_trans hS.slo k1.size, hS.dlo⟩
  have W1 := HW.out.keepA k1 (avM _ (by decide)) (nmM HW.out.buf.2)
  have c1 : Cs lw w w1 := Cs.of_tp (ts := [136]) k1 (fun x hx => by rw [List.mem_singleton] at hx; subst hx; exact ⟨_, _, hS.mx.mgr, by simp⟩) (by decide) (fun x hx => by rw [List.mem_singleton] at hx; subst hx; exact hS.bnd.2.2.2.1)
  have ka : Chg [] w1 (w1.alloc (.cells #[.int .i64 (s.num + 1), .slice (some ⟨gt, 0, none⟩) 1 ct] 94)) := Chg.alloc w1 _
  have A0 := heap_new w1 (.cells #[.int .i64 (s.num + 1), .slice (some ⟨gt, 0, none⟩) 1 ct] 94)
  have S2 := S1.keep ka
  have W2 := W1.keep ka
  have c2 := c1.trans (Cs.of_chg ka)
  have ht2 := ht1.keep ka
  have h6 : 6 < d.Z.length := by have := S2.dev.len; omega
  have hl0 : 0 < (putsL L D).length := by have := HW.out.len0; omega
  have hl16 : (putsL L D).length ≤ 16 := by have := HW.out.len; omega
  have hwr := swrite_log _ (num0 := s.num + 1) S2.store (fun w' k' => load_g w' (k'.heap S2.slot (by simp)) (S2.text.keep k' (Av.nil _ _))) S2.dev ho0 ho1 S2.dlo ht2 hk0 hk1 hcnt (by omega) hl0 hl16 (rise_puts D HW.out.buf.2.nodup) (putsL_in D HW.out.bk) (by rw [hpl]; exact hroom) (by rw [hpl]; exact hpos) h6
  have HWr := Lib.hid hwr
  have q5 : w1.cell? ⟨d.P, 5, none⟩ = some (.pointer (some ⟨d.M, 0, none⟩)) := cell_is S1.store 5 rfl
  have HS2 := Lib.hid S2
  have HW2 := Lib.hid W2
  have HC2 := Lib.hid c2
  have Hpl := Lib.hid hpl
  clear hwr S1 S2 W1 W2 c1 c2 ht1 ht2 hm1 k1 ka hS avM nmM hroom hpos hl0 hl16 HB HD hpl hk0
  go_wp2_with fail
  generalize w1.alloc (.cells #[.int .i64 (s.num + 1), .slice (some ⟨gt, 0, none⟩) 1 ct] 94) = w2 at *
  refine HWr.out.mono ?_
  rintro e w3 ⟨rfl, k3, hP3, v6, hd3⟩
  have S2 := HS2.out
  have tp := S2.wtp.1
  have S3x : Mx w3 d.M d.X d.rx d.B d.rb d.r { s with out := 1 } := S2.mx.keepA k3 (tp.av (by decide)) (tp.map S2.mx.ver.m) (tp.map S2.mx.book.2) (tp.map S2.mx.map)
  have slot3 := k3.heap S2.slot ((tp.av (ts' := [113]) (by decide)).ne S2.slot (by simp))
  have text3 := S2.text.keep k3 (tp.av (by decide))
  have W3 := HW2.out.keepA k3 (tp.av (by decide)) (tp.map HW2.out.buf.2)
  have c3 := HC2.out.trans (Cs.of_tp k3 tp (by decide) S2.wtp.2)
  obtain ⟨cs, hq1, hq2⟩ := W3.q
  have hdn := tdone_ok w3 S3x (show ({ s with out := 1 } : Gs).qv = _ from W3.qv) W3.cq rfl (cell_is hq1 0 hq2) W3.tab W3.tx W3.buf W3.bd W3.bk W3.len0 W3.len S2.ap S2.keys (Nat.le_trans S2.slo k3.size) hlast (by omega) hs W3.book hn0 (by show s.num ≤ _; omega)
  have HDn := Lib.hid hdn
  have r5 : w3.cell? ⟨d.P, 5, none⟩ = some (.pointer (some ⟨d.M, 0, none⟩)) := cell_is hP3 5 rfl
  have HS3 := Lib.hid (And.intro S3x (And.intro slot3 (And.intro text3 (And.intro hP3 hd3))))
  have HW3 := Lib.hid W3
  have HC3 := Lib.hid c3
  clear hdn S2 tp S3x slot3 text3 hP3 hd3 W3 c3 hq1 hq2 k3 HWr HC2 HW2 q5
  go_wp2_with fail
  refine HDn.out.mono ?_
  rintro e w4 ⟨rfl, z, ⟨⟨Lv', hx4, hap4, hk4⟩, hcd, -⟩, o4⟩
  have hF : FlushR w w4 lw d s g k hdl (putsL L D) := by
    obtain ⟨hx3, slot3, text3, hP3, hd3⟩ := HS3.out
    have c4 := HC3.out.trans (Cs.of_cd hcd hx3.mgr HW3.out.tx hx3.ver.x hx3.book.2 hx3.ver.m (by
      have := HS.out.bnd
      exact ⟨this.2.2.2.2.2.2.2.2.2.1, this.2.2.2.1, hT, this.2.2.2.2.2.2.2.1, this.2.2.2.2.1, this.2.2.2.2.2.1⟩))
    obtain ⟨U, kU, hU⟩ := hcd
    have av : ∀ ts : List Nat, (∀ t ∈ ts, t ∉ [136, 149, 186, 196]) → Av w3 U ts := fun ts hts => Cd.av hU hx3.mgr HW3.out.tx hx3.ver.x hx3.book.2 hx3.ver.m hts
    refine ⟨z, Lv', v6, ⟨?_, kU.heap slot3 ((av [113] (by decide)).ne slot3 (by simp)), text3.keep kU (av _ (by decide)), hd3.keep kU (av _ (by decide)), hx4, hap4, hk4, HS.out.bnd, HS.out.bndZ, Nat.le_trans HS.out.slo c4.size, HS.out.dlo⟩, c4, ownsRow_low o4 (Nat.le_trans hlw HC3.out.size)⟩
    exact kU.heap hP3 ((av [72] (by decide)).ne hP3 (by simp))
  have HF := Lib.hid hF
  clear hF hx4 hap4 hk4 hcd o4 HDn HS3 HW3 HC3 r5
  go_wp2_with fail
  go_ret
  exact ⟨rfl, HF.out⟩
end Go.Proofs.YtnelakpdmjfolaaGreat
namespace Go.Proofs.YtnelakpdmjfolaaGreat
open Go.RowKit Go.Lib

/-- block N is a device of eight zones: zone j has the row vs j of the blocks zs j, of which gs j are for good. -/
structure DevK (w : World) (base N A c : Nat) (ops rds : Int) (Z : List Nat) (vs : Nat → Value) (gs : Nat → Nat) (zs : Nat → List (List UInt8)) : Prop where
  hdr : w.heap[N]? = some (.cells #[.int .i64 8, .int .i64 96, .slice (some ⟨A, 0, none⟩) 8 c, .int .i64 ops, .int .i64 rds, .bool false, .int .i64 0, .bool false] 60 (0, 0))
  cap : 8 ≤ c
  len : Z.length = 8
  tA : ∃ cs, w.heap[A]? = some (.cells cs 61 (0, 0))
  ptr : ∀ j (h : j < Z.length), w.cell? ⟨A, j, none⟩ = some (.pointer (some ⟨Z[j], 0, none⟩))
  zone : ∀ j (h : j < Z.length), w.heap[Z[j]]? = some (.cells #[vs j, .int .i64 (gs j : Nat)] 64 (0, 0))
  rows : ∀ j, j < 8 → RowsAt w base (vs j) (zs j)
  apart : ∀ i j g, i < 8 → j < 8 → i ≠ j → (vs i).ownBlock = some g → (vs j).ownBlock ≠ some g
  nodup : Z.Nodup
/-- .. when the blocks that change are none of a device's. -/
theorem DevK.keep {w w' : World} {T : List Nat} {base N A c : Nat} {ops rds : Int} {Z : List Nat} {vs : Nat → Value} {gs : Nat → Nat} {zs : Nat → List (List UInt8)} (h : DevK w base N A c ops rds Z vs gs zs) (hc : Chg T w w') (hT : Av w T [60, 61, 64, 38, 5]) : DevK w' base N A c ops rds Z vs gs zs := by
  have hA : A ∉ T := by
    obtain ⟨cs, hA⟩ := h.tA
    exact hT.ne hA (by simp)
  refine ⟨hc.heap h.hdr (hT.ne h.hdr (by simp)), h.cap, h.len, ?_, fun j hj => hc.cell (h.ptr j hj) hA, fun j hj => hc.heap (h.zone j hj) (hT.ne (h.zone j hj) (by simp)), fun j hj => (h.rows j hj).keep hc (fun x hx cs t fr hh ht => hT x hx cs t fr hh (by simp at ht; simp [ht])) (fun g hg => ?_), h.apart, h.nodup⟩
  · obtain ⟨cs, hA'⟩ := h.tA
    exact ⟨cs, hc.heap hA' hA⟩
  · obtain ⟨cs, hb⟩ := (h.rows j hj).block g hg
    exact hT.ne hb (by simp)
/-- a new device has read nothing. -/
theorem DevG.k {w : World} {base N A c : Nat} {ops : Int} {Z : List Nat} {vs : Nat → Value} {gs : Nat → Nat} {zs : Nat → List (List UInt8)} (h : DevG w base N A c ops Z vs gs zs) : DevK w base N A c ops 0 Z vs gs zs := ⟨h.hdr, h.cap, h.len, h.tA, h.ptr, h.zone, h.rows, h.apart, h.nodup⟩
set_option maxRecDepth 100000 in
theorem kgone (w : World) {base N A c : Nat} {ops rds : Int} {Z : List Nat} {vs : Nat → Value} {gs : Nat → Nat} {zs : Nat → List (List UInt8)} (h : DevK w base N A c ops rds Z vs gs zs) : Calls Tryz.prog 52 #[.pointer (some ⟨N, 0, none⟩)] w fun e w' => e = .returned (.bool false) ∧ w = w' := by
  have e2 : w.cell? ⟨N, 2, none⟩ = some (.slice (some ⟨A, 0, none⟩) 8 c) := cell_is h.hdr 2 rfl
  clear h
  go_enter Tryz.func52, Tryz.ntmps52
  go_wp2_with fail
  go_ret
  exact ⟨rfl, rfl⟩
set_option maxRecDepth 100000 in
theorem kat (w : World) {base N A c : Nat} {ops rds : Int} {Z : List Nat} {vs : Nat → Value} {gs : Nat → Nat} {zs : Nat → List (List UInt8)} (h : DevK w base N A c ops rds Z vs gs zs) (j : Nat) (hj : j < Z.length) : Calls Tryz.prog 97 #[.pointer (some ⟨N, 0, none⟩), .int .i64 j] w fun e w' => e = .returned (.pointer (some ⟨Z[j], 0, none⟩)) ∧ w = w' := by
  have HG := Lib.hid (kgone w h)
  have hc := h.cap
  have hz := h.len
  have e2 : w.cell? ⟨N, 2, none⟩ = some (.slice (some ⟨A, 0, none⟩) 8 c) := cell_is h.hdr 2 rfl
  have e3 := h.ptr j hj
  have hj8 : j < 8 := by omega
  clear h
  generalize Z[j] = z at *
  go_enter Tryz.func97, Tryz.ntmps97
  go_wp2_with fail
  refine HG.out.mono ?_
  rintro e w1 ⟨rfl, rfl⟩
  go_wp2_with fail
  go_ret
  exact ⟨rfl, rfl⟩
set_option maxRecDepth 100000 in
theorem kbegin (w : World) {base N A c : Nat} {ops rds : Int} {Z : List Nat} {vs : Nat → Value} {gs : Nat → Nat} {zs : Nat → List (List UInt8)} (h : DevK w base N A c ops rds Z vs gs zs) (h0 : 0 ≤ ops) (h1 : ops ≤ 1000000) : Calls Tryz.prog 98 #[.pointer (some ⟨N, 0, none⟩)] w fun e w' => e = .returned (.bool true) ∧ Chg [N] w w' ∧ DevK w' base N A c (ops + 1) rds Z vs gs zs := by
  have hfin : ∀ w', w' = (w.setCell ⟨N, 3, none⟩ (.int .i64 (ops + 1))).setCell ⟨N, 7, none⟩ (.bool false) → Chg [N] w w' ∧ DevK w' base N A c (ops + 1) rds Z vs gs zs := by
    rintro w' rfl
    have hc := (Chg.set w N 3 (.int .i64 (ops + 1))).then (Chg.set _ N 7 (.bool false))
    have hne : ∀ {g : Nat} {cs : Array Value} {t : TypeId}, w.heap[g]? = some (.cells cs t (0, 0)) → t ≠ 60 → g ∉ [N] := by
      intro g cs t hg ht hm
      rw [List.mem_singleton] at hm
      subst hm
      rw [h.hdr] at hg
      cases hg
      exact ht rfl
    obtain ⟨cA, hA⟩ := h.tA
    refine ⟨hc, heap_set (heap_set h.hdr 3 _ rfl) 7 _ rfl, h.cap, h.len, ⟨cA, hc.heap hA (hne hA (by decide))⟩, fun j hj => hc.cell (h.ptr j hj) (hne hA (by decide)), fun j hj => hc.heap (h.zone j hj) (hne (h.zone j hj) (by decide)), fun j hj => (h.rows j hj).keep hc (Av.row h.hdr (by simp)) (fun g hg => ?_), h.apart, h.nodup⟩
    obtain ⟨cs, hb⟩ := (h.rows j hj).block g hg
    exact hne hb (by decide)
  have e3 : w.cell? ⟨N, 3, none⟩ = some (.int .i64 ops) := cell_is h.hdr 3 rfl
  have e5 : w.cell? ⟨N, 5, none⟩ = some (.bool false) := cell_is h.hdr 5 rfl
  have e7 : w.cell? ⟨N, 7, none⟩ = some (.bool false) := cell_is h.hdr 7 rfl
  have f3 := unfrozen h.hdr 3
  have f7 := unfrozen h.hdr 7
  have HF := Lib.hid hfin
  clear h hfin
  go_enter Tryz.func98, Tryz.ntmps98
  go_wp2_with fail
  go_ret
  exact ⟨rfl, HF.out _ rfl⟩
/-- .. when what is for good of a zone is turned. -/
theorem DevK.setGood {w : World} {base N A c : Nat} {ops rds : Int} {Z : List Nat} {vs : Nat → Value} {gs : Nat → Nat} {zs : Nat → List (List UInt8)} (h : DevK w base N A c ops rds Z vs gs zs) {j : Nat} (hj : j < Z.length) (n : Nat) :
    DevK (w.setCell ⟨Z[j], 1, none⟩ (.int .i64 n)) base N A c ops rds Z vs (upF gs j n) zs := by
  have hc := Chg.set w Z[j] 1 (.int .i64 n)
  have hzj := h.zone j hj
  have ht : ∀ {g : Nat} {cs : Array Value} {t : TypeId}, w.heap[g]? = some (.cells cs t (0, 0)) → t ≠ 64 → g ∉ [Z[j]] := by
    intro g cs t hg h1 hm
    rw [List.mem_singleton] at hm
    subst hm
    rw [hzj] at hg; cases hg; exact h1 rfl
  obtain ⟨cA, hA⟩ := h.tA
  refine ⟨hc.heap h.hdr (ht h.hdr (by decide)), h.cap, h.len, ⟨cA, hc.heap hA (ht hA (by decide))⟩, fun k hk => hc.cell (h.ptr k hk) (ht hA (by decide)), fun k hk => ?_, fun k hk => (h.rows k hk).keep hc (Av.row hzj (by simp)) (fun g hg => ?_), h.apart, h.nodup⟩
  · by_cases hkj : k = j
    · subst hkj
      simpa [upF] using heap_set hzj 1 (.int .i64 n) rfl
    · simpa [upF, hkj] using hc.heap (h.zone k hk) (by simpa using nodup_ne h.nodup hk hj hkj)
  · obtain ⟨cs, hb⟩ := (h.rows k hk).block g hg
    exact ht hb (by decide)
set_option maxRecDepth 100000 in
set_option maxHeartbeats 1000000 in
theorem kflush (w : World) {base N A c : Nat} {ops rds : Int} {Z : List Nat} {vs : Nat → Value} {gs : Nat → Nat} {zs : Nat → List (List UInt8)} (h : DevK w base N A c ops rds Z vs gs zs) (h0 : 0 ≤ ops) (h1 : ops ≤ 1000000) : Calls Tryz.prog 64 #[.pointer (some ⟨N, 0, none⟩)] w fun e w' =>
    e = .returned (.int .i64 0) ∧ Chg (N :: Z) w w' ∧ DevK w' base N A c (ops + 1) rds Z vs (goodF gs zs 8) zs := by
  have HG := Lib.hid (kgone w h)
  have HB := Lib.hid (kbegin w h h0 h1)
  clear h
  go_enter Tryz.func64, Tryz.ntmps64
  go_wp2_with fail
  refine HG.out.mono ?_
  rintro e w1 ⟨rfl, rfl⟩
  go_wp2_with fail
  refine HB.out.mono ?_
  rintro e w1 ⟨rfl, hc1, h2⟩
  have hC1 : Chg (N :: Z) w w1 := hc1.mono (fun x hx _ => by rw [List.mem_singleton] at hx; simp [hx])
  have e2 : w1.cell? ⟨N, 2, none⟩ = some (.slice (some ⟨A, 0, none⟩) 8 c) := cell_is h2.hdr 2 rfl
  have hc8 := h2.cap
  have hg0 : goodF gs zs 0 = gs := by funext k; simp [goodF]
  rw [← hg0] at h2
  clear hc1 HG HB
  go_wp2_with fail
  go_loopw [17] (fun i wr => ∃ j : Nat, i = .int .i64 j ∧ j ≤ 8 ∧ DevK wr base N A c (ops + 1) rds Z vs (goodF gs zs j) zs ∧ Chg (N :: Z) w wr) (fun i _ => 8 - (intOf i).toNat)
  case atStart => exact ⟨0, rfl, by omega, h2, hC1⟩
  case round =>
    obtain ⟨j, rfl, hj, hD, hC⟩ := hrel
    by_cases hlt : j < 8
    · have hjz : j < Z.length := by have := hD.len; omega
      have hm : Z[j] ∈ Z := List.getElem_mem hjz
      obtain ⟨xs, ho, -⟩ := hD.rows j hlt
      obtain ⟨pa, cv, hv, -⟩ := own_form ho
      have hfin : ∀ w', w' = wr.setCell ⟨Z[j], 1, none⟩ (.int .i64 (zs j).length) → DevK w' base N A c (ops + 1) rds Z vs (goodF gs zs (j + 1)) zs ∧ Chg (N :: Z) w w' := by
        rintro w' rfl
        exact ⟨goodF_succ gs zs j ▸ hD.setGood hjz _, hC.then_set (fun _ => List.mem_cons_of_mem _ hm) _ _⟩
      have a0 := hD.ptr j hjz
      have k0 := hD.zone j hjz
      rw [hv] at k0
      have b0 : wr.cell? ⟨Z[j], 0, none⟩ = some (.slice pa (zs j).length cv) := cell_is k0 0 rfl
      have b1 : wr.cell? ⟨Z[j], 1, none⟩ = some (.int .i64 (goodF gs zs j j : Nat)) := cell_is k0 1 rfl
      have f1 := unfrozen k0 1
      have HF := Lib.hid hfin
      clear hfin hD hC k0 h2 hC1 e2 hm ho hv
      generalize Z[j] = z at *
      go_wp2_with fail
      go_roundw
      case rel => exact ⟨j + 1, by go_num, by omega, HF.out _ rfl⟩
      case measure => simp [intOf]; omega
    · obtain rfl : j = 8 := by omega
      go_wp2_with fail
      go_ret
      exact ⟨rfl, hC, hD⟩
set_option maxRecDepth 100000 in
set_option maxHeartbeats 1000000 in
theorem kpointer (w : World) {base N A c : Nat} {ops rds : Int} {Z : List Nat} {vs : Nat → Value} {gs : Nat → Nat} {zs : Nat → List (List UInt8)} (h : DevK w base N A c ops rds Z vs gs zs) (j : Nat) (hj : j < Z.length) :
    Calls Tryz.prog 47 #[.pointer (some ⟨N, 0, none⟩), .int .i64 j] w fun e w' => e = .returned (.tuple #[.int .i64 (zs j).length, .int .i64 0]) ∧ w = w' := by
  have HD := Lib.hid (kat w h j hj)
  obtain ⟨pa, cc, hv⟩ := (h.rows j (by have := h.len; omega)).len
  have z0 : w.cell? ⟨Z[j], 0, none⟩ = some (.slice pa (zs j).length cc) := by rw [← hv]; exact cell_is (h.zone j hj) 0 rfl
  clear h hv
  generalize Z[j] = z at *
  clear hj
  go_enter Tryz.func47, Tryz.ntmps47
  go_wp2_with fail
  refine HD.out.mono ?_
  rintro e w1 ⟨rfl, rfl⟩
  go_wp2_with fail
  go_ret2
  exact ⟨rfl, rfl⟩
theorem RowsAt.at2 {w : World} {base : Nat} {v : Value} {l : List (List UInt8)} (h : RowsAt w base v l) (k : Nat) (hk : k < l.length) : ∃ g cap gd cd, v = .slice (some ⟨g, 0, none⟩) l.length cap ∧ l.length ≤ cap ∧
    w.cell? ⟨g, k, none⟩ = some (.slice (some ⟨gd, 0, none⟩) 64 cd) ∧ Bs w (some ⟨gd, 0, none⟩) l[k] ∧ l[k].length = 64 ∧ (∃ cs, w.heap[g]? = some (.cells cs 38 (0, 0))) ∧ Bt w gd := by
  obtain ⟨xs, ho, hx⟩ := h
  obtain ⟨gd, cd, h1, h2, h3, h4⟩ := hx k hk
  rcases ho.2 with ⟨_, e⟩ | ⟨g, cap, cur, rfl, hA, hg, hc1, hc2, hc3, ht⟩
  · omega
  · refine ⟨g, cap, gd, cd, rfl, hc1, cell_is hg _ ?_, h2, h3, ⟨_, hg⟩, h4⟩
    rw [← ht, List.getElem?_take_of_lt (by omega), Array.getElem?_toList] at h1
    exact h1
theorem DevK.tick {w : World} {base N A c : Nat} {ops rds : Int} {Z : List Nat} {vs : Nat → Value} {gs : Nat → Nat} {zs : Nat → List (List UInt8)} (h : DevK w base N A c ops rds Z vs gs zs) (o' : Int) : DevK (w.setCell ⟨N, 4, none⟩ (.int .i64 o')) base N A c ops o' Z vs gs zs := by
  have k : Chg [N] w (w.setCell ⟨N, 4, none⟩ (.int .i64 o')) := (Chg.refl [N] w).then_set (fun _ => by simp) 4 _
  have av : Av w [N] [61, 64, 38, 5] := fun x hx cs t fr hh ht => by
    simp at hx
    subst hx
    rw [h.hdr] at hh
    cases hh
    simp at ht
  have hA : A ∉ [N] := by
    obtain ⟨cs, hA⟩ := h.tA
    exact av.ne hA (by simp)
  refine ⟨heap_set h.hdr 4 _ rfl, h.cap, h.len, ?_, fun j hj => k.cell (h.ptr j hj) hA, fun j hj => k.heap (h.zone j hj) (av.ne (h.zone j hj) (by simp)), fun j hj => (h.rows j hj).keep k (fun x hx cs t fr hh ht => av x hx cs t fr hh (by simp at ht; simp [ht])) (fun g hg => ?_), h.apart, h.nodup⟩
  · obtain ⟨cs, hA'⟩ := h.tA
    exact ⟨cs, k.heap hA' hA⟩
  · obtain ⟨cs, hb⟩ := (h.rows j hj).block g hg
    exact av.ne hb (by simp)
set_option maxRecDepth 100000 in
set_option maxHeartbeats 2000000 in
theorem kread (w : World) {base N A c : Nat} {ops rds : Int} {Z : List Nat} {vs : Nat → Value} {gs : Nat → Nat} {zs : Nat → List (List UInt8)} (h : DevK w base N A c ops rds Z vs gs zs) (ho0 : 0 ≤ rds) (ho1 : rds < 1099511627776) (j : Nat) (hj : j < Z.length) (i : Nat) (hi : i < (zs j).length) :
    Calls Tryz.prog 68 #[.pointer (some ⟨N, 0, none⟩), .int .i64 j, .int .i64 i] w fun e w' => ∃ g c', e = .returned (.tuple #[.slice (some ⟨g, 0, none⟩) 64 c', .int .i64 0]) ∧ Chg [N] w w' ∧ DevK w' base N A c ops (rds + 1) Z vs gs zs ∧ Bs w' (some ⟨g, 0, none⟩) (zs j)[i] ∧ w.heap.size ≤ g ∧ Bt w' g ∧ 64 ≤ c' := by
  have HD := Lib.hid (kat w h j hj)
  have hj8 : j < 8 := by have := h.len; omega
  obtain ⟨ga, ca, gd, cd, hv, hca, r0, hb, h64, hta, htd⟩ := (h.rows j hj8).at2 i hi
  have z0 : w.cell? ⟨Z[j], 0, none⟩ = some (.slice (some ⟨ga, 0, none⟩) (zs j).length ca) := by rw [← hv]; exact cell_is (h.zone j hj) 0 rfl
  have n3 : w.cell? ⟨N, 4, none⟩ = some (.int .i64 rds) := cell_is h.hdr 4 rfl
  have f3 := unfrozen h.hdr 4
  have hT := h.tick (rds + 1)
  have k : Chg [N] w (w.setCell ⟨N, 4, none⟩ (.int .i64 (rds + 1))) := (Chg.refl [N] w).then_set (fun _ => by simp) 4 _
  have hZN : Z[j] ≠ N := heap_ne (h.zone j hj) h.hdr (by simp)
  obtain ⟨ct, hta⟩ := hta
  have hgN : ga ≠ N := heap_ne hta h.hdr (by simp)
  obtain ⟨cu, htd⟩ := htd
  have hdN : gd ≠ N := heap_ne htd h.hdr (by simp)
  have z1 := k.cell z0 (by simpa using hZN)
  have r1 := k.cell r0 (by simpa using hgN)
  have HC := Lib.hid (clone_btc _ (D := gd) (o := 0) (c := cd) (m := 64) h64 (by decide) (by decide) (hb.chgT k (by simpa using hdN)))
  have HK := Lib.hid (And.intro hT (And.intro k k.size))
  clear h hta htd hb hT k hv hZN hgN hdN r0
  have hi0 : ¬ ((i : Int) < 0) := by omega
  generalize hrw : (zs j)[i] = row at *
  generalize Z[j] = z at *
  clear hj
  have hi0 : ¬ ((i : Int) < 0) := by omega
  have hi1 : (i : Int) < (zs j).length := by omega
  have hi2 : ¬ (((zs j).length : Int) ≤ i) := by omega
  clear hrw
  go_enter Tryz.func68, Tryz.ntmps68
  go_wp2_with fail
  refine HD.out.mono ?_
  rintro e w1 ⟨rfl, rfl⟩
  go_wp2_with fail
  refine HC.out.mono ?_
  rintro e w1 ⟨g, c', rfl, k1, b1, hg1, t1, hc64⟩
  have HR := Lib.hid (And.intro (HK.out.2.1.trans k1 (fun x hx => by cases hx)) (And.intro (HK.out.1.keep k1 (Av.nil _ _)) (And.intro b1 (And.intro (Nat.le_trans HK.out.2.2 hg1) (And.intro t1 hc64)))))
  clear k1 b1 hg1 t1 HK HC hc64
  go_wp2_with fail
  go_ret2
  exact ⟨g, c', rfl, HR.out⟩
end Go.Proofs.YtnelakpdmjfolaaGreat
namespace Go.Proofs.YtnelakpdmjfolaaGreat
open Go.RowKit Go.Lib

set_option maxRecDepth 100000 in
theorem kgeometry (w : World) {base N A c : Nat} {ops rds : Int} {Z : List Nat} {vs : Nat → Value} {gs : Nat → Nat} {zs : Nat → List (List UInt8)} (h : DevK w base N A c ops rds Z vs gs zs) : Calls Tryz.prog 24 #[.pointer (some ⟨N, 0, none⟩)] w fun e w' => e = .returned (.agg #[.int .i64 8, .int .i64 96]) ∧ Chg [] w w' := by
  go_enter Tryz.func24, Tryz.ntmps24
  go_wp2_with fail
  have g0 := heap_new w (.cells #[.int .i64 0, .int .i64 0] 24)
  have hc : Chg [] w (w.alloc (.cells #[.int .i64 0, .int .i64 0] 24)) := Chg.alloc _ _
  have h2 := h.keep hc (Av.nil _ _)
  have hN := heap_lt h.hdr
  generalize w.alloc (.cells #[.int .i64 0, .int .i64 0] 24) = w1 at *
  refine (kgone w1 h2).mono ?_
  rintro e w2 ⟨rfl, rfl⟩
  have e0 : w1.cell? ⟨N, 0, none⟩ = some (.int .i64 8) := cell_is h2.hdr 0 rfl
  have e1 : w1.cell? ⟨N, 1, none⟩ = some (.int .i64 96) := cell_is h2.hdr 1 rfl
  have c0 := cell_is g0 0 rfl
  have c1 := cell_is g0 1 rfl
  have f0 := unfrozen g0 0
  have f1 := unfrozen g0 1
  clear h h2 g0
  go_wp2_with fail
  refine bodyPost_ret (v := .agg #[.int .i64 8, .int .i64 96]) (by simp [results, Tryz.results24, go_sem, c0, c1]) rfl ?_
  exact ⟨rfl, (hc.new_set (by omega) _ _).new_set (by omega) _ _⟩
set_option maxRecDepth 100000 in
theorem kblocks0 (w : World) {base S N A c : Nat} {ops rds : Int} {Z : List Nat} {vs : Nat → Value} {gs : Nat → Nat} {zs : Nat → List (List UInt8)} (h : SlotAt w S N) (hD : DevK w base N A c ops rds Z vs gs zs) (he : zs 0 = []) : Calls Tryz.prog 61 #[.pointer (some ⟨S, 0, none⟩), .int .i64 0] w fun e w' => e = .returned (.slice none 0 0) ∧ w = w' := by
  obtain ⟨c0, c1, c2, c3, c4, -, -, -, -⟩ := slot_cells h
  have HP := Lib.hid (kpointer w hD 0 (by have := hD.len; omega))
  rw [he] at HP
  clear h hD he
  go_enter Tryz.func61, Tryz.ntmps61
  go_wp2_with fail
  go_loop [4, 5] (fun a b => a = .slice none 0 0 ∧ b = .int .i64 0) (fun _ _ => 0)
  case atStart => exact ⟨rfl, rfl⟩
  case round =>
    obtain ⟨rfl, rfl⟩ := hrel
    go_wp2_with fail
    refine HP.out.mono ?_
    rintro e w1 ⟨rfl, rfl⟩
    go_wp2_with fail
    go_loop [4, 38] (fun b a => b = .slice none 0 0 ∧ a = .int .i64 0) (fun _ _ => 0)
    case atStart => exact ⟨rfl, rfl⟩
    case round =>
      obtain ⟨rfl, rfl⟩ := hrel
      go_wp2_with fail
      go_ret
      exact ⟨rfl, rfl⟩
set_option maxRecDepth 100000 in
theorem kblocks1 (w : World) {base S N A c : Nat} {ops rds : Int} {Z : List Nat} {vs : Nat → Value} {gs : Nat → Nat} {zs : Nat → List (List UInt8)} (h : SlotAt w S N) (hD : DevK w base N A c ops rds Z vs gs zs) (he : zs 3 = []) : Calls Tryz.prog 61 #[.pointer (some ⟨S, 0, none⟩), .int .i64 1] w fun e w' => e = .returned (.slice none 0 0) ∧ w = w' := by
  obtain ⟨c0, c1, c2, c3, c4, -, -, -, -⟩ := slot_cells h
  have HP := Lib.hid (kpointer w hD 3 (by have := hD.len; omega))
  rw [he] at HP
  clear h hD he
  go_enter Tryz.func61, Tryz.ntmps61
  go_wp2_with fail
  go_loop [4, 5] (fun a b => a = .slice none 0 0 ∧ b = .int .i64 3) (fun _ _ => 0)
  case atStart => exact ⟨rfl, rfl⟩
  case round =>
    obtain ⟨rfl, rfl⟩ := hrel
    go_wp2_with fail
    refine HP.out.mono ?_
    rintro e w1 ⟨rfl, rfl⟩
    go_wp2_with fail
    go_loop [4, 38] (fun b a => b = .slice none 0 0 ∧ a = .int .i64 0) (fun _ _ => 0)
    case atStart => exact ⟨rfl, rfl⟩
    case round =>
      obtain ⟨rfl, rfl⟩ := hrel
      go_wp2_with fail
      go_ret
      exact ⟨rfl, rfl⟩
/-- what slot.Open hands back at a device whose slots are empty. -/
def OpenK (w : World) (base N A c : Nat) (ops rds : Int) (Z : List Nat) (vs : Nat → Value) (gs : Nat → Nat) (zs : Nat → List (List UInt8)) (e : Ending) (w' : World) : Prop :=
  ∃ S, e = .returned (.tuple #[.pointer (some ⟨S, 0, none⟩), .int .i64 0]) ∧ Chg (N :: Z) w w' ∧ DevK w' base N A c (ops + 1) rds Z vs (goodF gs zs 8) zs ∧ SlotAt w' S N ∧ w.heap.size ≤ S
set_option maxRecDepth 100000 in
set_option maxHeartbeats 1000000 in
theorem kopen (w : World) {base N A c : Nat} {ops rds : Int} {Z : List Nat} {vs : Nat → Value} {gs : Nat → Nat} {zs : Nat → List (List UInt8)} (hD : DevK w base N A c ops rds Z vs gs zs) (he0 : zs 0 = []) (he3 : zs 3 = []) (hlt : ∀ z ∈ Z, z < w.heap.size) (h0 : 0 ≤ ops) (h1 : ops ≤ 1000000) : Calls Tryz.prog 25 #[.pointer (some ⟨N, 0, none⟩), .int .i64 0, .int .i64 3, .int .i64 6] w (OpenK w base N A c ops rds Z vs gs zs) := by
  go_enter Tryz.func25, Tryz.ntmps25
  go_wp2_with fail
  refine (kgeometry w hD).mono ?_
  rintro e w1 ⟨rfl, hc1⟩
  have hD1 := hD.keep hc1 (Av.nil _ _)
  go_wp2_with fail
  have g1 := (two_new w1 (.cells #[.int .i64 8, .int .i64 96] 24) (.cells #[.pointer (some ⟨N, 0, none⟩), .int .i64 0, .int .i64 3, .int .i64 6, .int .i64 96, .int .i64 1, .slice none 0 0, .int .i64 0, .bool false] 113)).2
  have hc2 := hc1.then (chg_two w1 (.cells #[.int .i64 8, .int .i64 96] 24) (.cells #[.pointer (some ⟨N, 0, none⟩), .int .i64 0, .int .i64 3, .int .i64 6, .int .i64 96, .int .i64 1, .slice none 0 0, .int .i64 0, .bool false] 113))
  have hsz := hc1.size
  generalize (w1.alloc (.cells #[.int .i64 8, .int .i64 96] 24)).alloc (.cells #[.pointer (some ⟨N, 0, none⟩), .int .i64 0, .int .i64 3, .int .i64 6, .int .i64 96, .int .i64 1, .slice none 0 0, .int .i64 0, .bool false] 113) = w2 at *
  have hS : SlotAt w2 (w1.heap.size + 1) N := g1
  have hD2 := hD.keep hc2 (Av.nil _ _)
  have hNS : w1.heap.size + 1 ∉ N :: Z := by
    have hN := heap_lt hD.hdr
    intro hm
    rcases List.mem_cons.1 hm with hm | hm
    · omega
    · have := hlt _ hm; omega
  have hS0 : w.heap.size ≤ w1.heap.size + 1 := by omega
  generalize w1.heap.size + 1 = S at *
  have c7 := (slot_cells hS).2.2.2.2.2.2.2.1
  clear hD hD1 g1 hc1
  go_loop [51] (fun i => i = .int .i64 0 ∨ i = .int .i64 1 ∨ i = .int .i64 2) (fun i => 2 - (intOf i).toNat)
  case atStart => exact Or.inl rfl
  case round =>
    rcases hrel with rfl | rfl | rfl
    · go_wp2_with fail
      refine (kblocks0 w2 hS hD2 he0).mono ?_
      rintro e w3 ⟨rfl, rfl⟩
      go_wp2_with fail
      refine (contf_nil _ w2).mono ?_
      rintro e w3 ⟨rfl, rfl⟩
      go_wp2_with fail
      refine (read_nil w2).mono ?_
      rintro e w3 ⟨rfl, rfl⟩
      go_wp2_with fail
      go_round
      case rel => exact Or.inr (Or.inl rfl)
      case measure => decide
    · go_wp2_with fail
      refine (kblocks1 w2 hS hD2 he3).mono ?_
      rintro e w3 ⟨rfl, rfl⟩
      go_wp2_with fail
      refine (contf_nil _ w2).mono ?_
      rintro e w3 ⟨rfl, rfl⟩
      go_wp2_with fail
      refine (read_nil w2).mono ?_
      rintro e w3 ⟨rfl, rfl⟩
      go_wp2_with fail
      go_round
      case rel => exact Or.inr (Or.inr rfl)
      case measure => decide
    · go_wp2_with fail
      refine (kflush w2 hD2 h0 h1).mono ?_
      rintro e w3 ⟨rfl, hc3, hD3⟩
      have hS3 := hS.keep hc3 hNS
      have hc4 : Chg (N :: Z) w w3 := (hc2.mono (T := N :: Z) (fun x hx _ => by cases hx)).then hc3
      go_wp2_with fail
      go_ret2
      exact ⟨S, rfl, hc4, hD3, hS3, hS0⟩
end Go.Proofs.YtnelakpdmjfolaaGreat
namespace Go.Proofs.YtnelakpdmjfolaaGreat
open Go.RowKit Go.Lib

/-- .. with room behind each row. -/
def RowsC (w : World) (base : Nat) (v : Value) (l : List (List UInt8)) : Prop :=
  ∃ xs, w.ownsRow base 38 1 v l.length xs ∧ ∀ i (h : i < l.length), ∃ g c, xs[i]? = some (.slice (some ⟨g, 0, none⟩) 64 c) ∧ 64 ≤ c ∧ Bs w (some ⟨g, 0, none⟩) l[i] ∧ l[i].length = 64 ∧ Bt w g
theorem RowsC.nil (w : World) (base : Nat) : RowsC w base (.slice none 0 0) [] := ⟨[], World.ownsRow_nil _ _ _ _, fun i h => by simp at h⟩
theorem RowsC.keep {w w' : World} {T : List Nat} {base : Nat} {v : Value} {l : List (List UInt8)} (h : RowsC w base v l) (hc : Chg T w w') (hT : Av w T [5]) (hv : ∀ g, v.ownBlock = some g → g ∉ T) : RowsC w' base v l := by
  obtain ⟨xs, ho, hx⟩ := h
  refine ⟨xs, ?_, fun i hi => ?_⟩
  · refine ⟨ho.1, ?_⟩
    rcases ho.2 with hn | ⟨g, cap, cur, rfl, hb, hg, rest⟩
    · exact Or.inl hn
    · exact Or.inr ⟨g, cap, cur, rfl, hb, hc.heap hg (hv g rfl), rest⟩
  · obtain ⟨g, c, h1, h0, h2, h3, h4⟩ := hx i hi
    have hg := h4.av hT (by simp)
    exact ⟨g, c, h1, h0, h2.chgT hc hg, h3, h4.keep hc hg⟩
theorem RowsC.keep0 {w w' : World} {base : Nat} {v : Value} {l : List (List UInt8)} (h : RowsC w base v l) (hc : Chg [] w w') : RowsC w' base v l := h.keep hc (Av.nil _ _) (fun g _ => by simp)
theorem RowsC.push {w w' : World} {base g gb cb cap : Nat} {v : Value} {l : List (List UInt8)} {b : List UInt8} {xs : List Value} (hx : ∀ i (h : i < l.length), ∃ g c, xs[i]? = some (.slice (some ⟨g, 0, none⟩) 64 c) ∧ 64 ≤ c ∧ Bs w (some ⟨g, 0, none⟩) l[i] ∧ l[i].length = 64 ∧ Bt w g)
    (hl : xs.length = l.length) (hv : ∀ g, v.ownBlock = some g → ∃ cs, w.heap[g]? = some (.cells cs 38 (0, 0))) (ho : w'.ownsRow base 38 1 (.slice (some ⟨g, 0, none⟩) (l.length + 1) cap) (l.length + 1) (xs ++ [.slice (some ⟨gb, 0, none⟩) 64 cb])) (hc : Chg v.ownBlock.toList w w')
    (hb : Bs w (some ⟨gb, 0, none⟩) b) (hb4 : b.length = 64) (hbt : Bt w gb) (h64 : 64 ≤ cb) : RowsC w' base (.slice (some ⟨g, 0, none⟩) (l.length + 1) cap) (l ++ [b]) := by
  have hne : ∀ {k}, Bt w k → k ∉ v.ownBlock.toList := by
    intro k hk hm
    have hm' : v.ownBlock = some k := by simpa using hm
    obtain ⟨cs, h1⟩ := hv k hm'
    obtain ⟨cs2, h2⟩ := hk
    rw [h1] at h2
    cases h2
  refine ⟨xs ++ [.slice (some ⟨gb, 0, none⟩) 64 cb], by rw [List.length_append]; exact ho, fun i hi => ?_⟩
  by_cases h : i < l.length
  · obtain ⟨g, c, h1, h0, h2, h3, h4⟩ := hx i h
    rw [List.getElem_append_left h]
    exact ⟨g, c, by rw [List.getElem?_append_left (by omega)]; exact h1, h0, h2.chgT hc (hne h4), h3, h4.keep hc (hne h4)⟩
  · have hi2 : i = l.length := by simp at hi; omega
    subst hi2
    refine ⟨gb, cb, by rw [← hl]; simp, h64, ?_, ?_, hbt.keep hc (hne hbt)⟩
    · rw [List.getElem_append_right (Nat.le_refl _)]
      simpa using hb.chgT hc (hne hbt)
    · rw [List.getElem_append_right (Nat.le_refl _)]
      simpa using hb4
/-- a device's own block. -/
def hdrK (A c : Nat) (ops rds : Int) : Obj := .cells #[.int .i64 8, .int .i64 96, .slice (some ⟨A, 0, none⟩) 8 c, .int .i64 ops, .int .i64 rds, .bool false, .int .i64 0, .bool false] 60 (0, 0)
theorem DevK.turn {w wr : World} {base N A c : Nat} {ops rds ops' rds' : Int} {Z : List Nat} {vs : Nat → Value} {gs : Nat → Nat} {zs : Nat → List (List UInt8)} (h : DevK w base N A c ops rds Z vs gs zs) (hc : Chg [N] w wr) (hh : wr.heap[N]? = some (hdrK A c ops' rds')) : DevK wr base N A c ops' rds' Z vs gs zs := by
  have hne : ∀ {g : Nat} {cs : Array Value} {t : TypeId}, w.heap[g]? = some (.cells cs t (0, 0)) → t ≠ 60 → g ∉ [N] := by
    intro g cs t hg ht hm
    rw [List.mem_singleton] at hm
    subst hm
    rw [h.hdr] at hg
    cases hg
    exact ht rfl
  obtain ⟨cA, hA⟩ := h.tA
  refine ⟨hh, h.cap, h.len, ⟨cA, hc.heap hA (hne hA (by decide))⟩, fun j hj => hc.cell (h.ptr j hj) (hne hA (by decide)), fun j hj => hc.heap (h.zone j hj) (hne (h.zone j hj) (by decide)), fun j hj => (h.rows j hj).keep hc (Av.row h.hdr (by simp)) (fun g hg => ?_), h.apart, h.nodup⟩
  obtain ⟨cs, hb⟩ := (h.rows j hj).block g hg
  exact hne hb (by decide)
/-- some bytes are put behind the rows of an own row. -/
theorem wpList_append_bk {ops : Array Oper} {rest : List Oper} {o : Oper} {a : Act} {w : World} {Q : Exit → Act → World → Prop} (hgd : o.guard = none) (s x : Operand)
    (ho : o.op = .call { callee := .builtin .append, args := #[s, x], argTypes := #[62, 62] }) (base : Nat) (v : Value) (n : Nat) (xs : List Value) (hs : a.eval s = v) (hown : w.ownsRow base 38 1 v n xs) (b c : Nat) (u0 : Value)
    (hx : a.eval x = .slice (some ⟨b, 0, none⟩) 1 c) (c0 : w.cell? ⟨b, 0, none⟩ = some u0) (h1 : u0.oneCell' = true) (hn : n ≤ 1000000) (hbase : base ≤ w.heap.size)
    (h : ∀ g cap w', w'.ownsRow base 38 1 (.slice (some ⟨g, 0, none⟩) (n + 1) cap) (n + 1) (xs ++ [u0]) → Chg v.ownBlock.toList w w' → (v.ownBlock = some g ∨ g = w.heap.size) → wpList Tryz.prog ops Q rest (a.put o.dst (.slice (some ⟨g, 0, none⟩) (n + 1) cap)) w') :
    wpList Tryz.prog ops Q (o :: rest) a w := by
  obtain ⟨i, hi0, hz, hz1, hz2⟩ := info_parts inf23
  refine wpList_append_lies w hgd s x 62 ho base 38 i _ 1 24 ty132 hi0 hz hz1 hz2 rfl (by decide) v n xs hs hown ⟨b, 0, none⟩ 1 c [u0] hx rfl ?_ ?_ (by decide) (by unfold maxLen; omega) (by omega) hbase _ rfl ?_
  · intro j u hu
    rw [add_lit, Nat.zero_add]
    match j with
    | 0 => cases hu; exact c0
    | j + 1 => simp at hu
  · intro u hu
    simp at hu
    rcases hu with rfl
    exact h1
  · intro g cap w' h2 h3 h4 _
    refine h g cap w' h2 ?_ h4
    cases hv : v.ownBlock with
    | none => rw [hv] at h3; exact Chg.of_grown0 h3
    | some k => rw [hv] at h3; exact Chg.of_grown h3
/-- what the log hands back. -/
def LogR (w : World) (base N A c : Nat) (ops rds : Int) (Z : List Nat) (vs : Nat → Value) (gs : Nat → Nat) (zs : Nat → List (List UInt8)) (e : Ending) (w' : World) : Prop :=
  ∃ v, e = .returned (.tuple #[v, .slice none 0 0]) ∧ Chg [N] w w' ∧ DevK w' base N A c ops (rds + (zs 6).length) Z vs gs zs ∧ RowsC w' w.heap.size v (zs 6)
set_option maxRecDepth 100000 in
set_option maxHeartbeats 4000000 in
theorem klog (w : World) {base P N S A c : Nat} {m : Option Addr} {ops rds : Int} {Z : List Nat} {vs : Nat → Value} {gs : Nat → Nat} {zs : Nat → List (List UInt8)} (h : StoreAt w P N S m) (hD : DevK w base N A c ops rds Z vs gs zs) (he7 : zs 7 = []) (h96 : (zs 6).length < 96) (ho0 : 0 ≤ rds) (ho1 : rds ≤ 1000000) :
    Calls Tryz.prog 28 #[.pointer (some ⟨P, 0, none⟩)] w (LogR w base N A c ops rds Z vs gs zs) := by
  obtain ⟨c0, -⟩ := store_cells h
  have hfs := field_size
  have hl := hD.len
  have h6 : 6 < Z.length := by omega
  have h7 : 7 < Z.length := by omega
  have HD := Lib.hid hD
  have HS := Lib.hid h
  have hPN : P ∉ [N] := by rw [List.mem_singleton]; exact heap_ne h hD.hdr (by simp)
  have HPN := Lib.hid hPN
  have hHdr : w.heap[N]? = some (hdrK A c ops rds) := hD.hdr
  clear hl
  go_enter Tryz.func28, Tryz.ntmps28
  go_wp2_with fail
  refine (kgeometry w hD).mono ?_
  rintro e w1 ⟨rfl, hc1⟩
  have kk1 : Chg [N] w w1 := hc1.mono (fun x hx _ => by cases hx)
  have hd1 : w1.heap[N]? = some (hdrK A c ops rds) := hc1.heap hHdr (by simp)
  have hS1 := h.keep hc1 (by simp)
  have hlen : (zs 6).length < 96 := h96
  clear hc1 h hD hHdr hPN c0
  obtain ⟨c0, -, -, c3, c4, -⟩ := store_cells hS1
  go_wp2_with fail
  go_loopw [2, 3, 5, 6] (fun a b g z wr => b = .slice none 0 0 ∧ Chg [N] w wr ∧ ((z = .int .i64 6 ∧ a = .slice none 0 0 ∧ g = .bool false ∧ wr = w1) ∨ ((z = .int .i64 7 ∧ g = .bool true ∨ z = .int .i64 8) ∧ wr.heap[N]? = some (hdrK A c ops (rds + (zs 6).length)) ∧ RowsC wr w.heap.size a (zs 6)))) (fun _ _ _ z _ => 8 - (intOf z).toNat)
  case atStart => exact ⟨rfl, kk1, Or.inl ⟨rfl, rfl, rfl, rfl⟩⟩
  case round =>
    obtain ⟨rfl, kr, ⟨rfl, rfl, rfl, rfl⟩ | ⟨hz, hdr, hrw⟩⟩ := hrel
    · have h6c := Lib.hid (kpointer wr ((HD.out.turn kr hd1)) 6 h6)
      go_wp2_with fail
      go_step3
      go_wp2_with fail
      refine h6c.out.mono ?_
      rintro e w2 ⟨rfl, rfl⟩
      go_wp2_with fail
      go_step3
      go_wp2_with fail
      go_loopw [2, 3, 42] (fun a b k wx => ∃ j : Nat, j ≤ (zs 6).length ∧ k = .int .i64 j ∧ b = .slice none 0 0 ∧ Chg [N] w wx ∧ wx.heap[N]? = some (hdrK A c ops (rds + j)) ∧ RowsC wx w.heap.size a ((zs 6).take j)) (fun _ _ k _ => (zs 6).length - (intOf k).toNat)
      case atStart => exact ⟨0, by omega, rfl, rfl, kr, by simpa using hd1, by simpa using RowsC.nil _ _⟩
      case round =>
        obtain ⟨j, hj, rfl, rfl, kx, hx, hrx⟩ := hrel
        by_cases hlt : j < (zs 6).length
        · have n1 : decide ((j : Int) < ((zs 6).length : Int)) = true := decide_eq_true (by omega)
          have q0 := (store_cells (HS.out.keep kx HPN.out)).1
          have HRd := Lib.hid (kread wr (HD.out.turn kx hx) (by omega) (by omega) 6 h6 j hlt)
          have HX := Lib.hid (And.intro kx (And.intro hx hrx))
          clear kx hx hrx
          go_wp2_with fail
          refine HRd.out.mono ?_
          rintro e w2 ⟨g, c', rfl, k2, d2, b2, l2, t2, c64⟩
          obtain ⟨kx, hx, hrx⟩ := HX.out
          have hr2 := hrx.keep k2 (Av.row hx (by simp)) (fun g' hg' hm => by
            rw [List.mem_singleton] at hm
            subst hm
            obtain ⟨xs, ho, -⟩ := hrx
            obtain ⟨-, cur, hh⟩ := own_elem ho hg'
            rw [show wr.heap[_]? = _ from hx] at hh
            cases hh)
          obtain ⟨xs, ho, hxs⟩ := hr2
          have hjl : ((zs 6).take j).length = j := by simp; omega
          rw [hjl] at ho
          obtain ⟨pa, cv, rfl, -⟩ := own_form ho
          have ka : Chg [] w2 (w2.alloc (.cells #[.slice (some ⟨g, 0, none⟩) 64 c'] 38)) := Chg.alloc w2 _
          have ya := heap_new w2 (.cells #[.slice (some ⟨g, 0, none⟩) 64 c'] 38)
          have oa := own_keep ho ka.below0
          have hk2 := k2.size
          have hkx := kx.size
          have hba : w.heap.size ≤ (w2.alloc (.cells #[.slice (some ⟨g, 0, none⟩) 64 c'] 38)).heap.size := by have := ka.size; omega
          have hdx : w2.heap[N]? = some (hdrK A c ops (rds + (j + 1 : Nat))) := by
            have := d2.hdr
            rwa [show rds + (j : Int) + 1 = rds + ((j + 1 : Nat) : Int) from by push_cast; omega] at this
          have H2 := Lib.hid (And.intro (kx.then k2) (And.intro hdx (And.intro b2 (And.intro l2 (And.intro t2 (And.intro c64 (And.intro hxs ho)))))))
          clear kx hx hrx k2 d2 b2 l2 t2 c64 hxs ho hdx q0 HX HRd
          go_wp2_with (first | (at_builtin; refine wpList_append_bk rfl (.tmp 60) (.tmp 62) rfl w.heap.size (.slice pa j cv) j xs rfl oa w2.heap.size 1 _ rfl (cell_is ya 0 rfl) rfl (by omega) hba ?_; intro g5 c5 w5 o5 k5 i5))
          obtain ⟨k2, hdx, b2, l2, t2, c64, hxs, ho⟩ := H2.out
          have hfin : Chg [N] w w5 ∧ w5.heap[N]? = some (hdrK A c ops (rds + (j + 1 : Nat))) ∧ RowsC w5 w.heap.size (.slice (some ⟨g5, 0, none⟩) (j + 1) c5) ((zs 6).take (j + 1)) := by
            refine ⟨(k2.then (ka.mono (fun x hx _ => by cases hx))).trans k5 (fun x hx hl => ?_), k5.heap (ka.heap hdx (by simp)) (own_block_ne oa (ka.heap hdx (by simp)) (by decide)), ?_⟩
            · obtain ⟨hge, -⟩ := own_elem oa (show (Value.slice pa j cv).ownBlock = some x by simpa using hx)
              omega
            · rw [List.take_succ_eq_append_getElem hlt]
              have hp := RowsC.push (w := w2.alloc (.cells #[.slice (some ⟨g, 0, none⟩) 64 c'] 38)) (w' := w5) (base := w.heap.size) (g := g5) (gb := g) (cb := c') (cap := c5) (v := .slice pa j cv) (l := (zs 6).take j) (b := (zs 6)[j]) (xs := xs)
                (fun i hi => by obtain ⟨g', c'', e1, e2, e3, e4, e5⟩ := hxs i hi; exact ⟨g', c'', e1, e2, e3.chg ka, e4, e5.keep ka (by simp)⟩)
                (by rw [hjl]; have := ho.1; omega) (fun g' hg' => (own_elem oa hg').2) (by rw [hjl]; exact o5) k5 (b2.chg ka) ?_ (t2.keep ka (by simp)) c64
              · rw [hjl] at hp
                exact hp
              · obtain ⟨xs', -, hr⟩ := HD.out.rows 6 (by decide)
                obtain ⟨_, _, _, _, e, _⟩ := hr j hlt
                exact e
          have HF := Lib.hid hfin
          clear hfin k2 hdx b2 l2 t2 c64 hxs ho ka ya oa o5 k5 i5
          go_wp2_with fail
          go_roundw
          case rel => exact ⟨j + 1, hlt, by go_num, rfl, HF.out⟩
          case measure => simp [intOf]; omega
        · obtain rfl : j = (zs 6).length := by omega
          rw [List.take_length] at hrx
          have n2 : decide (((zs 6).length : Int) < 96) = true := decide_eq_true (by omega)
          have HX := Lib.hid (And.intro kx (And.intro hx hrx))
          clear kx hx hrx
          go_wp2_with fail
          simp only [Exit.noGoto]
          go_wp2_with fail
          exact ⟨⟨rfl, HX.out.1, Or.inr ⟨Or.inl ⟨rfl, rfl⟩, HX.out.2⟩⟩, by simp [intOf]⟩
    · rcases hz with ⟨rfl, rfl⟩ | rfl
      · have h7c := Lib.hid (kpointer wr (HD.out.turn kr hdr) 7 h7)
        rw [he7] at h7c
        obtain ⟨q0, -, -, q3, q4, -⟩ := store_cells (HS.out.keep kr HPN.out)
        have HX := Lib.hid (And.intro kr (And.intro hdr hrw))
        clear kr hdr hrw
        go_wp2_with fail
        go_step3
        go_wp2_with fail
        refine h7c.out.mono ?_
        rintro e w2 ⟨rfl, rfl⟩
        go_wp2_with fail
        go_step3
        go_wp2_with fail
        go_loop [2, 3, 42] (fun x y k => x = u2 ∧ y = .slice none 0 0 ∧ k = .int .i64 0) (fun _ _ _ => 0)
        case atStart => exact ⟨rfl, rfl, rfl⟩
        case round =>
          obtain ⟨rfl, rfl, rfl⟩ := hrel
          go_wp2_with fail
          exact ⟨⟨rfl, HX.out.1, Or.inr ⟨Or.inr rfl, HX.out.2⟩⟩, by simp [intOf]⟩
      · obtain ⟨q0, -, -, q3, q4, -⟩ := store_cells (HS.out.keep kr HPN.out)
        go_wp2_with fail
        go_ret2
        exact ⟨_, rfl, kr, HD.out.turn kr hdr, hrw⟩
end Go.Proofs.YtnelakpdmjfolaaGreat
