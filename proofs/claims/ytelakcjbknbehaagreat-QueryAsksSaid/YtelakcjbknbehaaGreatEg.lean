/- Lemmas and walks. -/
import Derived.Maps.RangeRun
import Derived.Test.YtelakcjbknbehaaGreatEd
import Derived.Test.YtelakcjbknbehaaGreatEe
import Derived.Test.YtelakcjbknbehaaGreatEf
namespace Go.Proofs.YtelakcjbknbehaaGreat
open Go.RowKit Go.Lib

theorem append_zero (w : World) (z g o c : Nat) (ty : TypeId) : (Builtin.append_ #[115, 115] ty #[.slice (some ⟨z, 0, none⟩) 0 0, .slice (some ⟨g, o, none⟩) 0 c]).run Tryz.prog w = .ok (.slice (some ⟨z, 0, none⟩) 0 0) w := by
 obtain ⟨i, hi0, hz, hz1, hz2⟩ := info_parts inf3
 simp [Builtin.append_, run_underlying ty62, sizeOf, typeInfo, hi0, Builtin.lenOf, Builtin.firstCells, storeCells, loadCells, loadCellsFrom, Result.andThen]
set_option maxRecDepth 100000 in
theorem iclone_zero (w : World) (g o c : Nat) : Calls Tryz.prog 138 #[.slice (some ⟨g, o, none⟩) 0 c] w fun e w' => ∃ z, e = .returned (.slice (some ⟨z, 0, none⟩) 0 0) ∧ Chg [] w w' ∧ w'.ownsRow w.heap.size 3 1 (.slice (some ⟨z, 0, none⟩) 0 0) 0 [] := by
 have hn : ∀ w, (binOp .eql 115 (.slice (some ⟨g, o, none⟩) 0 c) (.slice none 0 0)).run Tryz.prog w = .ok (.bool false) w := fun w => Lib.run_eql_slice_nil w 115 3 _ _ _ 0 0 ty62
 have ha := fun z w ty => append_zero w z g o c ty
 go_enter Tryz.func138, Tryz.ntmps138
 go_wp2_with fail
 go_ret
 exact ⟨w.heap.size, rfl, Chg.alloc w _, rfl, Or.inr ⟨w.heap.size, 0, #[], rfl, Nat.le_refl _, heap_new _ _, Nat.le_refl _, by unfold maxLen; omega, rfl, rfl⟩⟩
theorem wpList_append_int2 {ops : Array Oper} {rest : List Oper} {o : Oper} {a : Act} {w : World} {Q : Exit → Act → World → Prop} (hgd : o.guard = none) (s x : Operand)
  (ho : o.op = .call { callee := .builtin .append, args := #[s, x], argTypes := #[115, 115] }) (z b c : Nat) (k : Int) (hs : a.eval s = .slice (some ⟨z, 0, none⟩) 0 0) (hz : w.heap[z]? = some (.cells #[] 3 (0, 0)))
  (hx : a.eval x = .slice (some ⟨b, 0, none⟩) 1 c) (hb : w.cell? ⟨b, 0, none⟩ = some (.int .i64 k))
  (h : ∀ g cap w', Chg [z] w w' → w'.ownsRow z 3 1 (.slice (some ⟨g, 0, none⟩) 1 cap) 1 [.int .i64 k] → wpList Tryz.prog ops Q rest (a.put o.dst (.slice (some ⟨g, 0, none⟩) 1 cap)) w') : wpList Tryz.prog ops Q (o :: rest) a w := by
 obtain ⟨i, hi0, hz0, hz1, hz2⟩ := info_parts inf3
 have hown : w.ownsRow z 3 1 (.slice (some ⟨z, 0, none⟩) 0 0) 0 [] := ⟨rfl, Or.inr ⟨z, 0, #[], rfl, Nat.le_refl _, hz, Nat.le_refl _, by unfold maxLen; omega, rfl, rfl⟩⟩
 refine wpList_append_lies w hgd s x 115 ho z 3 i _ 1 8 ty62 hi0 hz0 hz1 hz2 rfl (by decide) _ 0 [] hs hown ⟨b, 0, none⟩ 1 c [.int .i64 k] hx rfl ?_ ?_ (by decide) (by unfold maxLen; omega) (by omega) (Nat.le_of_lt (heap_lt hz)) _ rfl ?_
 ·intro j u hu
  rw [add_lit, Nat.zero_add]
  match j with
  | 0 => cases hu; exact hb
  | j + 1 => simp at hu
 ·intro u hu
  simp at hu
  subst hu
  rfl
 ·intro g cap w' h1 h3 _ _
  exact h g cap w' (Chg.of_grown h3) h1
set_option maxRecDepth 100000 in
theorem iclone_one (w : World) {g c : Nat} {k : Int} (h0 : w.cell? ⟨g, 0, none⟩ = some (.int .i64 k)) : Calls Tryz.prog 138 #[.slice (some ⟨g, 0, none⟩) 1 c] w fun e w' =>
  ∃ g' c', e = .returned (.slice (some ⟨g', 0, none⟩) 1 c') ∧ Chg [] w w' ∧ w'.ownsRow w.heap.size 3 1 (.slice (some ⟨g', 0, none⟩) 1 c') 1 [.int .i64 k] := by
 have hn : ∀ w, (binOp .eql 115 (.slice (some ⟨g, 0, none⟩) 1 c) (.slice none 0 0)).run Tryz.prog w = .ok (.bool false) w := fun w => Lib.run_eql_slice_nil w 115 3 _ _ _ 0 0 ty62
 have k0 : Chg [] w (w.alloc (.cells #[] 3)) := Chg.alloc w _
 have hb := k0.cell h0 (by simp)
 have hz := heap_new w (.cells #[] 3)
 clear h0
 go_enter Tryz.func138, Tryz.ntmps138
 go_wp2_with (first | (at_builtin; refine wpList_append_int2 rfl (.tmp 5) (.tmp 6) rfl w.heap.size g c k rfl hz rfl hb ?_; intro g2 c2 w2 k2 o2))
 go_ret
 exact ⟨g2, c2, rfl, k0.trans k2 (fun x hx hlt => by simp at hx; omega), o2⟩
set_option maxRecDepth 100000 in
theorem hopen_gen (w : World) {B rb : Nat} {bl t : Int} (h : BookAt w B rb bl []) (h0 : 0 ≤ t) (h1 : t ≤ 1099511627776) (hb0 : 0 ≤ bl) (hb1 : bl ≤ 1000000) : Calls Tryz.prog 114 #[.pointer (some ⟨B, 0, none⟩), .int .i64 t] w fun e w' => e = .returned (.tuple #[.int .i64 (bl + 1), .int .i64 0]) ∧ Chg [B, rb] w w' ∧ BookAt w' B rb (bl + 1) [(bl + 1, .int .i64 t)] := by
 have n0 : decide (t < 0) = false := decide_eq_false (by omega)
 have n1 : decide (1099511627776 < t) = false := decide_eq_false (by omega)
 have hw : wrap64 (bl + 1) = bl + 1 := by unfold wrap64; omega
 clear h0 h1
 go_enter Tryz.func114, Tryz.ntmps114
 go_wp2_with fail
 refine (count_none w h).mono ?_
 rintro e w1 ⟨rfl, hc⟩
 have h1 := h.keep hc (by simp) (by simp)
 go_wp2_with fail
 refine (room_any w1 h1).mono ?_
 rintro e w2 ⟨rfl, rfl⟩
 have c1 : w1.cell? ⟨B, 1, none⟩ = some (.int .i64 bl) := cell_is h1.1 1 rfl
 have f1 := unfrozen h1.1 1
 have h2 : (w1.setCell ⟨B, 1, none⟩ (.int .i64 (bl + 1))).heap[B]? = some (.cells #[.int .i64 16, .int .i64 (bl + 1), .map (some rb)] 265 (0, 0)) := heap_set h1.1 1 _ rfl
 have hne : rb ≠ B := map_cells h1.2 h1.1
 have k2 := Chg.set w1 B 1 (.int .i64 (bl + 1))
 have m2 : MapAt (w1.setCell ⟨B, 1, none⟩ (.int .i64 (bl + 1))) rb [] := h1.2.keep k2 (by simpa using hne)
 have hc2 : Chg [B, rb] w (w1.setCell ⟨B, 1, none⟩ (.int .i64 (bl + 1))) := (hc.mono (T := [B, rb]) (fun x hx _ => by cases hx)).then (k2.mono (fun x hx _ => by simp at hx; simp [hx]))
 clear h1 h
 go_wp2_with fail
 generalize w1.setCell ⟨B, 1, none⟩ (.int .i64 (bl + 1)) = w2 at *
 have e1 : w2.cell? ⟨B, 1, none⟩ = some (.int .i64 (bl + 1)) := cell_is h2 1 rfl
 have e2 : w2.cell? ⟨B, 2, none⟩ = some (.map (some rb)) := cell_is h2 2 rfl
 have m3 : MapAt w2.drew rb [] := m2
 obtain ⟨w3, hmu, m4, k3, hs3⟩ := run_update_im (P := Tryz.prog) (mty := 263) (kt := 3) (et := 3) (by kernel_rfl) (by kernel_rfl) m3 (bl + 1) (.int .i64 t)
 go_region_held3 (fun wx => wx.cell? ⟨B, 1, none⟩ = some (.int .i64 (bl + 1)) ∧ wx.cell? ⟨B, 2, none⟩ = some (.map (some rb))) (first | (exact ⟨e1, e2⟩) | (exact ⟨k3.cell e1 (by simpa using hne.symm), k3.cell e2 (by simpa using hne.symm)⟩)) (fail)
 have g3 : w3.heap[B]? = some (.cells #[.int .i64 16, .int .i64 (bl + 1), .map (some rb)] 265 (0, 0)) := k3.heap (g := B) h2 (by simpa using hne.symm)
 have e3 : w3.cell? ⟨B, 1, none⟩ = some (.int .i64 (bl + 1)) := cell_is g3 1 rfl
 clear e1 e2 hmu
 go_wp2_with fail
 go_ret2
 exact ⟨rfl, hc2.then (Chg.trans (Chg.refl [B, rb] w2).drew k3 (fun x hx _ => by simp at hx; simp [hx])), g3, m4⟩
set_option maxRecDepth 100000 in
theorem vnew_gen (w : World) (X W : Nat) (t : Int) : Calls Tryz.prog 117 #[.pointer (some ⟨X, 0, none⟩), .pointer (some ⟨W, 0, none⟩), .int .i64 t] w fun e w' => ∃ Q V, e = .returned (.pointer (some ⟨Q, 0, none⟩)) ∧ Chg [] w w' ∧ ViewT w' Q X W V t (.slice none 0 0) ∧ SpansAt w' V (.slice none 0 0) ∧ w.heap.size ≤ Q ∧ w.heap.size ≤ V := by
 go_enter Tryz.func117, Tryz.ntmps117
 go_wp2_with fail
 refine (inew_any w).mono ?_
 rintro e w1 ⟨V, rfl, hc, hV, l⟩
 have hs := hc.size
 have h1 := heap_new w1 (.cells #[.pointer (some ⟨X, 0, none⟩), .pointer (some ⟨W, 0, none⟩), .int .i64 t, .pointer (some ⟨V, 0, none⟩), .slice none 0 0] 274)
 go_wp2_with fail
 go_ret
 exact ⟨w1.heap.size, V, rfl, hc.then_alloc _, h1, heap_old hV, hs, l⟩
structure Gs where
 qv : Value
 out : Int
 num : Int
 bas : Int
 last : Int
 given : Int
 rd : Bool
 lo : Nat
 lastv : Int
 Lv : List (Int × Value)
 vs : Int → List (Int × List UInt8)
 bl : Int
 Lb : List (Int × Value)
 Lr : List (Int × Value)
structure Mx (w : World) (M X rx B rb r : Nat) (s : Gs) : Prop where
 mgr : MgrG w M X B r s.qv s.out s.num s.bas s.last s.given s.rd
 ver : VerG w s.lo X rx s.lastv s.Lv s.vs
 book : BookAt w B rb s.bl s.Lb
 map : MapAt w r s.Lr
 n1 : rx ≠ rb
 n2 : r ≠ rb
 n3 : r ≠ rx
theorem Mx.keep {w w' : World} {M X rx B rb r : Nat} {s : Gs} (h : Mx w M X rx B rb r s) (hc : Chg [] w w') : Mx w' M X rx B rb r s :=
 ⟨hc.heap h.mgr (by simp), h.ver.keep hc, h.book.keep hc (by simp) (by simp), h.map.keep hc (by simp), h.n1, h.n2, h.n3⟩
theorem Mx.cells {w : World} {M X rx B rb r : Nat} {s : Gs} (h : Mx w M X rx B rb r s) : w.cell? ⟨M, 0, none⟩ = some (.pointer (some ⟨X, 0, none⟩)) ∧ w.cell? ⟨M, 1, none⟩ = some (.pointer (some ⟨B, 0, none⟩)) ∧ w.cell? ⟨M, 2, none⟩ = some (.map (some r)) ∧ w.cell? ⟨M, 7, none⟩ = some (.int .i64 s.last) :=
 ⟨cell_is h.mgr 0 rfl, cell_is h.mgr 1 rfl, cell_is h.mgr 2 rfl, cell_is h.mgr 7 rfl⟩
theorem Mx.opened {w w' : World} {M X rx B rb r : Nat} {s : Gs} {bl' : Int} {Lb' : List (Int × Value)} (h : Mx w M X rx B rb r s) (hc : Chg [B, rb] w w') (hb : BookAt w' B rb bl' Lb') : Mx w' M X rx B rb r { s with bl := bl', Lb := Lb' } := by
 have av : Av w [B, rb] [195, 270, 288, 5] := fun x hx cs t fr hh => by
  simp at hx
  rcases hx with rfl | rfl
  ·rw [h.book.1] at hh; cases hh; simp
  ·exact absurd rfl (map_cells h.book.2 hh)
 have nm : ∀ {x L}, MapAt w x L → x ≠ rb → x ∉ [B, rb] := fun hm hx => by simp; exact ⟨map_cells hm h.book.1, hx⟩
 exact ⟨hc.heap h.mgr (av.ne h.mgr (by simp)), h.ver.keepA hc (fun x hx cs t fr hh ht => av x hx cs t fr hh (List.mem_cons_of_mem _ ht)) (nm h.ver.m h.n1), hb, h.map.keep hc (nm h.map h.n2), h.n1, h.n2, h.n3⟩
theorem Mx.table {w w' : World} {M X rx B rb r : Nat} {s : Gs} {Lr' : List (Int × Value)} (h : Mx w M X rx B rb r s) (hc : Chg [r] w w') (hb : MapAt w' r Lr') : Mx w' M X rx B rb r { s with Lr := Lr' } := by
 have av : ∀ ts, Av w [r] ts := fun ts => av_map h.map ts
 exact ⟨hc.heap h.mgr ((av [195]).ne h.mgr (by simp)), h.ver.keepA hc (av _) (by simpa using h.n3.symm), h.book.keep hc (by simpa using (map_cells h.map h.book.1).symm) (by simpa using h.n2.symm), hb, h.n1, h.n2, h.n3⟩
def BegR (w w' : World) (M X rx B rb r : Nat) (s : Gs) : Prop := ∃ T W rw Q V, Chg [B, rb, r] w w' ∧ Mx w' M X rx B rb r { s with bl := s.bl + 1, Lb := [(s.bl + 1, .int .i64 s.last)], Lr := putL s.Lr (s.bl + 1) (.pointer (some ⟨T, 0, none⟩)) } ∧ TxT w' T W Q s.last ∧ BufAt w' W rw [] ∧ ViewT w' Q X W V s.last (.slice none 0 0) ∧ SpansAt w' V (.slice none 0 0) ∧ rw ≠ r ∧ rw ≠ rb ∧ rw ≠ rx ∧ w.heap.size ≤ T ∧ w.heap.size ≤ W ∧ w.heap.size ≤ rw ∧ w.heap.size ≤ Q ∧ w.heap.size ≤ V
theorem tgone_x (w : World) {M X rx B rb r : Nat} {s : Gs} (h : Mx w M X rx B rb r s) : Calls Tryz.prog 113 #[.pointer (some ⟨M, 0, none⟩)] w fun e w' => e = .returned (.bool false) ∧ w = w' := by
 have c0 := h.cells.1
 clear h
 go_enter Tryz.func113, Tryz.ntmps113
 go_wp2_with fail
 go_ret
 exact ⟨rfl, rfl⟩
set_option maxRecDepth 100000 in
set_option maxHeartbeats 1000000 in
theorem tbegin_gen (w : World) {M X rx B rb r : Nat} {s : Gs} (h : Mx w M X rx B rb r s) (hLb : s.Lb = []) (h0 : 0 ≤ s.last) (h1 : s.last ≤ 1099511627776) (hb0 : 0 ≤ s.bl) (hb1 : s.bl ≤ 1000000) : Calls Tryz.prog 54 #[.pointer (some ⟨M, 0, none⟩)] w fun e w' =>
  e = .returned (.tuple #[.int .i64 (s.bl + 1), .int .i64 0]) ∧ BegR w w' M X rx B rb r s := by
 have hh := h.keep (Chg.refl [] w).drew
 have hbk := hh.book
 rw [hLb] at hbk
 have HO := Lib.hid (hopen_gen w.drew (t := s.last) hbk h0 h1 hb0 hb1)
 obtain ⟨t, ht⟩ : ∃ t, t = s.last := ⟨_, rfl⟩
 obtain ⟨bl, hbl⟩ : ∃ t, t = s.bl := ⟨_, rfl⟩
 obtain ⟨bn, hbn⟩ : ∃ t, t = bl + 1 := ⟨_, rfl⟩
 obtain ⟨c0, c1, c2, c7⟩ := h.cells
 rw [← hbl, ← hbn] at HO ⊢
 rw [← ht] at HO c7
 have HG := Lib.hid (tgone_x w h)
 have HT := Lib.hid ht
 have HBl := Lib.hid hbl
 have HBn := Lib.hid hbn
 have HM := Lib.hid h
 have HH := Lib.hid hh
 clear h0 h1 hb0 hb1 hLb hbk ht hbl hbn h hh
 go_enter Tryz.func54, Tryz.ntmps54
 go_wp2_with fail
 refine HG.out.mono ?_
 rintro e w1 ⟨rfl, rfl⟩
 go_wp2_with fail
 go_region_held3 (fun wx => wx.cell? ⟨M, 1, none⟩ = some (.pointer (some ⟨B, 0, none⟩)) ∧ wx.cell? ⟨M, 7, none⟩ = some (.int .i64 t)) (first | (exact ⟨c1, c7⟩) | (exact ⟨h2.cells.2.1, by rw [HT.out]; exact h2.cells.2.2.2⟩))
  (first
   | (go_at_call 114; refine HO.out.mono ?_; rintro e w2 ⟨rfl, k2, hb2⟩; have h2 := HH.out.opened k2 hb2))
 clear c0 c1 c2 c7 HO HG HH
 obtain ⟨c0, c1, c2, c7⟩ := h2.cells
 have c7' : w2.cell? ⟨M, 7, none⟩ = some (.int .i64 t) := by rw [HT.out]; exact c7
 clear c7
 have HB := Lib.hid (gblocks_any w2 h2.ver)
 have H2 := Lib.hid h2
 clear h2
 go_wp2_with fail
 refine HB.out.mono ?_
 rintro e w3 ⟨rfl, rfl⟩
 go_wp2_with fail
 refine (wnew_any w2).mono ?_
 rintro e w3 ⟨W, rw, rfl, k3, hW, l1, l2⟩
 have h3 := H2.out.keep k3
 clear c0 c1 c2 c7' HB
 obtain ⟨c0, c1, c2, c7⟩ := h3.cells
 have c7' : w3.cell? ⟨M, 7, none⟩ = some (.int .i64 t) := by rw [HT.out]; exact c7
 clear c7
 have H3 := Lib.hid h3
 have HW := Lib.hid hW
 clear h3 hW
 go_wp2_with fail
 go_region_held3 (fun wx => wx.cell? ⟨M, 0, none⟩ = some (.pointer (some ⟨X, 0, none⟩)) ∧ wx.cell? ⟨M, 1, none⟩ = some (.pointer (some ⟨B, 0, none⟩)) ∧ wx.cell? ⟨M, 2, none⟩ = some (.map (some r)) ∧ wx.cell? ⟨M, 7, none⟩ = some (.int .i64 t))
  (first
   | (exact ⟨c0, c1, c2, c7'⟩)
   | (rw [HT.out]; exact H4.out.cells)
   | (rw [HT.out]; exact (H4.out.keep (Chg.alloc (S := []) _ _)).cells)
   | (rw [HT.out]; exact ((H4.out.keep (Chg.alloc (S := []) w4 _)).table (upd178 (H4.out.keep (Chg.alloc (S := []) w4 _)).map _ _).2.2 (upd178 (H4.out.keep (Chg.alloc (S := []) w4 _)).map _ _).2.1).cells))
  (first
   | (go_at_call 117; refine (vnew_gen w3.drew X W t).mono ?_; rintro e w4 ⟨Q, V, rfl, k4, hQ, hV, l3, l4⟩; have H4 := Lib.hid ((H3.out.keep (Chg.refl [] w3).drew).keep k4); have hmu : ∀ o v, (Instr.mapUpdate 193 (.map (some r)) (.int .i64 bn) v).run Tryz.prog (w4.alloc o) = .ok () (updW (w4.alloc o) 193 r bn v) := fun o v => (upd178 (H4.out.map.keep (Chg.alloc (S := []) w4 o) (by simp)) bn v).1))
 have q1 := H2.out.map.lt
 have q2 := H2.out.book.2.lt
 have q3 := H2.out.ver.m.lt
 have h5 := H4.out.keep (Chg.alloc (S := []) w4 (.cells #[.int .i64 1, .int .i64 0, .int .i64 0, .int .i64 t, .pointer (some ⟨W, 0, none⟩), .pointer (some ⟨Q, 0, none⟩)] 203))
 have hT : TxT (w4.alloc (.cells #[.int .i64 1, .int .i64 0, .int .i64 0, .int .i64 t, .pointer (some ⟨W, 0, none⟩), .pointer (some ⟨Q, 0, none⟩)] 203)) w4.heap.size W Q t := heap_new w4 _
 have kx := Chg.alloc (S := []) w4 (.cells #[.int .i64 1, .int .i64 0, .int .i64 0, .int .i64 t, .pointer (some ⟨W, 0, none⟩), .pointer (some ⟨Q, 0, none⟩)] 203)
 have hW5 := HW.out.keep (((Chg.refl [] w3).drew.then k4).then kx) (by simp) (by simp)
 have hQ5 := kx.heap hQ (by simp)
 have hV5 := kx.heap hV (by simp)
 have kk := ((k2.mono (T := [B, rb, r]) (fun x hx _ => by simp at hx; rcases hx with rfl | rfl <;> simp)).then (k3.mono (fun x hx _ => by cases hx))).then ((((Chg.refl [] w3).drew.then k4).then kx).mono (fun x hx _ => by cases hx))
 have s4 := k4.size
 generalize w4.alloc (.cells #[.int .i64 1, .int .i64 0, .int .i64 0, .int .i64 t, .pointer (some ⟨W, 0, none⟩), .pointer (some ⟨Q, 0, none⟩)] 203) = w5 at *
 obtain ⟨-, mm, k6⟩ := upd178 h5.map bn (.pointer (some ⟨w4.heap.size, 0, none⟩))
 have h6 := h5.table k6 mm
 have t6 : TxT (updW w5 193 r bn (.pointer (some ⟨w4.heap.size, 0, none⟩))) w4.heap.size W Q t := k6.heap hT (by simpa using (map_cells h5.map hT).symm)
 have nr : rw ≠ r := by omega
 have b6 := hW5.keep k6 (by simpa using (map_cells h5.map hW5.1).symm) (by simpa using nr)
 have v6 := k6.heap hQ5 (by simpa using (map_cells h5.map hQ5).symm)
 have s6 := k6.heap hV5 (by simpa using (map_cells h5.map hV5).symm)
 have kf := kk.then (k6.mono (T := [B, rb, r]) (fun x hx _ => by simp at hx; simp [hx]))
 have hb1 : w.heap.size ≤ rw ∧ w.heap.size ≤ W := by have := k2.size; have h9 : w.drew.heap.size = w.heap.size := rfl; omega
 have hb2 : w.heap.size ≤ Q ∧ w.heap.size ≤ V := by have := k2.size; have := k3.size; have h9 : w.drew.heap.size = w.heap.size := rfl; have h8 : w3.drew.heap.size = w3.heap.size := rfl; omega
 have hb3 : w.heap.size ≤ w4.heap.size := by have := k2.size; have := k3.size; have h9 : w.drew.heap.size = w.heap.size := rfl; have h8 : w3.drew.heap.size = w3.heap.size := rfl; omega
 have n2 : rw ≠ rb := by omega
 have n3 : rw ≠ rx := by omega
 generalize w4.heap.size = T at *
 have HF := Lib.hid h6
 clear hmu q1 q2 q3 h5 h6 H4 H3 H2 HM kk hW5 hQ5 hV5 mm
 go_wp2_with fail
 go_ret2
 refine ⟨rfl, T, W, rw, Q, V, ?_⟩
 rw [← HBl.out, ← HBn.out, ← HT.out]
 have hF := HF.out
 rw [← HT.out] at hF
 exact ⟨(Chg.refl [B, rb, r] w).drew.then kf, hF, t6, b6, v6, s6, nr, n2, n3, hb3, hb1.2, hb1.1, hb2⟩
theorem sortI_pairwise (l : List Int) : (sortI l).Pairwise (fun a b => a ≤ b) := by
 have h := List.pairwise_mergeSort (le := fun x y : Int => decide (x ≤ y)) (fun a b c h1 h2 => by simp at *; omega) (fun a b => by simp; omega) l
 exact h.imp (fun h => by simpa using h)
theorem rise_puts {L : List (Int × Value)} (D : Int → List UInt8) (hn : (L.map Prod.fst).Nodup) : Rise (putsL L D) := by
 intro i hi
 have hp := sortI_pairwise (L.map Prod.fst)
 have hd : (sortI (L.map Prod.fst)).Nodup := (sortI_perm _).nodup_iff.2 hn
 have hlen : (putsL L D).length = (sortI (L.map Prod.fst)).length := by simp [putsL]
 have h1 := (List.pairwise_iff_getElem.1 hp) i (i + 1) (by omega) (by omega) (by omega)
 have h2 := (List.pairwise_iff_getElem.1 hd) i (i + 1) (by omega) (by omega) (by omega)
 have e : ∀ j (hj : j < (putsL L D).length), ((putsL L D)[j]).1 = (sortI (L.map Prod.fst))[j]'(by omega) := fun j hj => by simp [putsL]
 rw [e, e]
 omega
theorem putsL_in {L : List (Int × Value)} (D : Int → List UInt8) (hk : ∀ x ∈ L, 0 ≤ x.1 ∧ x.1 < 258) : ∀ x ∈ putsL L D, 0 ≤ x.1 ∧ x.1 < 258 := by
 intro x hx
 obtain ⟨k, hk1, rfl⟩ := List.mem_map.1 hx
 obtain ⟨p, hp, e⟩ := List.mem_map.1 ((sortI_perm _).mem_iff.1 hk1)
 show 0 ≤ k ∧ k < 258
 rw [← e]
 exact hk p hp
def Cd (lo M T rb X rx : Nat) (w w' : World) : Prop := ∃ S, Chg S w w' ∧ ∀ x ∈ S, x < w.heap.size → x = M ∨ x = T ∨ x = rb ∨ x = X ∨ x = rx ∨ (lo ≤ x ∧ ∃ cs, w.heap[x]? = some (.cells cs 288 (0, 0)))
theorem Cd.of_cv {lo M T rb X rx : Nat} {w w' : World} (h : Cv lo X rx w w') : Cd lo M T rb X rx w w' := by
 obtain ⟨S, h1, h2⟩ := h
 refine ⟨S, h1, fun x hx hl => ?_⟩
 rcases h2 x hx hl with e | e | e
 ·exact Or.inr (Or.inr (Or.inr (Or.inl e)))
 ·exact Or.inr (Or.inr (Or.inr (Or.inr (Or.inl e))))
 ·exact Or.inr (Or.inr (Or.inr (Or.inr (Or.inr e))))
theorem Cd.of_chg {lo M T rb X rx : Nat} {S : List Nat} {w w' : World} (h : Chg S w w') (hS : ∀ x ∈ S, x = M ∨ x = T ∨ x = rb ∨ x = X ∨ x = rx) : Cd lo M T rb X rx w w' :=
 ⟨S, h, fun x hx _ => by rcases hS x hx with e | e | e | e | e <;> simp [e]⟩
theorem Cd.trans {lo M T rb X rx : Nat} {a b c : World} (h : Cd lo M T rb X rx a b) (k : Cd lo M T rb X rx b c) : Cd lo M T rb X rx a c := by
 obtain ⟨S, h1, h2⟩ := h
 obtain ⟨U, k1, k2⟩ := k
 refine ⟨S ++ U, (h1.mono (fun x hx _ => List.mem_append_left _ hx)).trans k1 (fun x hx _ => List.mem_append_right _ hx), fun x hx hlt => ?_⟩
 by_cases hT : x ∈ S
 ·exact h2 x hT hlt
 ·rcases List.mem_append.1 hx with h | h
  ·exact absurd h hT
  ·rcases k2 x h (Nat.lt_of_lt_of_le hlt h1.size) with e | e | e | e | e | ⟨e, cs, hh⟩
   ·exact Or.inl e
   ·exact Or.inr (Or.inl e)
   ·exact Or.inr (Or.inr (Or.inl e))
   ·exact Or.inr (Or.inr (Or.inr (Or.inl e)))
   ·exact Or.inr (Or.inr (Or.inr (Or.inr (Or.inl e))))
   ·exact Or.inr (Or.inr (Or.inr (Or.inr (Or.inr ⟨e, cs, by rw [← h1.block x hlt hT]; exact hh⟩))))
structure Dn (w wr : World) (M X rx B rb r T W Q : Nat) (s : Gs) (k t h : Int) (l : List (Int × List UInt8)) : Prop where
 mx : ∃ Lv', Mx wr M X rx B rb r { s with last := k, lastv := k, Lv := Lv', vs := applyV s.vs k l, Lb := delL s.Lb h } ∧ ApL Lv' ∧ ∀ p ∈ Lv', 0 ≤ p.1 ∧ p.1 < 258
 cd : Cd s.lo M T rb X rx w wr
 tx : wr.heap[T]? = some (.cells #[.int .i64 3, .int .i64 k, .int .i64 0, .int .i64 t, .pointer (some ⟨W, 0, none⟩), .pointer (some ⟨Q, 0, none⟩)] 203 (0, 0))
theorem Mx.applied {w w' : World} {M X rx B rb r : Nat} {s : Gs} {k : Int} {Lv' : List (Int × Value)} {vs' : Int → List (Int × List UInt8)} (h : Mx w M X rx B rb r s) (hc : Cv s.lo X rx w w') (hv : VerG w' s.lo X rx k Lv' vs') : Mx w' M X rx B rb r { s with lastv := k, Lv := Lv', vs := vs' } := by
 obtain ⟨S, h1, h2⟩ := hc
 have av : ∀ ts, 270 ∉ ts → 288 ∉ ts → Av w S ts := fun ts a b => Cv.av h2 h.ver.x h.ver.m a b
 exact ⟨h1.heap h.mgr ((av [195] (by decide) (by decide)).ne h.mgr (by simp)), hv, ⟨h1.heap h.book.1 ((av [265] (by decide) (by decide)).ne h.book.1 (by simp)), h.book.2.keep h1 (Cv.map h2 h.ver.x h.book.2 h.n1.symm)⟩, h.map.keep h1 (Cv.map h2 h.ver.x h.map h.n3), h.n1, h.n2, h.n3⟩
theorem Mx.set {w : World} {M X rx B rb r : Nat} {s s' : Gs} (h : Mx w M X rx B rb r s) (i : Nat) (v : Value) (hm : MgrG (w.setCell ⟨M, i, none⟩ v) M X B r s'.qv s'.out s'.num s'.bas s'.last s'.given s'.rd) (e1 : s'.lo = s.lo) (e2 : s'.lastv = s.lastv) (e3 : s'.Lv = s.Lv) (e4 : s'.vs = s.vs) (e5 : s'.bl = s.bl) (e6 : s'.Lb = s.Lb) (e7 : s'.Lr = s.Lr) : Mx (w.setCell ⟨M, i, none⟩ v) M X rx B rb r s' := by
 have kS := Chg.set w M i v
 refine ⟨hm, ?_, ?_, ?_, h.n1, h.n2, h.n3⟩
 ·rw [e1, e2, e3, e4]
  exact h.ver.keepA kS (Av.row h.mgr (by decide)) (by simpa using map_cells h.ver.m h.mgr)
 ·rw [e5, e6]
  exact ⟨kS.heap h.book.1 (by simpa using heap_ne h.book.1 h.mgr (by simp)), h.book.2.keep kS (by simpa using map_cells h.book.2 h.mgr)⟩
 ·rw [e7]
  exact h.map.keep kS (by simpa using map_cells h.map h.mgr)
theorem ownsRow_low {w : World} {b b' e size n : Nat} {v : Value} {xs : List Value} (h : w.ownsRow b e size v n xs) (hb : b' ≤ b) : w.ownsRow b' e size v n xs := by
 obtain ⟨h1, h2⟩ := h
 refine ⟨h1, ?_⟩
 rcases h2 with h2 | ⟨g, cap, cur, e1, e2, e3⟩
 ·exact Or.inl h2
 ·exact Or.inr ⟨g, cap, cur, e1, Nat.le_trans hb e2, e3⟩
theorem TxOne.hp {w : World} {lo g c : Nat} {k : Int} {l : List (Int × List UInt8)} (h : TxOne w lo (.slice (some ⟨g, 0, none⟩) 1 c) k l) : ∃ cs, w.heap[g]? = some (.cells cs 185 (0, 0)) := by
 obtain ⟨g', c', cs, pv, e, -, -, h4, -⟩ := h
 cases e
 exact ⟨cs, h4⟩
set_option maxRecDepth 100000 in
set_option maxHeartbeats 8000000 in
theorem tdone_ok (w : World) {M X rx B rb r gq cq T W rw Q : Nat} {s : Gs} {hdl k t t0 : Int} {L : List (Int × Value)} {D : Int → List UInt8} (hx : Mx w M X rx B rb r s) (hqv : s.qv = .slice (some ⟨gq, 0, none⟩) 1 cq) (hcq : 1 ≤ cq) (hout : s.out = 1)
  (hq : w.cell? ⟨gq, 0, none⟩ = some (.int .i64 hdl)) (hg : getL s.Lr hdl = some (.pointer (some ⟨T, 0, none⟩))) (hT : TxW w T W Q k t) (hb : BufAt w W rw L) (hD : BufD w L D) (hk : ∀ x ∈ L, 0 ≤ x.1 ∧ x.1 < 258) (hl0 : 0 < L.length) (hl : L.length ≤ 16)
  (hap : ApL s.Lv) (hkeys : ∀ p ∈ s.Lv, 0 ≤ p.1 ∧ p.1 < 258) (hlo : s.lo ≤ w.heap.size) (hlast : s.lastv < k) (hk1 : k ≤ 1099511627776) (hs : ∀ c, (s.vs c).length + 16 < 1000000) (hLb : getL s.Lb hdl = some (.int .i64 t0)) (hn0 : 0 ≤ s.num) (hn1 : s.num ≤ 1000000000) :
  Calls Tryz.prog 63 #[.pointer (some ⟨M, 0, none⟩), .int .i64 0] w fun e w' => e = .returned (.int .i64 0) ∧ ∃ z, Dn w w' M X rx B rb r T W Q { s with qv := .slice (some ⟨z, 0, none⟩) 0 0, out := 0, num := s.num + 1 } k t hdl (putsL L D) ∧ w'.ownsRow w.heap.size 3 1 (.slice (some ⟨z, 0, none⟩) 0 0) 0 [] := by
 have hm := hx.mgr
 rw [hqv, hout] at hm
 have HG := Lib.hid (tgone_x w hx)
 have m4 : w.cell? ⟨M, 4, none⟩ = some (.int .i64 1) := cell_is hm 4 rfl
 have m3 : w.cell? ⟨M, 3, none⟩ = some (.slice (some ⟨gq, 0, none⟩) 1 cq) := cell_is hm 3 rfl
 have HWt := Lib.hid (waiting_one w.drew (k := k) (t := t) (show MgrG w.drew M X B r _ _ _ _ _ _ _ from hm) hq hx.map hg hT (hb.keep (Chg.refl [] w).drew (by simp) (by simp)) (hD.keep (Chg.refl [] w).drew) hk (by omega))
 have hnd : (L.map Prod.fst).Nodup := hb.2.nodup
 have hr := rise_puts D hnd
 have hin := putsL_in D hk
 have hlen : (putsL L D).length = L.length := putsL_length L D
 rw [← hlen] at hl0 hl
 have HX := Lib.hid hx
 have HT := Lib.hid hT
 have HGt := Lib.hid hg
 have HLb := Lib.hid hLb
 have HR := Lib.hid hr
 have HIn := Lib.hid hin
 have HAp := Lib.hid hap
 have HKs := Lib.hid hkeys
 have HS := Lib.hid hs
 have HN := Lib.hid (And.intro hn0 hn1)
 have HLo := Lib.hid hlo
 have HLa := Lib.hid hlast
 have HQv := Lib.hid hqv
 have HOt := Lib.hid hout
 have HL := Lib.hid (And.intro hl0 hl)
 clear hx hm hqv hout hg hT hb hD hk hnd hr hin hlen hap hkeys hlo hlast hs hLb hn0 hn1 hl0 hl
 generalize putsL L D = l at *
 have kd : Chg [] w w.drew := (Chg.refl [] w).drew
 have m4d : w.drew.cell? ⟨M, 4, none⟩ = some (.int .i64 1) := m4
 have hcqi : (1 : Int) ≤ cq := by omega
 go_enter Tryz.func63, Tryz.ntmps63
 go_wp2_with fail
 refine HG.out.mono ?_
 rintro e w1 ⟨rfl, rfl⟩
 go_wp2_with fail
 go_region_held3 (fun wx => wx.cell? ⟨M, 4, none⟩ = some (.int .i64 1))
  (first | (exact m4) | (exact m4d) | (exact k2'.cell m4d (by simp)))
  (first
   | (go_at_call 133; refine HWt.out.mono ?_; rintro e w2 ⟨v, rfl, k2', ht⟩; obtain ⟨g, c, pb, cb, rfl, hc1, hlg, hglt, g0, g1, hcb, hp⟩ := ht.open_; have hc1i : (1 : Int) ≤ c := (by omega); obtain ⟨cg, hgh⟩ := ht.hp))
 have k2 := kd.then k2'
 have m42 := k2.cell m4 (by simp)
 have m32 := k2.cell m3 (by simp)
 have q2 := k2.cell hq (by simp)
 have HP2 := Lib.hid hp
 clear k2' m4 m3 m4d hq HWt HG hp ht kd
 have kd2 : Chg [] w2 w2.drew := (Chg.refl [] w2).drew
 have m42d : w2.drew.cell? ⟨M, 4, none⟩ = some (.int .i64 1) := m42
 have m32d : w2.drew.cell? ⟨M, 3, none⟩ = some (.slice (some ⟨gq, 0, none⟩) 1 cq) := m32
 have q2d : w2.drew.cell? ⟨gq, 0, none⟩ = some (.int .i64 hdl) := q2
 go_wp2_with fail
 go_region_held3 (fun wx => wx.cell? ⟨M, 4, none⟩ = some (.int .i64 1) ∧ wx.cell? ⟨M, 3, none⟩ = some (.slice (some ⟨gq, 0, none⟩) 1 cq))
  (first | (exact ⟨m42, m32⟩) | (exact ⟨m42d, m32d⟩) | (exact ⟨k3'.cell m42d (by simp), k3'.cell m32d (by simp)⟩))
  (first
   | (go_at_call 138; refine (iclone_one w2.drew q2d).mono ?_; rintro e w3 ⟨gz, cz, rfl, k3', o3⟩))
 have k3 := k2.then (kd2.then k3')
 have hg3 := (kd2.then k3').heap hgh (by simp)
 have g03 := (kd2.then k3').cell g0 (by simp)
 have g13 := (kd2.then k3').cell g1 (by simp)
 have HP3 := Lib.hid (HP2.out.keep0 (kd2.then k3'))
 have HX3 := Lib.hid (HX.out.keep k3)
 have T3 := k3.heap HT.out (by simp)
 have z3 : w3.cell? ⟨gz, 0, none⟩ = some (.int .i64 hdl) := by
  rcases o3.2 with ⟨e, h0⟩ | ⟨g', cap', cur', e, -, hh, -, -, -, ht⟩
  ·omega
  ·cases e
   refine cell_is hh 0 ?_
   have := congrArg (fun l => l[0]?) ht
   simpa [List.getElem?_take] using this
 have hcz : (1 : Int) ≤ cz := by
  obtain ⟨pz, cz', e, hle⟩ := own_form o3
  cases e
  omega
 have hlo3 : s.lo ≤ w3.heap.size := Nat.le_trans HLo.out k3.size
 clear k3' m42 m32 q2 m42d m32d q2d HP2 g0 g1 o3 kd2 hgh
 go_wp2_with fail
 go_loopw [6, 7, 35] (fun _ _ i wr => (i = .int .i64 0 ∧ wr = w3) ∨ (i = .int .i64 1 ∧ Dn w wr M X rx B rb r T W Q s k t hdl l)) (fun _ _ i _ => 1 - (intOf i).toNat)
 case atStart => exact Or.inl ⟨rfl, rfl⟩
 case round =>
  rcases hrel with ⟨rfl, rfl⟩ | ⟨rfl, hDn⟩
  ·rename World => wr
   have HLn := HL.out
   have HAy := Lib.hid (apply_ok wr.drew (HX3.out.keep (Chg.refl [] wr).drew).ver HAp.out HKs.out hlo3 (HP3.out.keep0 (Chg.refl [] wr).drew) HIn.out HR.out HLn.1 HLn.2 HLa.out hk1 HS.out)
   have m0 : wr.cell? ⟨M, 0, none⟩ = some (.pointer (some ⟨X, 0, none⟩)) := HX3.out.cells.1
   clear HLn
   go_wp2_with fail
   have m0d : wr.drew.cell? ⟨M, 0, none⟩ = some (.pointer (some ⟨X, 0, none⟩)) := m0
   have g0d : wr.drew.cell? ⟨g, 0, none⟩ = some (.int .i64 k) := g03
   have g1d : wr.drew.cell? ⟨g, 1, none⟩ = some (.slice pb l.length cb) := g13
   have HHg := Lib.hid (show wr.drew.heap[g]? = some (.cells cg 185 (0, 0)) from hg3)
   have HXd := Lib.hid (HX3.out.keep (Chg.refl [] wr).drew)
   go_region_held3 (fun wx => wx.cell? ⟨M, 0, none⟩ = some (.pointer (some ⟨X, 0, none⟩)) ∧ wx.cell? ⟨g, 0, none⟩ = some (.int .i64 k) ∧ wx.cell? ⟨g, 1, none⟩ = some (.slice pb l.length cb))
    (first | (exact ⟨m0, g03, g13⟩) | (exact ⟨m0d, g0d, g1d⟩) | (exact ⟨kU.cell m0d hU1, kU.cell g0d hU2, kU.cell g1d hU2⟩))
    (first
     | (go_at_call 139; refine HAy.out.mono ?_; rintro e w6 ⟨rfl, hcv, Lv', hv', hap', hk'⟩; obtain ⟨U, kU, hU⟩ := id hcv; have hU1 := (Cv.av (ts := [195]) hU HXd.out.ver.x HXd.out.ver.m (by decide) (by decide)).ne HXd.out.mgr (by simp); have hU2 := (Cv.av (ts := [185]) hU HXd.out.ver.x HXd.out.ver.m (by decide) (by decide)).ne HHg.out (by simp)))
   have hx6 := HXd.out.applied hcv hv'
   have T6 := kU.heap (show wr.drew.heap[T]? = _ from T3) ((Cv.av (ts := [203]) hU HXd.out.ver.x HXd.out.ver.m (by decide) (by decide)).ne (show wr.drew.heap[T]? = _ from T3) (by simp))
   have m76 : w6.cell? ⟨M, 7, none⟩ = some (.int .i64 s.last) := hx6.cells.2.2.2
   have f76 := unfrozen hx6.mgr 7
   have g06 := kU.cell g0d hU2
   have hMT : T ≠ M := heap_ne T6 hx6.mgr (by simp)
   have hx7 := hx6.set (s' := { s with last := k, lastv := k, Lv := Lv', vs := applyV s.vs k l }) 7 (.int .i64 k) (heap_set hx6.mgr 7 _ rfl) rfl rfl rfl rfl rfl rfl rfl
   have T7 := heap_set_ne T6 hMT 7 (.int .i64 k)
   have HE := Lib.hid (tend_ok _ hx7.mgr hx7.map HGt.out T7 hx7.book HLb.out)
   have HX7 := Lib.hid hx7
   have HT7 := Lib.hid T7
   have HC7 := Lib.hid (((Cd.of_chg (lo := s.lo) (M := M) (T := T) (rb := rb) (X := X) (rx := rx) (k3.then (Chg.refl [] wr).drew) (fun x hx => by cases hx)).trans (Cd.of_cv hcv)).trans (Cd.of_chg (Chg.set w6 M 7 (.int .i64 k)) (fun x hx => by simp at hx; simp [hx])))
   have HA7 := Lib.hid (And.intro hap' hk')
   clear hx6 hx7 T6 T7 hcv hv' hap' hk' kU hU hU1 hU2 m0 m0d g0d g1d hMT HHg HXd HAy g03 g13 T3 HX3 HP3
   go_wp2_with fail
   refine HE.out.mono ?_
   rintro e w8 ⟨rfl, k8, hb8, T8⟩
   have hDn : Dn w w8 M X rx B rb r T W Q s k t hdl l := by
    have h7 := HX7.out
    have av : ∀ ts, 203 ∉ ts → Av (w6.setCell ⟨M, 7, none⟩ (.int .i64 k)) [T, rb] ts := fun ts h1 x hx cs t' fr hh => by
     simp at hx
     rcases hx with rfl | rfl
     ·rw [HT7.out] at hh; cases hh; exact h1
     ·exact absurd rfl (map_cells h7.book.2 hh)
    have nT : ∀ {x L}, MapAt (w6.setCell ⟨M, 7, none⟩ (.int .i64 k)) x L → x ≠ rb → x ∉ [T, rb] := fun hm hx => by simp; exact ⟨map_cells hm HT7.out, hx⟩
    exact ⟨⟨Lv', ⟨k8.heap h7.mgr ((av [195] (by decide)).ne h7.mgr (by simp)), h7.ver.keepA k8 (av _ (by decide)) (nT h7.ver.m h7.n1), hb8, h7.map.keep k8 (nT h7.map h7.n2), h7.n1, h7.n2, h7.n3⟩, HA7.out⟩, HC7.out.trans (Cd.of_chg k8 (fun x hx => by simp at hx; rcases hx with e | e <;> simp [e])), T8⟩
   have HDn := Lib.hid hDn
   clear hDn k8 hb8 T8 HX7 HT7 HC7 HA7 HE
   go_wp2_with fail
   exact ⟨Or.inr ⟨rfl, HDn.out⟩, by decide⟩
  ·obtain ⟨⟨Lv', hx, hap', hk'⟩, hcd, hT8⟩ := hDn
   rename World => wr
   have hm := hx.mgr
   dsimp only at hm
   rw [HQv.out, HOt.out] at hm
   obtain ⟨hn0, hn1⟩ := HN.out
   have m5 : wr.cell? ⟨M, 5, none⟩ = some (.int .i64 s.num) := cell_is hm 5 rfl
   have f5 := unfrozen hm 5
   have hm5 : MgrG (wr.setCell ⟨M, 5, none⟩ (.int .i64 (s.num + 1))) M X B r (.slice (some ⟨gq, 0, none⟩) 1 cq) 1 (s.num + 1) s.bas k s.given s.rd := heap_set hm 5 _ rfl
   have n3 : (wr.setCell ⟨M, 5, none⟩ (.int .i64 (s.num + 1))).cell? ⟨M, 3, none⟩ = some (.slice (some ⟨gq, 0, none⟩) 1 cq) := cell_is hm5 3 rfl
   have n4 : (wr.setCell ⟨M, 5, none⟩ (.int .i64 (s.num + 1))).cell? ⟨M, 4, none⟩ = some (.int .i64 1) := cell_is hm5 4 rfl
   have HM := Lib.hid hm
   have HM5 := Lib.hid hm5
   have HXf := Lib.hid hx
   have HA7 := Lib.hid (And.intro hap' hk')
   have HCd := Lib.hid hcd
   clear hm hm5 hx hap' hk' hcd g03 g13 HX3 HP3 T3
   go_upto_region 15 with fail
   have hx5 := HXf.out.set (s' := { s with last := k, lastv := k, Lv := Lv', vs := applyV s.vs k l, Lb := delL s.Lb hdl, num := s.num + 1 }) 5 (.int .i64 (s.num + 1)) (by rw [HQv.out, HOt.out]; exact HM5.out) rfl rfl rfl rfl rfl rfl rfl
   have HX5 := Lib.hid hx5
   have k5 := Chg.set wr M 5 (.int .i64 (s.num + 1))
   have hMT : T ≠ M := heap_ne hT8 HM.out (by simp)
   have T5 := heap_set_ne hT8 hMT 5 (.int .i64 (s.num + 1))
   clear hx5 m5 f5 hn0 hn1 hT8
   generalize wr.setCell ⟨M, 5, none⟩ (.int .i64 (s.num + 1)) = w5 at *
   have kd5 : Chg [] w5 w5.drew := (Chg.refl [] w5).drew
   have n3d : w5.drew.cell? ⟨M, 3, none⟩ = some (.slice (some ⟨gq, 0, none⟩) 1 cq) := n3
   have n4d : w5.drew.cell? ⟨M, 4, none⟩ = some (.int .i64 1) := n4
   have hcq2 : cq = 1 ∨ ¬ cq = 1 := by omega
   rcases hcq2 with hcq1 | hcq1
   ·subst hcq1
    go_region_law
     (first
      | (go_simp; go_at_call 138; refine (iclone_zero w5.drew gq _ _).mono ?_; rintro e w6 ⟨zq, rfl, k6, o6⟩; have f36 := unfrozen ((kd5.then k6).heap HM5.out (by simp)) 3; have m36 : w6.cell? ⟨M, 3, none⟩ = some _ := cell_is ((kd5.then k6).heap HM5.out (by simp)) 3 rfl))
    all_goals
     have k56 := kd5.then k6
     have hx6 := HX5.out.keep k56
     have hm6 := k56.heap HM5.out (by simp)
     have T6 := k56.heap T5 (by simp)
     have f46 := unfrozen hm6 4
     have m46 : w6.cell? ⟨M, 4, none⟩ = some (.int .i64 1) := cell_is hm6 4 rfl
     have hmA : MgrG (w6.setCell ⟨M, 3, none⟩ (.slice (some ⟨zq, 0, none⟩) 0 0)) M X B r (.slice (some ⟨zq, 0, none⟩) 0 0) 1 (s.num + 1) s.bas k s.given s.rd := heap_set hm6 3 _ rfl
     have hmB : MgrG ((w6.setCell ⟨M, 3, none⟩ (.slice (some ⟨zq, 0, none⟩) 0 0)).setCell ⟨M, 4, none⟩ (.int .i64 0)) M X B r (.slice (some ⟨zq, 0, none⟩) 0 0) 0 (s.num + 1) s.bas k s.given s.rd := heap_set hmA 4 _ rfl
     have hxA := hx6.set (s' := { s with last := k, lastv := k, Lv := Lv', vs := applyV s.vs k l, Lb := delL s.Lb hdl, num := s.num + 1, qv := .slice (some ⟨zq, 0, none⟩) 0 0 }) 3 (.slice (some ⟨zq, 0, none⟩) 0 0) (by rw [HOt.out]; exact hmA) rfl rfl rfl rfl rfl rfl rfl
     have hxB := hxA.set (s' := { s with last := k, lastv := k, Lv := Lv', vs := applyV s.vs k l, Lb := delL s.Lb hdl, num := s.num + 1, qv := .slice (some ⟨zq, 0, none⟩) 0 0, out := 0 }) 4 (.int .i64 0) hmB rfl rfl rfl rfl rfl rfl rfl
     have TB := heap_set_ne (heap_set_ne T6 hMT 3 (.slice (some ⟨zq, 0, none⟩) 0 0)) hMT 4 (.int .i64 0)
     have kA := Chg.set w6 M 3 (.slice (some ⟨zq, 0, none⟩) 0 0)
     have kB := Chg.set (w6.setCell ⟨M, 3, none⟩ (.slice (some ⟨zq, 0, none⟩) 0 0)) M 4 (.int .i64 0)
     have oB := ownsRow_av (ownsRow_av o6 kA (Av.row hm6 (by decide))) kB (Av.row hmA (by decide))
     have hszd : w.heap.size ≤ w5.drew.heap.size := by
      obtain ⟨S, hS, -⟩ := HCd.out
      exact Nat.le_trans hS.size k5.size
     have one : ∀ {a b : World}, Chg [M] a b → Cd s.lo M T rb X rx a b := fun h => Cd.of_chg h (fun x hx => by simp at hx; simp [hx])
     have HFin := Lib.hid (And.intro (Dn.mk (s := { s with qv := .slice (some ⟨zq, 0, none⟩) 0 0, out := 0, num := s.num + 1 }) (w := w) (l := l) ⟨Lv', hxB, HA7.out⟩ ((((HCd.out.trans (one k5)).trans (Cd.of_chg k56 (fun x hx => by cases hx))).trans (one kA)).trans (one kB)) TB) (ownsRow_low oB hszd))
     clear hx6 hm6 T6 hmA hmB hxA hxB TB kA kB oB one k56 k6 o6 HX5 HM5 HM T5 hMT
     go_wp2_with fail
     go_ret
     exact ⟨rfl, zq, HFin.out⟩
   ·go_region_law
     (first
      | (go_simp; go_at_call 138; refine (iclone_zero w5.drew gq _ _).mono ?_; rintro e w6 ⟨zq, rfl, k6, o6⟩; have f36 := unfrozen ((kd5.then k6).heap HM5.out (by simp)) 3; have m36 : w6.cell? ⟨M, 3, none⟩ = some _ := cell_is ((kd5.then k6).heap HM5.out (by simp)) 3 rfl))
    all_goals
     have k56 := kd5.then k6
     have hx6 := HX5.out.keep k56
     have hm6 := k56.heap HM5.out (by simp)
     have T6 := k56.heap T5 (by simp)
     have f46 := unfrozen hm6 4
     have m46 : w6.cell? ⟨M, 4, none⟩ = some (.int .i64 1) := cell_is hm6 4 rfl
     have hmA : MgrG (w6.setCell ⟨M, 3, none⟩ (.slice (some ⟨zq, 0, none⟩) 0 0)) M X B r (.slice (some ⟨zq, 0, none⟩) 0 0) 1 (s.num + 1) s.bas k s.given s.rd := heap_set hm6 3 _ rfl
     have hmB : MgrG ((w6.setCell ⟨M, 3, none⟩ (.slice (some ⟨zq, 0, none⟩) 0 0)).setCell ⟨M, 4, none⟩ (.int .i64 0)) M X B r (.slice (some ⟨zq, 0, none⟩) 0 0) 0 (s.num + 1) s.bas k s.given s.rd := heap_set hmA 4 _ rfl
     have hxA := hx6.set (s' := { s with last := k, lastv := k, Lv := Lv', vs := applyV s.vs k l, Lb := delL s.Lb hdl, num := s.num + 1, qv := .slice (some ⟨zq, 0, none⟩) 0 0 }) 3 (.slice (some ⟨zq, 0, none⟩) 0 0) (by rw [HOt.out]; exact hmA) rfl rfl rfl rfl rfl rfl rfl
     have hxB := hxA.set (s' := { s with last := k, lastv := k, Lv := Lv', vs := applyV s.vs k l, Lb := delL s.Lb hdl, num := s.num + 1, qv := .slice (some ⟨zq, 0, none⟩) 0 0, out := 0 }) 4 (.int .i64 0) hmB rfl rfl rfl rfl rfl rfl rfl
     have TB := heap_set_ne (heap_set_ne T6 hMT 3 (.slice (some ⟨zq, 0, none⟩) 0 0)) hMT 4 (.int .i64 0)
     have kA := Chg.set w6 M 3 (.slice (some ⟨zq, 0, none⟩) 0 0)
     have kB := Chg.set (w6.setCell ⟨M, 3, none⟩ (.slice (some ⟨zq, 0, none⟩) 0 0)) M 4 (.int .i64 0)
     have oB := ownsRow_av (ownsRow_av o6 kA (Av.row hm6 (by decide))) kB (Av.row hmA (by decide))
     have hszd : w.heap.size ≤ w5.drew.heap.size := by
      obtain ⟨S, hS, -⟩ := HCd.out
      exact Nat.le_trans hS.size k5.size
     have one : ∀ {a b : World}, Chg [M] a b → Cd s.lo M T rb X rx a b := fun h => Cd.of_chg h (fun x hx => by simp at hx; simp [hx])
     have HFin := Lib.hid (And.intro (Dn.mk (s := { s with qv := .slice (some ⟨zq, 0, none⟩) 0 0, out := 0, num := s.num + 1 }) (w := w) (l := l) ⟨Lv', hxB, HA7.out⟩ ((((HCd.out.trans (one k5)).trans (Cd.of_chg k56 (fun x hx => by cases hx))).trans (one kA)).trans (one kB)) TB) (ownsRow_low oB hszd))
     clear hx6 hm6 T6 hmA hmB hxA hxB TB kA kB oB one k56 k6 o6 HX5 HM5 HM T5 hMT
     go_wp2_with fail
     go_ret
     exact ⟨rfl, zq, HFin.out⟩


theorem nodup_ne {Z : List Nat} (h : Z.Nodup) {i j : Nat} (hi : i < Z.length) (hj : j < Z.length) (hij : i ≠ j) : Z[i] ≠ Z[j] := by
 have h2 := List.pairwise_iff_getElem.1 h
 rcases Nat.lt_or_gt_of_ne hij with h3 | h3
 ·exact h2 i j hi hj h3
 ·exact (h2 j i hj hi h3).symm
def upF {α : Type} (f : Nat → α) (j : Nat) (x : α) : Nat → α := fun k => if k = j then x else f k
theorem DevG.put {w w' : World} {base N A c : Nat} {ops : Int} {Z : List Nat} {vs : Nat → Value} {gs : Nat → Nat} {zs : Nat → List (List UInt8)} (h : DevG w base N A c ops Z vs gs zs) {j : Nat} (hj : j < Z.length) {v' : Value} {l' : List (List UInt8)}
  (hc : Chg (Z[j] :: (vs j).ownBlock.toList) w w') (hz : w'.heap[Z[j]]? = some (.cells #[v', .int .i64 (gs j : Nat)] 132 (0, 0))) (hr : RowsAt w' base v' l') (hb : ∀ g, v'.ownBlock = some g → (vs j).ownBlock = some g ∨ w.heap.size ≤ g) :
  DevG w' base N A c ops Z (upF vs j v') gs (upF zs j l') := by
 have hj8 : j < 8 := by have := h.len; omega
 have hzj := h.zone j hj
 have ht : ∀ {g : Nat} {cs : Array Value} {t : TypeId}, w.heap[g]? = some (.cells cs t (0, 0)) → t ≠ 132 → t ≠ 47 → g ∉ Z[j] :: (vs j).ownBlock.toList := by
  intro g cs t hg h1 h2 hm
  rcases List.mem_cons.1 hm with rfl | hm
  ·rw [hzj] at hg; cases hg; exact h1 rfl
  ·obtain ⟨cs2, hb2⟩ := (h.rows j hj8).block g (by simpa using hm)
   rw [hg] at hb2; cases hb2; exact h2 rfl
 have hzk : ∀ k (hk : k < Z.length), k ≠ j → Z[k] ∉ Z[j] :: (vs j).ownBlock.toList := by
  intro k hk hkj hm
  rcases List.mem_cons.1 hm with e | hm
  ·exact nodup_ne h.nodup hk hj hkj e
  ·obtain ⟨cs2, hb2⟩ := (h.rows j hj8).block _ (by simpa using hm)
   rw [h.zone k hk] at hb2; cases hb2
 have hvk : ∀ k g, k < 8 → k ≠ j → (vs k).ownBlock = some g → g ∉ Z[j] :: (vs j).ownBlock.toList := by
  intro k g hk hkj hg hm
  rcases List.mem_cons.1 hm with e | hm
  ·obtain ⟨cs2, hb2⟩ := (h.rows k hk).block g hg
   rw [e, hzj] at hb2; cases hb2
  ·exact h.apart k j g hk hj8 hkj hg (by simpa using hm)
 obtain ⟨cA, hA⟩ := h.tA
 have av5 : Av w (Z[j] :: (vs j).ownBlock.toList) [5] := fun x hx cs t fr hh h5 => by
  simp at h5
  subst h5
  rcases List.mem_cons.1 hx with rfl | hm
  ·rw [hzj] at hh; cases hh
  ·obtain ⟨cs2, hb2⟩ := (h.rows j hj8).block x (by simpa using hm)
   rw [hh] at hb2; cases hb2
 refine ⟨hc.heap h.hdr (ht h.hdr (by decide) (by decide)), h.cap, h.len, ⟨cA, hc.heap hA (ht hA (by decide) (by decide))⟩, fun k hk => hc.cell (h.ptr k hk) (ht hA (by decide) (by decide)), fun k hk => ?_, fun k hk => ?_, fun a b g ha hb8 hab hg => ?_, h.nodup⟩
 ·by_cases hkj : k = j
  ·subst hkj
   simpa [upF] using hz
  ·simpa [upF, hkj] using hc.heap (h.zone k hk) (hzk k hk hkj)
 ·by_cases hkj : k = j
  ·subst hkj
   simpa [upF] using hr
  ·simpa [upF, hkj] using (h.rows k hk).keep hc av5 (fun g hg => hvk k g hk hkj hg)
 ·by_cases haj : a = j
  ·have hbj : b ≠ j := fun e => hab (haj.trans e.symm)
   simp only [upF, if_pos haj] at hg
   simp only [upF, if_neg hbj]
   intro hg2
   rcases hb g hg with h1 | h1
   ·exact h.apart j b g hj8 hb8 (fun e => hbj e.symm) h1 hg2
   ·obtain ⟨cs2, hb2⟩ := (h.rows b hb8).block g hg2
    have := heap_lt hb2
    omega
  ·simp only [upF, if_neg haj] at hg
   by_cases hbj : b = j
   ·simp only [upF, if_pos hbj]
    intro hg2
    rcases hb g hg2 with h1 | h1
    ·exact h.apart a j g ha hj8 haj hg h1
    ·obtain ⟨cs2, hb2⟩ := (h.rows a ha).block g hg
     have := heap_lt hb2
     omega
   ·simp only [upF, if_neg hbj]
    exact h.apart a b g ha hb8 hab hg
theorem DevG.appended {wy w5 : World} {base N A c : Nat} {ops : Int} {Z : List Nat} {vs : Nat → Value} {gs : Nat → Nat} {zs : Nat → List (List UInt8)} (dy : DevG wy base N A c ops Z vs gs zs) {j : Nat} (hj : j < Z.length)
  {pa : Option Addr} {cv g2 c2 g5 cp5 : Nat} {xs : List Value} {l : List UInt8} (hv : vs j = .slice pa (zs j).length cv) (hx : ∀ i (h : i < (zs j).length), ∃ g c, xs[i]? = some (.slice (some ⟨g, 0, none⟩) 64 c) ∧ Bs wy (some ⟨g, 0, none⟩) (zs j)[i] ∧ (zs j)[i].length = 64 ∧ Bt wy g)
  (hxl : xs.length = (zs j).length) (o5 : w5.ownsRow base 47 1 (.slice (some ⟨g5, 0, none⟩) ((zs j).length + 1) cp5) ((zs j).length + 1) (xs ++ [.slice (some ⟨g2, 0, none⟩) 64 c2])) (k5 : Chg (Value.slice pa (zs j).length cv).ownBlock.toList wy w5)
  (i5 : (Value.slice pa (zs j).length cv).ownBlock = some g5 ∨ g5 = wy.heap.size) (b2 : Bs wy (some ⟨g2, 0, none⟩) l) (hl : l.length = 64) (t2 : Bt wy g2) :
  Chg (Z[j] :: (vs j).ownBlock.toList) wy (w5.setCell ⟨Z[j], 0, none⟩ (.slice (some ⟨g5, 0, none⟩) ((zs j).length + 1) cp5)) ∧
  DevG (w5.setCell ⟨Z[j], 0, none⟩ (.slice (some ⟨g5, 0, none⟩) ((zs j).length + 1) cp5)) base N A c ops Z (upF vs j (.slice (some ⟨g5, 0, none⟩) ((zs j).length + 1) cp5)) gs (upF zs j (zs j ++ [l])) := by
 have hj8 : j < 8 := by have := dy.len; omega
 have hb23 := (dy.rows j hj8).block
 have hzj := dy.zone j hj
 have hzn : Z[j] ∉ (vs j).ownBlock.toList := by
  intro hm
  obtain ⟨cs, h1⟩ := hb23 _ (by simpa using hm)
  rw [hzj] at h1
  cases h1
 have Z5 := k5.heap hzj (by rw [← hv]; exact hzn)
 rw [hv] at Z5
 have r5 : RowsAt w5 base (.slice (some ⟨g5, 0, none⟩) ((zs j).length + 1) cp5) (zs j ++ [l]) := RowsAt.push (v := .slice pa (zs j).length cv) hx hxl (by rw [← hv]; exact hb23) o5 k5 b2 hl t2
 have hset := Chg.set w5 Z[j] 0 (.slice (some ⟨g5, 0, none⟩) ((zs j).length + 1) cp5)
 have rF := r5.keep hset (Av.row Z5 (by simp)) (by
  intro g hg hm
  rw [List.mem_singleton] at hm
  obtain ⟨cs, h1⟩ := r5.block g hg
  rw [hm, Z5] at h1
  cases h1)
 have kF : Chg (Z[j] :: (vs j).ownBlock.toList) wy (w5.setCell ⟨Z[j], 0, none⟩ (.slice (some ⟨g5, 0, none⟩) ((zs j).length + 1) cp5)) := by
  rw [hv]
  exact (k5.mono (fun x hx _ => List.mem_cons_of_mem _ hx)).then (hset.mono (fun x hx _ => by rw [List.mem_singleton] at hx; subst hx; exact List.mem_cons_self))
 refine ⟨kF, dy.put hj kF (heap_set Z5 0 _ rfl) rF (fun g hg => ?_)⟩
 have e : g5 = g := by simpa [Value.ownBlock] using hg
 subst e
 rw [hv]
 rcases i5 with h | h
 ·exact Or.inl h
 ·exact Or.inr (Nat.le_of_eq h.symm)
set_option maxRecDepth 100000 in
set_option maxHeartbeats 2000000 in
theorem dappend_any (w : World) {base N A c : Nat} {ops : Int} {Z : List Nat} {vs : Nat → Value} {gs : Nat → Nat} {zs : Nat → List (List UInt8)} (h : DevG w base N A c ops Z vs gs zs) (h0 : 0 ≤ ops) (h1 : ops ≤ 1000000) (j : Nat) (hj : j < Z.length) (hroom : (zs j).length < 96)
  {D o cd : Nat} {l : List UInt8} (hb : Bs w (some ⟨D, o, none⟩) l) (hl : l.length = 64) (hD : ∀ g, D = g → g ≠ N) (hlow : base ≤ N) :
  Calls Tryz.prog 136 #[.pointer (some ⟨N, 0, none⟩), .int .i64 j, .slice (some ⟨D, o, none⟩) 64 cd] w fun e w' => ∃ v', e = .returned (.tuple #[.int .i64 ((zs j).length : Nat), .int .i64 0]) ∧ Chg (N :: Z[j] :: (vs j).ownBlock.toList) w w' ∧ DevG w' base N A c (ops + 1) Z (upF vs j v') gs (upF zs j (zs j ++ [l])) ∧ (∀ g, v'.ownBlock = some g → (vs j).ownBlock = some g ∨ w.heap.size ≤ g) := by
 have hj8 : j < 8 := by have := h.len; omega
 have HA := Lib.hid (dat_any w h j hj)
 have HB := Lib.hid (dbegin_any w h h0 h1)
 have hbN : Bs w (some ⟨D, o, none⟩) l := hb
 have HD := Lib.hid (hD D rfl)
 clear hb hD
 go_enter Tryz.func136, Tryz.ntmps136
 go_wp2_with fail
 refine HA.out.mono ?_
 rintro e w1 ⟨rfl, rfl⟩
 go_wp2_with fail
 refine HB.out.mono ?_
 rintro e w1 ⟨rfl, k1, d1⟩
 have hb1 : Bs w1 (some ⟨D, o, none⟩) l := hbN.chgT k1 (by simpa using HD.out)
 obtain ⟨xs, ho, hx⟩ := d1.rows j hj8
 obtain ⟨pa, cv, hv, hcv⟩ := own_form ho
 have hz1 := d1.zone j hj
 have hb23 := (d1.rows j hj8).block
 have hN1 := heap_lt d1.hdr
 rw [hv] at hz1 ho hb23
 have z0 : w1.cell? ⟨Z[j], 0, none⟩ = some (.slice pa (zs j).length cv) := cell_is hz1 0 rfl
 have s1 : w1.cell? ⟨N, 1, none⟩ = some (.int .i64 96) := cell_is d1.hdr 1 rfl
 have hnl : ¬ (((zs j).length : Int) ≥ 96) := by omega
 have HX := Lib.hid hx
 have HO := Lib.hid ho
 have H1 := Lib.hid d1
 have H23 := Lib.hid hb23
 have HZ := Lib.hid hz1
 have HR := Lib.hid hroom
 clear hx ho d1 HA HB h hb23 hroom hz1
 generalize hzz : Z[j] = z at *
 go_wp2_with fail
 go_quiet (fail)
 have z0d : (w1.drewN nq).cell? ⟨z, 0, none⟩ = some (.slice pa (zs j).length cv) := z0
 have k2 : Chg [N] w (w1.drewN nq) := k1.drewN nq
 have hN2 : N < (w1.drewN nq).heap.size := hN1
 have hb2 : Bs (w1.drewN nq) (some ⟨D, o, none⟩) l := hb1
 have H2 := Lib.hid (H1.out.keep ((Chg.refl [] w1).drewN nq) (Av.nil _ _))
 have HX2 : Hid (∀ (i : Nat) (h : i < (zs j).length), ∃ g c, xs[i]? = some (.slice (some ⟨g, 0, none⟩) 64 c) ∧ Bs (w1.drewN nq) (some ⟨g, 0, none⟩) (zs j)[i] ∧ (zs j)[i].length = 64 ∧ Bt (w1.drewN nq) g) := HX
 have HO2 : Hid ((w1.drewN nq).ownsRow base 47 1 (.slice pa (zs j).length cv) (zs j).length xs) := HO
 have HZ2 : Hid ((w1.drewN nq).heap[z]? = some (.cells #[.slice pa (zs j).length cv, .int .i64 (gs j : Nat)] 132 (0, 0))) := HZ
 clear z0 k1 hN1 hb1 H1 HX HO HZ s1
 generalize w1.drewN nq = w2 at *
 go_wp2_with fail
 have z0e : w2.drew.cell? ⟨z, 0, none⟩ = some (.slice pa (zs j).length cv) := z0d
 go_region_law
  (first
   | (go_simp; go_at_call 126; refine (clone_bt w2.drew (l := l) (m := 64) hl (by decide) (by decide) (hb2.chg (Chg.refl [] w2).drew)).mono ?_; rintro e w6 ⟨g2, c2, rfl, k6, bs6, l6, bt6⟩; have z6 := k6.cell z0e (by simp); have ky : Chg [] w2 (w6.alloc (.cells #[.slice (some ⟨g2, 0, none⟩) 64 c2] 47)) := ((Chg.refl [] w2).drew.then k6).then_alloc _; have y0 := heap_new w6 (.cells #[.slice (some ⟨g2, 0, none⟩) 64 c2] 47); have zy := ky.cell z0d (by simp); have oy := ownsRow_av HO2.out ky (Av.nil _ _); have Zy := ky.heap HZ2.out (by simp); have hby : base ≤ (w6.alloc (.cells #[.slice (some ⟨g2, 0, none⟩) 64 c2] 47)).heap.size := (by have := ky.size; omega))
   | (refine step_append_bk rfl (.tmp 39) (.tmp 42) rfl base _ (zs j).length xs rfl oy w6.heap.size 1 _ rfl (cell_is y0 0 rfl) rfl (by have := HR.out; omega) hby ?_; intro g5 cp5 w5 o5 k5 i5; have Z5 := k5.heap Zy (own_block_ne oy Zy (by decide)); have z5 := cell_is Z5 0 rfl; have f5 := unfrozen Z5 0))
 all_goals
  have dy := H2.out.keep ky (Av.nil _ _)
  have hxl : xs.length = (zs j).length := by have := oy.1; omega
  obtain ⟨kF, dF⟩ := dy.appended hj hv (fun i hi => by
   obtain ⟨g, c, h1, h2, h3, h4⟩ := HX2.out i hi
   exact ⟨g, c, h1, h2.chg ky, h3, h4.keep ky (by simp)⟩) hxl o5 k5 i5 (bs6.chg (Chg.alloc _ _)) hl (bt6.keep (Chg.alloc (S := []) _ _) (by simp))
  have kT : Chg (N :: Z[j] :: (vs j).ownBlock.toList) w (w5.setCell ⟨Z[j], 0, none⟩ (.slice (some ⟨g5, 0, none⟩) ((zs j).length + 1) cp5)) := ((k2.mono (fun x hx _ => by rw [List.mem_singleton] at hx; subst hx; exact List.mem_cons_self)).then (ky.mono (fun x hx _ => by cases hx))).then (kF.mono (fun x hx _ => List.mem_cons_of_mem _ hx))
  have KT := Lib.hid kT
  have DF := Lib.hid dF
  have HI : Hid (∀ g, (Value.slice (some ⟨g5, 0, none⟩) ((zs j).length + 1) cp5).ownBlock = some g → (vs j).ownBlock = some g ∨ w.heap.size ≤ g) := Lib.hid (fun g hg => by
   have hg' : g5 = g := Option.some.inj hg
   subst hg'
   rw [hv]
   rcases i5 with i | i
   ·exact Or.inl i
   ·have := k2.size
    have := ky.size
    exact Or.inr (by omega))
  rw [hzz] at KT DF
  clear kT dF kF dy oy o5 k5 i5 bs6 bt6 ky y0 zy Zy z6 k6 H23
  have hsub : wrap64 (((zs j).length : Int) + 1 - 1) = ((zs j).length : Nat) := by have := HR.out; unfold wrap64; omega
  go_wp2_with fail
  go_ret2
  have hC := KT.out
  have hD := DF.out
  rw [← hzz] at hD ⊢
  exact ⟨_, rfl, by rw [hzz]; exact hC, hD, HI.out⟩
theorem DevG.setGood {w : World} {base N A c : Nat} {ops : Int} {Z : List Nat} {vs : Nat → Value} {gs : Nat → Nat} {zs : Nat → List (List UInt8)} (h : DevG w base N A c ops Z vs gs zs) {j : Nat} (hj : j < Z.length) (n : Nat) :
  DevG (w.setCell ⟨Z[j], 1, none⟩ (.int .i64 n)) base N A c ops Z vs (upF gs j n) zs := by
 have hc := Chg.set w Z[j] 1 (.int .i64 n)
 have hzj := h.zone j hj
 have ht : ∀ {g : Nat} {cs : Array Value} {t : TypeId}, w.heap[g]? = some (.cells cs t (0, 0)) → t ≠ 132 → g ∉ [Z[j]] := by
  intro g cs t hg h1 hm
  rw [List.mem_singleton] at hm
  subst hm
  rw [hzj] at hg; cases hg; exact h1 rfl
 obtain ⟨cA, hA⟩ := h.tA
 refine ⟨hc.heap h.hdr (ht h.hdr (by decide)), h.cap, h.len, ⟨cA, hc.heap hA (ht hA (by decide))⟩, fun k hk => hc.cell (h.ptr k hk) (ht hA (by decide)), fun k hk => ?_, fun k hk => (h.rows k hk).keep hc (Av.row hzj (by simp)) (fun g hg => ?_), h.apart, h.nodup⟩
 ·by_cases hkj : k = j
  ·subst hkj
   simpa [upF] using heap_set hzj 1 (.int .i64 n) rfl
  ·simpa [upF, hkj] using hc.heap (h.zone k hk) (by simpa using nodup_ne h.nodup hk hj hkj)
 ·obtain ⟨cs, hb⟩ := (h.rows k hk).block g hg
  exact ht hb (by decide)
def goodF (gs : Nat → Nat) (zs : Nat → List (List UInt8)) (j : Nat) : Nat → Nat := fun k => if k < j then (zs k).length else gs k
theorem goodF_succ (gs : Nat → Nat) (zs : Nat → List (List UInt8)) (j : Nat) : upF (goodF gs zs j) j (zs j).length = goodF gs zs (j + 1) := by
 funext k
 unfold upF goodF
 by_cases h : k = j
 ·subst h; simp
 ·rw [if_neg h]
  by_cases h2 : k < j
  ·rw [if_pos h2, if_pos (by omega)]
  ·rw [if_neg h2, if_neg (by omega)]
set_option maxRecDepth 100000 in
set_option maxHeartbeats 1000000 in
theorem dflush_any (w : World) {base N A c : Nat} {ops : Int} {Z : List Nat} {vs : Nat → Value} {gs : Nat → Nat} {zs : Nat → List (List UInt8)} (h : DevG w base N A c ops Z vs gs zs) (h0 : 0 ≤ ops) (h1 : ops ≤ 1000000) : Calls Tryz.prog 137 #[.pointer (some ⟨N, 0, none⟩)] w fun e w' =>
  e = .returned (.int .i64 0) ∧ Chg (N :: Z) w w' ∧ DevG w' base N A c (ops + 1) Z vs (goodF gs zs 8) zs := by
 have HG := Lib.hid (dgone_any w h)
 have HB := Lib.hid (dbegin_any w h h0 h1)
 clear h
 go_enter Tryz.func137, Tryz.ntmps137
 go_wp2_with fail
 refine HG.out.mono ?_
 rintro e w1 ⟨rfl, rfl⟩
 go_wp2_with fail
 refine HB.out.mono ?_
 rintro e w1 ⟨rfl, hc1, h2⟩
 have hC1 : Chg (N :: Z) w w1 := hc1.mono (fun x hx _ => by rw [List.mem_singleton] at hx; simp [hx])
 have e2 : w1.cell? ⟨N, 2, none⟩ = some (.slice (some ⟨A, 0, none⟩) 8 c) := cell_is h2.hdr 2 rfl
 have hc8 := h2.cap
 have hg0 : goodF gs zs 0 = gs := by funext k; simp [goodF]
 rw [← hg0] at h2
 clear hc1 HG HB
 go_wp2_with fail
 go_loopw [17] (fun i wr => ∃ j : Nat, i = .int .i64 j ∧ j ≤ 8 ∧ DevG wr base N A c (ops + 1) Z vs (goodF gs zs j) zs ∧ Chg (N :: Z) w wr) (fun i _ => 8 - (intOf i).toNat)
 case atStart => exact ⟨0, rfl, by omega, h2, hC1⟩
 case round =>
  obtain ⟨j, rfl, hj, hD, hC⟩ := hrel
  by_cases hlt : j < 8
  ·have hjz : j < Z.length := by have := hD.len; omega
   have hm : Z[j] ∈ Z := List.getElem_mem hjz
   obtain ⟨xs, ho, -⟩ := hD.rows j hlt
   obtain ⟨pa, cv, hv, -⟩ := own_form ho
   have hfin : ∀ w', w' = wr.setCell ⟨Z[j], 1, none⟩ (.int .i64 (zs j).length) → DevG w' base N A c (ops + 1) Z vs (goodF gs zs (j + 1)) zs ∧ Chg (N :: Z) w w' := by
    rintro w' rfl
    exact ⟨goodF_succ gs zs j ▸ hD.setGood hjz _, hC.then_set (fun _ => List.mem_cons_of_mem _ hm) _ _⟩
   have a0 := hD.ptr j hjz
   have k0 := hD.zone j hjz
   rw [hv] at k0
   have b0 : wr.cell? ⟨Z[j], 0, none⟩ = some (.slice pa (zs j).length cv) := cell_is k0 0 rfl
   have b1 : wr.cell? ⟨Z[j], 1, none⟩ = some (.int .i64 (goodF gs zs j j : Nat)) := cell_is k0 1 rfl
   have f1 := unfrozen k0 1
   have HF := Lib.hid hfin
   clear hfin hD hC k0 h2 hC1 e2 hm ho hv
   generalize Z[j] = z at *
   go_wp2_with fail
   go_roundw
   case rel => exact ⟨j + 1, by go_num, by omega, HF.out _ rfl⟩
   case measure => simp [intOf]; omega
  ·obtain rfl : j = 8 := by omega
   go_wp2_with fail
   go_ret
   exact ⟨rfl, hC, hD⟩
def datL (e num : Nat) (l : List (Int × List UInt8)) : List (List UInt8) := l.map fun x => encF 1 e num x.1.toNat x.2
def bodL (k n : Nat) : List UInt8 := leB k 8 ++ [1, 0, 0, UInt8.ofNat n]
def batL (e num k : Nat) (l : List (Int × List UInt8)) : List (List UInt8) := datL e num l ++ [encF 2 e num l.length (bodL k l.length)]
theorem datL_length (e num : Nat) (l : List (Int × List UInt8)) : (datL e num l).length = l.length := by simp [datL]
theorem batL_length (e num k : Nat) (l : List (Int × List UInt8)) : (batL e num k l).length = l.length + 1 := by simp [batL, datL_length]
theorem own_of_row {w : World} {base e g : Nat} {r : List UInt8} (h : w.heap[g]? = some (.cells (Lib.byteCells r).toArray e (0, 0))) (hb : base ≤ g) (hr : r.length ≤ 1000) {n : Nat} (hn : r.length = n) : w.ownsRow base e 1 (.slice (some ⟨g, 0, none⟩) n n) n (Lib.byteCells r) := by
 subst hn
 exact ⟨by simp [Lib.byteCells], .inr ⟨g, r.length, _, rfl, hb, h, Nat.le_refl _, by unfold maxLen; omega, by simp [Lib.byteCells], by rw [List.take_of_length_le (by simp [Lib.byteCells])]⟩⟩
set_option maxRecDepth 100000 in
theorem put64_own (w : World) (v : Nat) (hv : v < 18446744073709551616) {base : Nat} (hb : base ≤ w.heap.size) : Calls Tryz.prog 127 #[.int .u64 v] w fun e w' => ∃ g, e = .returned (.slice (some ⟨g, 0, none⟩) 8 8) ∧ Chg [] w w' ∧ w'.ownsRow base 5 1 (.slice (some ⟨g, 0, none⟩) 8 8) 8 (Lib.byteCells (leB v 8)) := by
 have HP := Lib.hid (bput_any w v 8 (by omega) hv (fun w => by kernel_rfl))
 go_enter Tryz.func127, Tryz.ntmps127
 go_wp2_with fail
 refine HP.out.mono ?_
 rintro e w' ⟨g, rfl, h1, h2, h3⟩
 rw [rowL_full] at h2
 have h4 := own_of_row h2 (Nat.le_trans hb h3) (by rw [leB_length]; decide) (leB_length _ _)
 clear h2
 go_wp2_with fail
 go_ret
 exact ⟨g, rfl, h1, h4⟩
theorem step_append_u8 {ops : Array Oper} {o : Oper} {a : Act} {w : World} {K : Act → World → Prop} {Q : Exit → Act → World → Prop} {E : Prop} (hgd : o.guard = none) (s x : Operand)
  (ho : o.op = .call { callee := .builtin .append, args := #[s, x], argTypes := #[47, 47] }) (base : Nat) (v : Value) (n : Nat) (xs : List UInt8) (hs : a.eval s = v) (hown : w.ownsRow base 5 1 v n (Lib.byteCells xs)) (b c : Nat) (u : UInt8)
  (hx : a.eval x = .slice (some ⟨b, 0, none⟩) 1 c) (c0 : w.cell? ⟨b, 0, none⟩ = some (.int .u8 u.toNat)) (hn : n ≤ 1000000) (hbase : base ≤ w.heap.size)
  (h : ∀ g cap w', w'.ownsRow base 5 1 (.slice (some ⟨g, 0, none⟩) (n + 1) cap) (n + 1) (Lib.byteCells (xs ++ [u])) → Below base w w' → K (a.put o.dst (.slice (some ⟨g, 0, none⟩) (n + 1) cap)) w') :
  if Region.wanted o (yielded ops a.tmps) = true then Oper.wp Tryz.prog o a w K Q else E := by
 obtain ⟨i, hi0, hz, hz1, hz2⟩ := info_parts inf5c
 refine step_append_lies w hgd s x 47 ho base 5 i _ 1 1 ty23 hi0 hz hz1 hz2 rfl (by decide) v n _ hs hown ⟨b, 0, none⟩ 1 c [.int .u8 u.toNat] hx rfl ?_ ?_ (by decide) (by unfold maxLen; omega) (by omega) hbase _ rfl ?_
 ·intro j u' hu
  rw [add_lit, Nat.zero_add]
  match j with
  | 0 => cases hu; exact c0
  | j + 1 => simp at hu
 ·intro u' hu
  simp at hu
  rcases hu with rfl
  rfl
 ·intro g cap w' h2 h3 h4 _
  refine h g cap w' (by rw [byteCells_app]; exact h2) (below_grown hown h3 hbase)
theorem RowsAt.app {w0 w' : World} {base gb cb n : Nat} {v v' : Value} {l : List (List UInt8)} {b : List UInt8} {xs : List Value} (hx : ∀ i (h : i < l.length), ∃ g c, xs[i]? = some (.slice (some ⟨g, 0, none⟩) 64 c) ∧ Bs w0 (some ⟨g, 0, none⟩) l[i] ∧ l[i].length = 64 ∧ Bt w0 g)
  (hn : l.length = n) (ho : w0.ownsRow base 47 1 v n xs) (ha : AppendedV base 47 1 w0 v (n + 1) (xs ++ [.slice (some ⟨gb, 0, none⟩) 64 cb]) v' w') (hb : Bs w0 (some ⟨gb, 0, none⟩) b) (hb4 : b.length = 64) (hbt : Bt w0 gb) : RowsAt w' base v' (l ++ [b]) := by
 subst hn
 obtain ⟨g, c, rfl⟩ := own_some ha.1 (by omega)
 exact RowsAt.push hx (by have := ho.1; omega) (fun g hg => (own_elem ho hg).2) ha.1 (Chg.own ha.2.2 (fun g hg _ => by simp [hg])) hb hb4 hbt
theorem RowsAt.keep0 {w w' : World} {base : Nat} {v : Value} {l : List (List UInt8)} (h : RowsAt w base v l) (hc : Chg [] w w') : RowsAt w' base v l := h.keep hc (Av.nil _ _) (fun _ _ => by simp)
theorem own_unique {w : World} {base e size n : Nat} {v : Value} {xs ys : List Value} (h : w.ownsRow base e size v n xs) (k : w.ownsRow base e size v n ys) : xs = ys := by
 obtain ⟨h1, h2⟩ := h
 obtain ⟨k1, k2⟩ := k
 rcases h2 with ⟨rfl, h0⟩ | ⟨g, cap, cur, rfl, hb, hg, hc, hm, hz, ht⟩
 ·subst h0
  rw [Nat.zero_mul, List.length_eq_zero_iff] at h1 k1
  rw [h1, k1]
 ·rcases k2 with ⟨e, _⟩ | ⟨g', cap', cur', e, hb', hg', hc', hm', hz', ht'⟩
  ·cases e
  ·cases e
   rw [hg] at hg'
   cases hg'
   rw [← ht, ← ht']
def Away (w : World) (base : Nat) (v : Value) (n : Nat) (nb : Option Nat) : Prop := ∀ xs, w.ownsRow base 47 1 v n xs → ∀ x ∈ xs, ∀ g c, x = .slice (some ⟨g, 0, none⟩) 64 c → some g ≠ nb
theorem Away.nil (w : World) (base : Nat) (nb : Option Nat) : Away w base (.slice none 0 0) 0 nb := by
 intro xs h x hx
 have := h.1
 rw [Nat.zero_mul, List.length_eq_zero_iff] at this
 subst this
 cases hx
theorem Away.keep {w w' : World} {T : List Nat} {base : Nat} {v : Value} {l : List (List UInt8)} {nb : Option Nat} (h : Away w base v l.length nb) (hr : RowsAt w base v l) (hc : Chg T w w') (hT : Av w T [47]) : Away w' base v l.length nb := by
 intro ys ho
 obtain ⟨xs, hx, -⟩ := hr
 have := own_unique (ownsRow_av hx hc hT) ho
 subst this
 exact h _ hx
theorem Away.app {w0 w' : World} {base gb cb n : Nat} {v v' : Value} {nb : Option Nat} {xs : List Value} (h : Away w0 base v n nb) (ho : w0.ownsRow base 47 1 v n xs) (ha : w'.ownsRow base 47 1 v' (n + 1) (xs ++ [.slice (some ⟨gb, 0, none⟩) 64 cb])) (hb : some gb ≠ nb) : Away w' base v' (n + 1) nb := by
 intro ys hy x hx
 have := own_unique ha hy
 subst this
 rw [List.mem_append, List.mem_singleton] at hx
 rcases hx with hx | rfl
 ·exact h _ ho x hx
 ·intro g c e
  cases e
  exact hb
theorem RowsAt.base {w : World} {b b' : Nat} {v : Value} {l : List (List UInt8)} (h : RowsAt w b v l) (hb : b' ≤ b) : RowsAt w b' v l := by
 obtain ⟨xs, h1, h2⟩ := h
 exact ⟨xs, own_base h1 hb, h2⟩
theorem Away.base {w : World} {b b' : Nat} {v : Value} {l : List (List UInt8)} {nb : Option Nat} (h : Away w b v l.length nb) (hr : RowsAt w b v l) (hb : b' ≤ b) : Away w b' v l.length nb := by
 intro ys ho
 obtain ⟨xs, hx, -⟩ := hr
 have := own_unique (own_base hx hb) ho
 subst this
 exact h _ hx
theorem rows_grow {w w' : World} {base z n g : Nat} {v v7 : Value} {l : List (List UInt8)} {bs : List Value} (h : RowsAt w base v l) (hA : Away w base v l.length v7.ownBlock) (ho : w.ownsRow z 5 1 v7 n bs) (hg : w.grownBy w' v7.ownBlock) (hi : v7.ownBlock = some g ∨ g = w.heap.size) :
  RowsAt w' base v l ∧ Away w' base v l.length (some g) := by
 obtain ⟨xs, hx, he⟩ := h
 have hc : Chg v7.ownBlock.toList w w' := Chg.own hg (fun g hg _ => by simp [hg])
 have hT : Av w v7.ownBlock.toList [47] := by
  intro x hx cs t fr hh ht
  have hx' : v7.ownBlock = some x := by simpa using hx
  obtain ⟨-, cur, h5⟩ := own_elem ho hx'
  rw [hh] at h5
  cases h5
  simp at ht
 have hx' := ownsRow_av hx hc hT
 have hmem : ∀ i (hi : i < l.length), ∀ g c, xs[i]? = some (.slice (some ⟨g, 0, none⟩) 64 c) → g ∉ v7.ownBlock.toList := by
  intro i hi g c hxi hm
  have hm' : v7.ownBlock = some g := by simpa using hm
  exact hA _ hx _ (List.mem_of_getElem? hxi) g c rfl hm'.symm
 refine ⟨⟨xs, hx', fun i hil => ?_⟩, fun ys hy x hxm g' c' e => ?_⟩
 ·obtain ⟨g1, c1, h1, h2, h3, h4⟩ := he i hil
  have := hmem i hil g1 c1 h1
  exact ⟨g1, c1, h1, h2.chgT hc this, h3, h4.keep hc this⟩
 ·have := own_unique hx' hy
  subst this
  subst e
  obtain ⟨i, hil, hxi⟩ := List.mem_iff_getElem?.1 hxm |>.imp fun i hi => (⟨by
   have h1 := hx.1
   rw [Nat.mul_one] at h1
   rw [← h1]
   exact (List.getElem?_eq_some_iff.1 hi).1, hi⟩ : i < l.length ∧ xs[i]? = _)
  obtain ⟨g1, c1, h1, -, -, cs, h4⟩ := he i hil
  rw [h1] at hxi
  cases hxi
  rcases hi with hi | rfl
  ·rw [← hi]
   exact fun e => hmem i hil _ _ h1 (by simp [e.symm])
  ·have := heap_lt h4
   intro e
   cases e
   omega
theorem wpList_append_u8 {ops : Array Oper} {rest : List Oper} {o : Oper} {a : Act} {w : World} {Q : Exit → Act → World → Prop} (hgd : o.guard = none) (s x : Operand)
  (ho : o.op = .call { callee := .builtin .append, args := #[s, x], argTypes := #[47, 47] }) (base : Nat) (v : Value) (n : Nat) (xs : List UInt8) (hs : a.eval s = v) (hown : w.ownsRow base 5 1 v n (Lib.byteCells xs)) (b c m : Nat) (r : List UInt8) (hm : r.length = m) (hm0 : 0 < m)
  (hx : a.eval x = .slice (some ⟨b, 0, none⟩) m c) {C : Array Value} {fr : Nat × Nat} (hC : w.heap[b]? = some (.cells C 5 fr)) (hCr : C.toList = Lib.byteCells r) (hn : n + m ≤ 1000000) (hbase : base ≤ w.heap.size)
  (h : ∀ g cap w', w'.ownsRow base 5 1 (.slice (some ⟨g, 0, none⟩) (n + m) cap) (n + m) (Lib.byteCells (xs ++ r)) → w.grownBy w' v.ownBlock → (v.ownBlock = some g ∨ g = w.heap.size) → wpList Tryz.prog ops Q rest (a.put o.dst (.slice (some ⟨g, 0, none⟩) (n + m) cap)) w') : wpList Tryz.prog ops Q (o :: rest) a w := by
 obtain ⟨i, hi0, hz, hz1, hz2⟩ := info_parts inf5c
 refine wpList_append_lies w hgd s x 47 ho base 5 i _ 1 1 ty23 hi0 hz hz1 hz2 rfl (by decide) v n _ hs hown ⟨b, 0, none⟩ m c (Lib.byteCells r) hx (by rw [byteCells_length, hm, Nat.mul_one]) ?_ ?_ hm0 (by unfold maxLen; omega) (by omega) hbase _ rfl ?_
 ·rw [← hCr]; exact World.news_of_block hC
 ·intro u hu
  simp only [Lib.byteCells, List.mem_map] at hu
  obtain ⟨x, _, rfl⟩ := hu
  rfl
 ·intro g cap w' h2 h3 h4 _
  exact h g cap w' (by rw [byteCells_app]; exact h2) h3 h4
set_option maxRecDepth 100000 in
set_option maxHeartbeats 4000000 in
theorem bencode_one (w : World) {lo e num k : Nat} {v : Value} {l : List (Int × List UInt8)} (h : TxOne w lo v k l) (hn0 : 1 ≤ num) (hn1 : num ≤ 1099511627776) (hk0 : 1 ≤ k) (hk1 : k ≤ 1099511627776) (he : e < 4294967296) (hl0 : 0 < l.length) (hl : l.length ≤ 16) (hr : Rise l) (hk : ∀ x ∈ l, 0 ≤ x.1 ∧ x.1 < 258) :
  Calls Tryz.prog 135 #[.agg #[.int .i64 num, v], .int .i64 e] w fun r w' => ∃ v', r = .returned (.tuple #[v', .int .i64 0]) ∧ Chg [] w w' ∧ RowsAt w' w.heap.size v' (batL e num k l) := by
 have k0 : Chg [] w (w.alloc (.cells #[.int .i64 num, v] 108)) := Chg.alloc w _
 have K0 := heap_new w (.cells #[.int .i64 num, v] 108)
 have h1 := h.keep k0
 obtain ⟨g, c, pb, cb, rfl, hc1, -, -, c0, c1, hcb, hp⟩ := h1.open_
 have b0 : (w.alloc (.cells #[.int .i64 num, .slice (some ⟨g, 0, none⟩) 1 c] 108)).cell? ⟨w.heap.size, 0, none⟩ = some (.int .i64 num) := cell_is K0 0 rfl
 have b1 : (w.alloc (.cells #[.int .i64 num, .slice (some ⟨g, 0, none⟩) 1 c] 108)).cell? ⟨w.heap.size, 1, none⟩ = some (.slice (some ⟨g, 0, none⟩) 1 c) := cell_is K0 1 rfl
 have e0 : decide ((e : Int) < 0) = false := decide_eq_false (by omega)
 have e1 : decide (4294967295 < (e : Int)) = false := decide_eq_false (by omega)
 have HO := Lib.hid (bcheck_one _ h1 (num := num) (by omega) (by omega) (by omega) (by omega) hl0 hl hr hk)
 have HP := Lib.hid hp
 have HK := Lib.hid hk
 have HL := Lib.hid (And.intro hl0 hl)
 have HE := Lib.hid he
 have HN := Lib.hid hn1
 have HC := Lib.hid hk1
 have H64 := Lib.hid (show k < 18446744073709551616 by omega)
 have ku : IntKind.u64.wrap (k : Int) = k := by rw [IntKind.wrap_u64]; omega
 have hz0 : w.heap.size ≤ (w.alloc (.cells #[.int .i64 num, .slice (some ⟨g, 0, none⟩) 1 c] 108)).heap.size := k0.size
 clear h h1 hp hr hk hl0 hl he hn0 hn1 hk0 hk1
 go_enter Tryz.func135, Tryz.ntmps135
 go_wp2_with fail
 generalize w.alloc (.cells #[.int .i64 num, .slice (some ⟨g, 0, none⟩) 1 c] 108) = w1 at *
 generalize hz : w.heap.size = z at *
 refine HO.out.mono ?_
 rintro e w2 ⟨rfl, k2⟩
 have b02 := k2.cell b0 (by simp)
 have b12 := k2.cell b1 (by simp)
 have c02 := k2.cell c0 (by simp)
 have c12 := k2.cell c1 (by simp)
 have k02 := k0.then k2
 have HP2 := Lib.hid (HP.out.keep0 k2)
 have hz2 : z ≤ w2.heap.size := hz ▸ k02.size
 clear HO HP b0 b1 c0 c1 k0 k2 K0
 go_upto_region 4 with fail
 have kD0 : Chg [] w2 w2.drew := (Chg.refl [] w2).drew
 have b12d : w2.drew.cell? ⟨z, 1, none⟩ = some (.slice (some ⟨g, 0, none⟩) 1 c) := b12
 have hS : ∀ wx, Chg [] w2 wx → wx.cell? ⟨z, 1, none⟩ = some (.slice (some ⟨g, 0, none⟩) 1 c) := fun wx kx => kx.cell b12 (by simp)
 go_cut [7] from 8 (fun v wx => Chg [] w2 wx ∧ wx.ownsRow w2.heap.size 5 1 v 9 (Lib.byteCells (leB k 8 ++ [1])))
 case first =>
  go_region_held3 (fun wx => wx.cell? ⟨z, 1, none⟩ = some (.slice (some ⟨g, 0, none⟩) 1 c))
   (first | (with_reducible exact hS _ kD0) | (with_reducible exact hS _ kB1) | (with_reducible exact hS _ (kD0.then_alloc _)) | (with_reducible exact hS _ (kB1.then_alloc _)) | (with_reducible exact hS _ (Chg.alloc w2 _)) | (with_reducible exact hS _ (Chg.alloc w2 _).drew) | (with_reducible exact hS _ kF))
   (first
    | (go_at_call 127; refine (put64_own _ k H64.out (base := w2.heap.size) (by first | exact kD0.size | exact (kD0.then_alloc _).size | exact ((Chg.alloc (S := []) w2 _).drew).size)).mono ?_; rintro e wB ⟨gB, rfl, kB, oB⟩; have kB1 : Chg [] w2 wB := (by first | with_reducible exact kD0.then kB | with_reducible exact ((Chg.alloc w2 _).drew).then kB | with_reducible exact (kD0.then_alloc _).then kB))
    | (refine step_append_u8 rfl (.tmp 38) (.tmp 43) rfl w2.heap.size _ 8 _ rfl (ownsRow_chg oB (Chg.alloc (S := []) wB _)) wB.heap.size 1 1 rfl (cell_is (heap_new wB _) 0 rfl) (by decide) (kB1.then_alloc _).size ?_; intro g5 cp5 w5 o5 k5; have kF : Chg [] w2 w5 := Chg.of_below (((kB1.then_alloc _).below (Nat.le_refl _) (by simp)).trans k5))
    | (refine step_append_u8 rfl (.tmp 38) (.tmp 43) rfl w2.heap.size _ 8 _ rfl oB w2.heap.size 1 1 rfl (kB.cell (cell_is (heap_new w2 _) 0 rfl) (by simp)) (by decide) kB1.size ?_; intro g5 cp5 w5 o5 k5; have kF : Chg [] w2 w5 := Chg.of_below ((kB1.below (Nat.le_refl _) (by simp)).trans k5)))
  all_goals
   go_wp2_with fail
   go_meet
   exact ⟨kF, o5⟩
 case rest =>
  obtain ⟨kw, oz⟩ := hcut
  obtain ⟨p7, c7, rfl, -⟩ := own_form oz
  have b0w := kw.cell b02 (by simp)
  have b1w := kw.cell b12 (by simp)
  have c0w := kw.cell c02 (by simp)
  have c1w := kw.cell c12 (by simp)
  have HPw := Lib.hid (HP2.out.keep0 kw)
  have HOz := Lib.hid oz
  have hzw : w2.heap.size ≤ wc.heap.size := kw.size
  clear oz hS kD0 b12d
  go_wp2_with fail
  go_loopw [4, 7, 8, 10, 12, 13, 14, 15, 49] (fun v4 v7 v8 _ _ _ _ _ i wr => (i = .int .i64 0 ∧ wc = wr ∧ v4 = .slice none 0 0 ∧ v7 = .slice p7 9 c7 ∧ v8 = .int .i64 k) ∨ (i = .int .i64 1 ∧ Chg [] w2 wr ∧ RowsAt wr w2.heap.size v4 (datL e num l) ∧ Away wr w2.heap.size v4 (datL e num l).length v7.ownBlock ∧ wr.ownsRow w2.heap.size 5 1 v7 11 (Lib.byteCells (leB k 8 ++ [1, 0, 0])))) (fun _ _ _ _ _ _ _ _ i _ => 1 - (intOf i).toNat)
  case atStart => exact Or.inl ⟨rfl, rfl, rfl, rfl, rfl⟩
  case round =>
   rcases hrel with ⟨rfl, rfl, rfl, rfl, rfl⟩ | ⟨rfl, kr, hv4, hva, hv7⟩
   ·have ka : Chg [] wc (wc.alloc (.cells #[.int .i64 k, .slice pb l.length cb] 185)) := Chg.alloc wc _
    have A0 := heap_new wc (.cells #[.int .i64 k, .slice pb l.length cb] 185)
    go_wp2_with fail
    have a0 : (wc.alloc (.cells #[.int .i64 k, .slice pb l.length cb] 185)).cell? ⟨wc.heap.size, 0, none⟩ = some (.int .i64 k) := cell_is A0 0 rfl
    have b0a := ka.cell b0w (by simp)
    have HPa := Lib.hid (HPw.out.keep0 ka)
    have HOa := Lib.hid (ownsRow_chg HOz.out ka)
    have hza : w2.heap.size ≤ (wc.alloc (.cells #[.int .i64 k, .slice pb l.length cb] 185)).heap.size := Nat.le_trans hzw ka.size
    have kwa := kw.then ka
    generalize wc.alloc (.cells #[.int .i64 k, .slice pb l.length cb] 185) = w4 at *
    generalize wc.heap.size = z4 at *
    clear A0
    go_loopw [4, 12, 13, 14, 56] (fun v _ _ _ i wy => ∃ j : Nat, j ≤ l.length ∧ i = .int .i64 j ∧ Chg [] w4 wy ∧ RowsAt wy w4.heap.size v (datL e num (l.take j)) ∧ Away wy w4.heap.size v (datL e num (l.take j)).length (Value.slice p7 9 c7).ownBlock) (fun _ _ _ _ i _ => l.length - (intOf i).toNat)
    case atStart => exact ⟨0, by omega, rfl, Chg.refl _ _, RowsAt.nil _ _, Away.nil _ _ _⟩
    case round =>
     obtain ⟨j, hj, rfl, ky, hrow, haw⟩ := hrel
     by_cases hlt : j < l.length
     ·obtain ⟨gp, cap, gd, cd, hpv, hcap, d0, d1, hbd, h40, hbt⟩ := (HPa.out.keep0 ky).get j hlt
      injection hpv with e1 e2 e3
      subst e1 e3
      obtain ⟨hx0, hx1⟩ := HK.out _ (List.getElem_mem hlt)
      have HTk := Lib.hid (show datL e num (l.take (j + 1)) = datL e num (l.take j) ++ [encF 1 e num (l[j]).1.toNat (l[j]).2] by unfold datL; rw [List.take_succ_eq_append_getElem hlt, List.map_append]; rfl)
      have hxe : (l[j]).1 = (((l[j]).1.toNat : Nat) : Int) := by omega
      have hx2 : (l[j]).1.toNat ≤ 1048576 := by omega
      have H40 := Lib.hid h40
      have Hbd := Lib.hid hbd
      have HR := Lib.hid hrow
      have HAw := Lib.hid haw
      have HO9 := Lib.hid (ownsRow_chg HOa.out ky)
      have hl16 : l.length ≤ 16 := HL.out.2
      rw [hxe] at d0
      have hdl : (datL e num (l.take j)).length = j := by rw [datL_length, List.length_take]; omega
      clear hbd h40 hrow hx0 hx1 hxe hbt haw
      generalize (l[j]).1.toNat = x at *
      generalize (l[j]).2 = q at *
      have b0y := ky.cell b0a (by simp)
      have kl : Chg [] wr (wr.alloc (.cells #[.int .i64 x, .slice (some ⟨gd, 0, none⟩) 40 cd] 50)) := Chg.alloc wr _
      have L0 := heap_new wr (.cells #[.int .i64 x, .slice (some ⟨gd, 0, none⟩) 40 cd] 50)
      have l0 : (wr.alloc (.cells #[.int .i64 x, .slice (some ⟨gd, 0, none⟩) 40 cd] 50)).cell? ⟨wr.heap.size, 0, none⟩ = some (.int .i64 x) := cell_is L0 0 rfl
      have l1 : (wr.alloc (.cells #[.int .i64 x, .slice (some ⟨gd, 0, none⟩) 40 cd] 50)).cell? ⟨wr.heap.size, 1, none⟩ = some (.slice (some ⟨gd, 0, none⟩) 40 cd) := cell_is L0 1 rfl
      have b0l := kl.cell b0y (by simp)
      go_wp2_with fail
      generalize wr.alloc (.cells #[.int .i64 x, .slice (some ⟨gd, 0, none⟩) 40 cd] 50) = wl at *
      generalize wr.heap.size = zl at *
      clear L0
      go_wp2_with fail
      refine (fencode_any wl (kind := 1) (by decide) (by decide) HE.out HN.out hx2 H40.out (by decide) (Hbd.out.chg kl)).mono ?_
      rintro r w5 ⟨g5, c5, rfl, k5, hg5, b5, t5⟩
      have k4y : Chg [] w4 w5 := (ky.then kl).then k5
      have hz5 : w4.heap.size ≤ w5.heap.size := k4y.size
      obtain ⟨xs, ho5, hx5⟩ := HR.out.keep0 (kl.then k5)
      rw [hdl] at ho5
      have hA5 := HAw.out.keep HR.out (kl.then k5) (Av.nil _ _)
      rw [hdl] at hA5
      have HA5 := Lib.hid hA5
      have HG5 := Lib.hid (show some g5 ≠ (Value.slice p7 9 c7).ownBlock from fun e5 => by
       obtain ⟨-, cs5, h5⟩ := own_elem (ownsRow_chg HO9.out kl) e5.symm
       have := heap_lt h5
       omega)
      have HO5 := Lib.hid ho5
      have HX5 := Lib.hid hx5
      have B5 := Lib.hid b5
      have T5 := Lib.hid t5
      have E5 := Lib.hid (encF_length 1 e num x q (by rw [H40.out]; decide))
      clear ho5 hx5 b5 t5 HR hA5 HAw HO9
      go_wp2_with (at_builtin; refine wpList_append_lit rfl (.tmp 72) (.tmp 74) 130 47 rfl ty132 inf23 rfl (by decide) w4.heap.size w5 [.slice (some ⟨g5, 0, none⟩) 64 c5] 1 rfl _ j xs rfl HO5.out (by have := HL.out.2; omega) (by decide) hz5 (k := 0) rfl (by simp [Value.oneCell']) rfl 1 rfl ?_; intro v' w6 hap)
      have hfin := RowsAt.app HX5.out hdl HO5.out hap B5.out E5.out T5.out
      have hfa := Away.app HA5.out HO5.out hap.1 HG5.out
      have hdl2 : (datL e num (l.take (j + 1))).length = j + 1 := by rw [HTk.out, List.length_append, hdl]; rfl
      rw [← HTk.out] at hfin
      rw [← hdl2] at hfa
      have k6 : Chg [] w4 w6 := Chg.of_below (k4y.below0.trans hap.2.1)
      go_roundw
      case rel => exact ⟨j + 1, by omega, by go_num, k6, hfin, hfa⟩
      case measure => simp [intOf]; omega
     ·obtain rfl : j = l.length := by omega
      rw [List.take_length] at hrow haw
      have HRy := Lib.hid hrow
      have HAy := Lib.hid haw
      have a0y := ky.cell a0 (by simp)
      have hzy := Nat.le_trans hza ky.size
      have kwy := kwa.then ky
      have HOy := Lib.hid (ownsRow_chg HOa.out ky)
      clear hrow haw
      have kt : Chg [] wr (wr.alloc (.cells #[.int .u8 0, .int .u8 0] 5)) := Chg.alloc wr _
      go_wp2_with (at_builtin; refine wpList_append_u8 rfl (.tmp 83) (.tmp 89) rfl w2.heap.size _ 9 _ rfl (ownsRow_chg HOy.out kt) wr.heap.size 2 2 [0, 0] rfl (by decide) rfl (heap_new wr _) rfl (by decide) (Nat.le_trans hzy kt.size) ?_; intro g6 c6 w6 o6 k6 i6)
      obtain ⟨hr6, ha6⟩ := rows_grow (HRy.out.keep0 kt) (HAy.out.keep HRy.out kt (Av.nil _ _)) (ownsRow_chg HOy.out kt) k6 i6
      have kf : Chg [] w2 w6 := Chg.of_below ((kwy.then kt).below0.trans (below_grown (ownsRow_chg HOy.out kt) k6 (Nat.le_trans hzy kt.size)))
      go_roundw
      case rel => exact Or.inr ⟨rfl, kf, hr6.base hza, ha6.base hr6 hza, o6⟩
      case measure => decide
   ·obtain ⟨p8, c8, rfl, -⟩ := own_form hv7
    obtain ⟨xs4, ho4, hx4⟩ := hv4
    obtain ⟨p4, c4, rfl, hc4⟩ := own_form ho4
    have HR := Lib.hid (show RowsAt wr w2.heap.size (.slice p4 (datL e num l).length c4) (datL e num l) from ⟨xs4, ho4, hx4⟩)
    have HAw := Lib.hid hva
    have HO7 := Lib.hid hv7
    have b0r := kr.cell b02 (by simp)
    have b1r := kr.cell b12 (by simp)
    have c0r := kr.cell c02 (by simp)
    have c1r := kr.cell c12 (by simp)
    have hzr := kr.size
    have hu8 : IntKind.u8.wrap (l.length : Int) = l.length := by have := HL.out.2; rw [IntKind.wrap_u8]; omega
    clear hva hv7 ho4 hx4
    go_wp2_with fail
    go_loopw [7, 17, 95] (fun v7 _ i wx => (i = .int .i64 0 ∧ wr = wx ∧ v7 = .slice p8 11 c8) ∨ (i = .int .i64 1 ∧ Chg [] w2 wx ∧ RowsAt wx w2.heap.size (.slice p4 (datL e num l).length c4) (datL e num l) ∧ wx.ownsRow w2.heap.size 5 1 v7 12 (Lib.byteCells (bodL k l.length)))) (fun _ _ i _ => 1 - (intOf i).toNat)
    case atStart => exact Or.inl ⟨rfl, rfl, rfl⟩
    case round =>
     rename World => wz
     rcases hrel with ⟨rfl, rfl, rfl⟩ | ⟨rfl, kz, hv4, hv7⟩
     ·have ka : Chg [] wr (wr.alloc (.cells #[.int .i64 k, .slice pb l.length cb] 185)) := Chg.alloc wr _
      have A0 := heap_new wr (.cells #[.int .i64 k, .slice pb l.length cb] 185)
      have L0 := (two_new wr (.cells #[.int .i64 k, .slice pb l.length cb] 185) (.cells #[.int .u8 l.length] 5)).2
      have kt := ka.then_alloc (.cells #[.int .u8 l.length] 5)
      have HLn := Lib.hid (show (#[Value.int .u8 l.length]).toList = Lib.byteCells [UInt8.ofNat l.length] by
       have e1 : (UInt8.ofNat l.length).toNat = l.length := by have := HL.out.2; simp; omega
       simp only [Lib.byteCells, List.map_cons, List.map_nil, e1])
      have hBd := Lib.hid (show leB k 8 ++ [1, 0, 0] ++ [UInt8.ofNat l.length] = bodL k l.length by simp [bodL])
      go_wp2_with (at_builtin; refine wpList_append_u8 rfl (.tmp 99) (.tmp 104) rfl w2.heap.size _ 11 _ rfl (ownsRow_chg HO7.out kt) (wr.heap.size + 1) 1 1 [UInt8.ofNat l.length] rfl (by decide) rfl L0 HLn.out (by decide) (Nat.le_trans hzr kt.size) ?_; intro g6 c6 w6 o6 k6 i6)
      obtain ⟨hr6, ha6⟩ := rows_grow (HR.out.keep0 kt) (HAw.out.keep HR.out kt (Av.nil _ _)) (ownsRow_chg HO7.out kt) k6 i6
      rw [hBd.out] at o6
      have kf : Chg [] w2 w6 := Chg.of_below ((kr.then kt).below0.trans (below_grown (ownsRow_chg HO7.out kt) k6 (Nat.le_trans hzr kt.size)))
      go_roundw
      case rel => exact Or.inr ⟨rfl, kf, hr6, o6⟩
      case measure => decide
     ·obtain ⟨p9, c9, rfl, -⟩ := own_form hv7
      have b0z := kz.cell b02 (by simp)
      have HRz := Lib.hid hv4
      have H9 := Lib.hid (Bs.own hv7)
      have hbl : (bodL k l.length).length = 12 := by simp [bodL, leB_length]
      have HLz := Lib.hid hbl
      have hdl : (datL e num l).length = l.length := datL_length _ _ _
      clear hv7 hbl
      go_wp2_with fail
      refine (fencode_any wz (kind := 2) (lba := l.length) (by decide) (by decide) HE.out HN.out (by have := HL.out.2; omega) HLz.out (by decide) H9.out).mono ?_
      rintro r w5 ⟨g5, c5, rfl, k5, hg5, b5, t5⟩
      have kz5 := kz.then k5
      obtain ⟨xs, ho5, hx5⟩ := HRz.out.keep0 k5
      rw [hdl] at ho5
      have HO5 := Lib.hid ho5
      have HX5 := Lib.hid hx5
      have B5 := Lib.hid b5
      have T5 := Lib.hid t5
      have E5 := Lib.hid (encF_length 2 e num l.length (bodL k l.length) (by rw [HLz.out]; decide))
      clear ho5 hx5 b5 t5 hv4
      go_wp2_with (at_builtin; refine wpList_append_lit rfl (.tmp 118) (.tmp 120) 130 47 rfl ty132 inf23 rfl (by decide) w2.heap.size w5 [.slice (some ⟨g5, 0, none⟩) 64 c5] 1 rfl _ l.length xs rfl HO5.out (by have := HL.out.2; omega) (by decide) kz5.size (k := 0) rfl (by simp [Value.oneCell']) rfl 1 rfl ?_; intro v' w6 hap)
      have hfin := RowsAt.app HX5.out hdl HO5.out hap B5.out E5.out T5.out
      have k6 : Chg [] w w6 := k02.then (Chg.of_below (kz5.below0.trans hap.2.1))
      have HF := Lib.hid (show RowsAt w6 z v' (batL e num k l) from hfin.base hz2)
      clear hfin hap
      go_wp2_with fail
      go_ret2
      exact ⟨_, rfl, k6, by rw [hz]; exact HF.out⟩
section
variable {base : Nat} {d : Ids} {p : Par} {F : World → Prop}
set_option maxRecDepth 100000 in
theorem geom_hdr (w : World) {N A c : Nat} (h : ∃ ops, w.heap[N]? = some (.cells #[.int .i64 8, .int .i64 96, .slice (some ⟨A, 0, none⟩) 8 c, .int .i64 ops, .int .i64 0, .bool false, .int .i64 0, .bool false] 128 (0, 0))) : Calls Tryz.prog 79 #[.pointer (some ⟨N, 0, none⟩)] w fun e w' => e = .returned (.agg #[.int .i64 8, .int .i64 96]) ∧ Chg [] w w' := by
 obtain ⟨ops, h⟩ := h
 have hgone : ∀ w1 : World, w1.heap[N]? = some (.cells #[.int .i64 8, .int .i64 96, .slice (some ⟨A, 0, none⟩) 8 c, .int .i64 ops, .int .i64 0, .bool false, .int .i64 0, .bool false] 128 (0, 0)) → Calls Tryz.prog 152 #[.pointer (some ⟨N, 0, none⟩)] w1 fun e w' => e = .returned (.bool false) ∧ w1 = w' := by
  intro w1 h1
  have e2 : w1.cell? ⟨N, 2, none⟩ = some (.slice (some ⟨A, 0, none⟩) 8 c) := cell_is h1 2 rfl
  clear h h1
  go_enter Tryz.func152, Tryz.ntmps152
  go_wp2_with fail
  go_ret
  exact ⟨rfl, rfl⟩
 have HG := Lib.hid hgone
 clear hgone
 go_enter Tryz.func79, Tryz.ntmps79
 go_wp2_with fail
 have g0 := heap_new w (.cells #[.int .i64 0, .int .i64 0] 67)
 have hc : Chg [] w (w.alloc (.cells #[.int .i64 0, .int .i64 0] 67)) := Chg.alloc _ _
 have h2 := hc.heap h (by simp)
 have hN := heap_lt h
 generalize w.alloc (.cells #[.int .i64 0, .int .i64 0] 67) = w1 at *
 refine (HG.out w1 h2).mono ?_
 rintro e w2 ⟨rfl, rfl⟩
 have e0 : w1.cell? ⟨N, 0, none⟩ = some (.int .i64 8) := cell_is h2 0 rfl
 have e1 : w1.cell? ⟨N, 1, none⟩ = some (.int .i64 96) := cell_is h2 1 rfl
 have c0 := cell_is g0 0 rfl
 have c1 := cell_is g0 1 rfl
 have f0 := unfrozen g0 0
 have f1 := unfrozen g0 1
 clear h h2 g0
 go_wp2_with fail
 refine bodyPost_ret (v := .agg #[.int .i64 8, .int .i64 96]) (by simp [results, Tryz.results79, go_sem, c0, c1]) rfl ?_
 exact ⟨rfl, (hc.new_set (by omega) _ _).new_set (by omega) _ _⟩
end
def StoreG (w : World) (P N S M : Nat) (pos num : Nat) : Prop :=
 w.heap[P]? = some (.cells #[.pointer (some ⟨N, 0, none⟩), .int .i64 0, .int .i64 3, .int .i64 6, .int .i64 7, .pointer (some ⟨M, 0, none⟩), .pointer (some ⟨S, 0, none⟩), .int .i64 pos, .int .i64 num, .bool false] 102 (0, 0))
theorem RowsAt.get {w : World} {base : Nat} {v : Value} {l : List (List UInt8)} (h : RowsAt w base v l) (k : Nat) (hk : k < l.length) : ∃ g cap gd cd, v = .slice (some ⟨g, 0, none⟩) l.length cap ∧ l.length ≤ cap ∧
  w.cell? ⟨g, k, none⟩ = some (.slice (some ⟨gd, 0, none⟩) 64 cd) ∧ Bs w (some ⟨gd, 0, none⟩) l[k] ∧ l[k].length = 64 ∧ Bt w gd := by
 obtain ⟨xs, ho, hx⟩ := h
 obtain ⟨gd, cd, h1, h2, h3, h4⟩ := hx k hk
 rcases ho.2 with ⟨_, e⟩ | ⟨g, cap, cur, rfl, hA, hg, hc1, hc2, hc3, ht⟩
 ·omega
 ·refine ⟨g, cap, gd, cd, rfl, hc1, cell_is hg _ ?_, h2, h3, h4⟩
  rw [← ht, List.getElem?_take_of_lt (by omega), Array.getElem?_toList] at h1
  exact h1
theorem wrap64_id (x : Int) (h0 : 0 ≤ x) (h1 : x < 4611686018427387904) : wrap64 x = x := by unfold wrap64; omega
theorem pos_wrap (pos n m : Nat) (h : n = m + 1) (hp : pos + n < 1000) : wrap64 ((pos : Int) + (n : Nat)) = ((pos + m + 1 : Nat) : Int) := by
 rw [wrap64_id _ (by omega) (by omega)]
 omega
def SlotG (w : World) (S N : Nat) (inn : Int) (tv : Value) (cnt : Nat) : Prop :=
 w.heap[S]? = some (.cells #[.pointer (some ⟨N, 0, none⟩), .int .i64 0, .int .i64 3, .int .i64 6, .int .i64 96, .int .i64 inn, tv, .int .i64 cnt, .bool false] 210 (0, 0))
def TextAt (w : World) (tv : Value) : Prop := tv = .slice none 0 0 ∨ ∃ g c m l, tv = .slice (some ⟨g, 0, none⟩) m c ∧ l.length = m ∧ 0 < m ∧ m ≤ 100000 ∧ Bs w (some ⟨g, 0, none⟩) l ∧ Bt w g
theorem TextAt.keep {w w' : World} {U : List Nat} {tv : Value} (h : TextAt w tv) (hc : Chg U w w') (hU : Av w U [5]) : TextAt w' tv := by
 rcases h with rfl | ⟨g, c, m, l, rfl, h1, h2, h3, h4, h5⟩
 ·exact Or.inl rfl
 ·have hn : g ∉ U := Bt.av h5 hU (by simp)
  exact Or.inr ⟨g, c, m, l, rfl, h1, h2, h3, h4.chgT hc hn, Bt.keep h5 hc hn⟩
def LoadR (w : World) (cnt : Nat) (e : Ending) (w' : World) : Prop := ∃ u, e = .returned (.tuple #[u, .int .i64 cnt]) ∧ Chg [] w w'
set_option maxRecDepth 100000 in
theorem load_g (w : World) {S N : Nat} {inn : Int} {tv : Value} {cnt : Nat} (h : SlotG w S N inn tv cnt) (ht : TextAt w tv) : Calls Tryz.prog 81 #[.pointer (some ⟨S, 0, none⟩)] w (LoadR w cnt) := by
 rcases ht with rfl | ⟨g, c, m, l, rfl, hl, hm0, hm1, hb, -⟩
 ·have c6 : w.cell? ⟨S, 6, none⟩ = some (.slice none 0 0) := cell_is h 6 rfl
  have c7 : w.cell? ⟨S, 7, none⟩ = some (.int .i64 cnt) := cell_is h 7 rfl
  clear h
  go_enter Tryz.func81, Tryz.ntmps81
  go_wp2_with fail
  have c6d : w.drew.cell? ⟨S, 6, none⟩ = some (.slice none 0 0) := c6
  have c7d : w.drew.cell? ⟨S, 7, none⟩ = some (.int .i64 cnt) := c7
  go_region_with (go_at_call 126; refine (clone_nil _).mono ?_; rintro e w1 ⟨rfl, rfl⟩)
  all_goals
   go_wp2_with fail
   go_ret2
   exact ⟨_, rfl, (Chg.refl _ w).drew⟩
 ·have c6 : w.cell? ⟨S, 6, none⟩ = some (.slice (some ⟨g, 0, none⟩) m c) := cell_is h 6 rfl
  have c7 : w.cell? ⟨S, 7, none⟩ = some (.int .i64 cnt) := cell_is h 7 rfl
  have HB := Lib.hid hb
  have HL := Lib.hid (And.intro hl (And.intro hm0 hm1))
  clear h hb hl hm0 hm1
  go_enter Tryz.func81, Tryz.ntmps81
  go_wp2_with fail
  have c6d : w.drew.cell? ⟨S, 6, none⟩ = some (.slice (some ⟨g, 0, none⟩) m c) := c6
  have c7d : w.drew.cell? ⟨S, 7, none⟩ = some (.int .i64 cnt) := c7
  go_region_held3 (fun wx => wx.cell? ⟨S, 6, none⟩ = some (.slice (some ⟨g, 0, none⟩) m c) ∧ wx.cell? ⟨S, 7, none⟩ = some (.int .i64 cnt))
   (first | (exact ⟨c6, c7⟩) | (exact ⟨c6d, c7d⟩) | (exact ⟨k1.cell c6d (by simp), k1.cell c7d (by simp)⟩))
   (first
    | (go_at_call 126; refine (clone_bt w.drew HL.out.1 HL.out.2.1 HL.out.2.2 (HB.out.chg (Chg.refl [] w).drew)).mono ?_; rintro e w1 ⟨g', c', rfl, k1, -, -, -⟩))
  all_goals
   go_wp2_with fail
   go_ret2
   exact ⟨_, rfl, (Chg.refl [] w).drew.then k1⟩
theorem dead_g (w : World) {P N S M pos num : Nat} (h : StoreG w P N S M pos num) : Calls Tryz.prog 53 #[.pointer (some ⟨P, 0, none⟩)] w fun e w' => e = .returned (.bool false) ∧ w = w' := by
 have c0 : w.cell? ⟨P, 0, none⟩ = some (.pointer (some ⟨N, 0, none⟩)) := cell_is h 0 rfl
 have c9 : w.cell? ⟨P, 9, none⟩ = some (.bool false) := cell_is h 9 rfl
 clear h
 go_enter Tryz.func53, Tryz.ntmps53
 go_wp2_with fail
 go_ret
 exact ⟨rfl, rfl⟩
def Tp (w : World) (U ts : List Nat) : Prop := ∀ x ∈ U, ∃ cs t, w.heap[x]? = some (.cells cs t (0, 0)) ∧ t ∈ ts
theorem Tp.av {w : World} {U ts ts' : List Nat} (h : Tp w U ts) (hd : ∀ t ∈ ts, t ∉ ts') : Av w U ts' := fun x hx cs t fr hh => by
 obtain ⟨cs2, t2, h2, h3⟩ := h x hx
 rw [h2] at hh
 cases hh
 exact hd _ h3
theorem Tp.map {w : World} {U ts : List Nat} {r : Nat} {L : List (Int × Value)} (h : Tp w U ts) (hm : MapAt w r L) : r ∉ U := fun hr => by
 obtain ⟨cs2, t2, h2, -⟩ := h r hr
 exact map_cells hm h2 rfl
theorem Mx.keepA {w w' : World} {U : List Nat} {M X rx B rb r : Nat} {s : Gs} (h : Mx w M X rx B rb r s) (hc : Chg U w w') (hU : Av w U [195, 270, 288, 5, 265]) (h1 : rx ∉ U) (h2 : rb ∉ U) (h3 : r ∉ U) : Mx w' M X rx B rb r s :=
 ⟨hc.heap h.mgr (hU.ne h.mgr (by simp)), h.ver.keepA hc (fun x hx cs t fr hh ht => hU x hx cs t fr hh (by simp at ht; rcases ht with rfl | rfl | rfl <;> simp)) h1, ⟨hc.heap h.book.1 (hU.ne h.book.1 (by simp)), h.book.2.keep hc h2⟩, h.map.keep hc h3, h.n1, h.n2, h.n3⟩
theorem Mx.chgM {w w' : World} {M X rx B rb r : Nat} {s s' : Gs} (h : Mx w M X rx B rb r s) (kS : Chg [M] w w') (hm : MgrG w' M X B r s'.qv s'.out s'.num s'.bas s'.last s'.given s'.rd) (e1 : s'.lo = s.lo) (e2 : s'.lastv = s.lastv) (e3 : s'.Lv = s.Lv) (e4 : s'.vs = s.vs) (e5 : s'.bl = s.bl) (e6 : s'.Lb = s.Lb) (e7 : s'.Lr = s.Lr) : Mx w' M X rx B rb r s' := by
 refine ⟨hm, ?_, ?_, ?_, h.n1, h.n2, h.n3⟩
 ·rw [e1, e2, e3, e4]
  exact h.ver.keepA kS (Av.row h.mgr (by decide)) (by simpa using map_cells h.ver.m h.mgr)
 ·rw [e5, e6]
  exact ⟨kS.heap h.book.1 (by simpa using heap_ne h.book.1 h.mgr (by simp)), h.book.2.keep kS (by simpa using map_cells h.book.2 h.mgr)⟩
 ·rw [e7]
  exact h.map.keep kS (by simpa using map_cells h.map h.mgr)
structure Gd where
 pos : Nat
 num : Nat
 inn : Int
 tv : Value
 cnt : Nat
 dlo : Nat
 ops : Int
 dv : Nat → Value
 gs : Nat → Nat
 zs : Nat → List (List UInt8)
structure Sto (w : World) (lw : Nat) (d : Ids) (s : Gs) (g : Gd) : Prop where
 store : StoreG w d.P d.N d.S d.M g.pos g.num
 slot : SlotG w d.S d.N g.inn g.tv g.cnt
 text : TextAt w g.tv
 dev : DevG w g.dlo d.N d.A d.c g.ops d.Z g.dv g.gs g.zs
 mx : Mx w d.M d.X d.rx d.B d.rb d.r s
 ap : ApL s.Lv
 keys : ∀ p ∈ s.Lv, 0 ≤ p.1 ∧ p.1 < 258
 bnd : lw ≤ d.P ∧ lw ≤ d.N ∧ lw ≤ d.S ∧ lw ≤ d.M ∧ lw ≤ d.X ∧ lw ≤ d.rx ∧ lw ≤ d.B ∧ lw ≤ d.rb ∧ lw ≤ d.r ∧ lw ≤ s.lo ∧ lw ≤ g.dlo
 bndZ : ∀ z ∈ d.Z, lw ≤ z
 slo : s.lo ≤ w.heap.size
 dlo : g.dlo ≤ d.N
theorem Sto.keepA {w w' : World} {U : List Nat} {lw : Nat} {d : Ids} {s : Gs} {g : Gd} (h : Sto w lw d s g) (hc : Chg U w w') (hU : Av w U [102, 210, 128, 129, 132, 47, 5, 195, 270, 288, 265]) (h1 : d.rx ∉ U) (h2 : d.rb ∉ U) (h3 : d.r ∉ U) : Sto w' lw d s g := by
 have sub : ∀ ts : List Nat, (∀ t ∈ ts, t ∈ [102, 210, 128, 129, 132, 47, 5, 195, 270, 288, 265]) → Av w U ts := fun ts hts x hx cs t fr hh ht => hU x hx cs t fr hh (hts t ht)
 exact ⟨hc.heap h.store (hU.ne h.store (by simp)), hc.heap h.slot (hU.ne h.slot (by simp)), h.text.keep hc (sub _ (by decide)), h.dev.keep hc (sub _ (by decide)), h.mx.keepA hc (sub _ (by decide)) h1 h2 h3, h.ap, h.keys, h.bnd, h.bndZ, Nat.le_trans h.slo hc.size, h.dlo⟩
theorem Sto.keep {w w' : World} {lw : Nat} {d : Ids} {s : Gs} {g : Gd} (h : Sto w lw d s g) (hc : Chg [] w w') : Sto w' lw d s g := h.keepA hc (Av.nil _ _) (by simp) (by simp) (by simp)
def Cs (lw : Nat) (w w' : World) : Prop := ∃ U, Chg U w w' ∧ ∀ x ∈ U, x < w.heap.size → lw ≤ x ∧ ∀ cs t fr, w.heap[x]? = some (.cells cs t fr) → t ∈ [102, 195, 203, 270, 288, 128, 132, 47, 265, 210]
theorem Cs.of_chg {lw : Nat} {w w' : World} (h : Chg [] w w') : Cs lw w w' := ⟨[], h, fun x hx => by cases hx⟩
theorem Cs.trans {lw : Nat} {a b c : World} (h : Cs lw a b) (k : Cs lw b c) : Cs lw a c := by
 obtain ⟨S, h1, h2⟩ := h
 obtain ⟨U, k1, k2⟩ := k
 refine ⟨S ++ U, (h1.mono (fun x hx _ => List.mem_append_left _ hx)).trans k1 (fun x hx _ => List.mem_append_right _ hx), fun x hx hlt => ?_⟩
 by_cases hT : x ∈ S
 ·exact h2 x hT hlt
 ·rcases List.mem_append.1 hx with h | h
  ·exact absurd h hT
  ·obtain ⟨e1, e2⟩ := k2 x h (Nat.lt_of_lt_of_le hlt h1.size)
   exact ⟨e1, fun cs t fr hh => e2 cs t fr (by rw [h1.block x hlt hT]; exact hh)⟩
theorem Cs.size {lw : Nat} {w w' : World} (h : Cs lw w w') : w.heap.size ≤ w'.heap.size := by obtain ⟨U, h1, -⟩ := h; exact h1.size
theorem Cs.of_tp {lw : Nat} {w w' : World} {U ts : List Nat} (h : Chg U w w') (ht : Tp w U ts) (hts : ∀ t ∈ ts, t ∈ [102, 195, 203, 270, 288, 128, 132, 47, 265, 210]) (hl : ∀ x ∈ U, lw ≤ x) : Cs lw w w' :=
 ⟨U, h, fun x hx _ => ⟨hl x hx, fun cs t fr hh => by
  obtain ⟨cs2, t2, h2, h3⟩ := ht x hx
  rw [h2] at hh
  cases hh
  exact hts _ h3⟩⟩
theorem Bs.at_ {w : World} {D o : Nat} {l : List UInt8} (h : Bs w (some ⟨D, o, none⟩) l) (j : Nat) (hj : j < l.length) : w.cell? ⟨D, o + j, none⟩ = some (.int .u8 (l[j].toNat)) := by
 rcases h with h | ⟨b', o', e, hb, h⟩
 ·rw [h] at hj; simp at hj
 ·cases e
  exact h j hj
theorem Bs.sub {w : World} {b o : Nat} {l : List UInt8} (h : Bs w (some ⟨b, o, none⟩) l) (i n : Nat) : Bs w (some ⟨b, o + i, none⟩) ((l.drop i).take n) := by
 rcases h with h | ⟨b', o', e, hb, h⟩
 ·rw [h]; exact Or.inl (by simp)
 ·cases e
  refine Or.inr ⟨b, o + i, rfl, hb, fun j hj => ?_⟩
  have hj2 : i + j < l.length := by simp at hj; omega
  rw [Nat.add_assoc, h (i + j) hj2]
  simp
theorem RowsAt.len {w : World} {base : Nat} {v : Value} {l : List (List UInt8)} (h : RowsAt w base v l) : ∃ pa c, v = .slice pa l.length c := by
 obtain ⟨xs, ho, -⟩ := h
 rcases ho.2 with ⟨h1, h0⟩ | ⟨g, cap, cur, e1, _, _, h1, _⟩
 ·rw [h0]; exact ⟨_, _, h1⟩
 ·exact ⟨_, _, e1⟩
set_option maxRecDepth 100000 in
set_option maxHeartbeats 1000000 in
theorem pointer_ok (w : World) {base N A c : Nat} {ops : Int} {Z : List Nat} {vs : Nat → Value} {gs : Nat → Nat} {zs : Nat → List (List UInt8)} (h : DevG w base N A c ops Z vs gs zs) (j : Nat) (hj : j < Z.length) :
  Calls Tryz.prog 59 #[.pointer (some ⟨N, 0, none⟩), .int .i64 j] w fun e w' => e = .returned (.tuple #[.int .i64 (zs j).length, .int .i64 0]) ∧ w = w' := by
 have HD := Lib.hid (dat_any w h j hj)
 obtain ⟨pa, cc, hv⟩ := (h.rows j (by have := h.len; omega)).len
 have z0 : w.cell? ⟨Z[j], 0, none⟩ = some (.slice pa (zs j).length cc) := by rw [← hv]; exact cell_is (h.zone j hj) 0 rfl
 clear h hv
 generalize Z[j] = z at *
 clear hj
 go_enter Tryz.func59, Tryz.ntmps59
 go_wp2_with fail
 refine HD.out.mono ?_
 rintro e w1 ⟨rfl, rfl⟩
 go_wp2_with fail
 go_ret2
 exact ⟨rfl, rfl⟩
set_option maxHeartbeats 1000000 in
theorem dreset_any (w : World) {base N A c : Nat} {ops : Int} {Z : List Nat} {vs : Nat → Value} {gs : Nat → Nat} {zs : Nat → List (List UInt8)} (h : DevG w base N A c ops Z vs gs zs) (h0 : 0 ≤ ops) (h1 : ops ≤ 1000000) (j : Nat) (hj : j < Z.length) :
  Calls Tryz.prog 60 #[.pointer (some ⟨N, 0, none⟩), .int .i64 j] w fun e w' => e = .returned (.int .i64 0) ∧ Chg [N, Z[j]] w w' ∧ DevG w' base N A c (ops + 1) Z (upF vs j (.slice none 0 0)) (upF gs j 0) (upF zs j []) := by
 have HAt := Lib.hid (dat_any w h j hj)
 have HB := Lib.hid (dbegin_any w h h0 h1)
 clear h
 go_enter Tryz.func60, Tryz.ntmps60
 go_wp2_with fail
 refine HAt.out.mono ?_
 rintro e w1 ⟨rfl, rfl⟩
 go_wp2_with fail
 refine HB.out.mono ?_
 rintro e w2 ⟨rfl, hc1, h2⟩
 have hz := h2.zone j hj
 have hfin : ∀ w', w' = (w2.setCell ⟨Z[j], 0, none⟩ (.slice none 0 0)).setCell ⟨Z[j], 1, none⟩ (.int .i64 0) → Chg [N, Z[j]] w w' ∧ DevG w' base N A c (ops + 1) Z (upF vs j (.slice none 0 0)) (upF gs j 0) (upF zs j []) := by
  rintro w' rfl
  have k1 : Chg [Z[j]] w2 (w2.setCell ⟨Z[j], 0, none⟩ (.slice none 0 0)) := Chg.set _ _ _ _
  have d1 := h2.put hj (v' := .slice none 0 0) (l' := []) (w' := w2.setCell ⟨Z[j], 0, none⟩ (.slice none 0 0)) (k1.mono (fun x hx _ => by rw [List.mem_singleton] at hx; simp [hx])) (heap_set hz 0 _ rfl) (RowsAt.nil _ _) (fun g hg => by cases hg)
  exact ⟨(hc1.mono (fun x hx _ => by rw [List.mem_singleton] at hx; simp [hx])).then ((k1.mono (fun x hx _ => by rw [List.mem_singleton] at hx; simp [hx])).then ((Chg.set _ Z[j] 1 _).mono (fun x hx _ => by rw [List.mem_singleton] at hx; simp [hx]))), d1.setGood hj 0⟩
 have q0 := cell_is hz 0 rfl
 have q1 := cell_is hz 1 rfl
 have f0 := unfrozen hz 0
 have f1 := unfrozen hz 1
 have HF := Lib.hid hfin
 clear hfin h2 hc1 hz HB HAt
 generalize hgz : Z[j] = z at *
 have HZ := Lib.hid hgz
 clear hgz
 go_wp2_with fail
 go_ret
 rw [HZ.out]
 exact ⟨rfl, HF.out _ rfl⟩
def tailB (l : List UInt8) : List UInt8 := leB l.length 4 ++ leB (crcN l) 4
theorem tailB_length (l : List UInt8) : (tailB l).length = 8 := by simp [tailB, leB_length]
set_option maxHeartbeats 1000000 in
theorem tail_any (w : World) {pa : Option Addr} {m c : Nat} {l : List UInt8} (hb : Bs w pa l) (hl : l.length = m) (hm : m ≤ 1000000) : Calls Tryz.prog 191 #[.slice pa m c] w fun e w' => ∃ g c', e = .returned (.slice (some ⟨g, 0, none⟩) 8 c') ∧ Chg [] w w' ∧ w.heap.size ≤ g ∧ Bs w' (some ⟨g, 0, none⟩) (tailB l) ∧ Bt w' g := by
 have n1 : IntKind.u32.wrap (m : Int) = m := by rw [IntKind.wrap_u32]; omega
 have H1 := Lib.hid (put32_any w m (by omega))
 have HL := Lib.hid (And.intro hl hm)
 have HB := Lib.hid hb
 clear hb hl hm
 go_enter Tryz.func191, Tryz.ntmps191
 go_wp2_with fail
 refine H1.out.mono ?_
 rintro e w1 ⟨g1, rfl, k1, b1, s1⟩
 have HC := Lib.hid (crc_of w1 (c := c) (HB.out.chg k1) HL.out.1 HL.out.2)
 have HX := Lib.hid (And.intro k1 (And.intro b1 s1))
 clear k1 b1 s1 H1
 go_wp2_with fail
 refine HC.out.mono ?_
 rintro e w2 ⟨rfl, k2⟩
 have H2 := Lib.hid (put32_any w2 (crcN l) (crcN_lt l))
 have HY := Lib.hid (And.intro (HX.out.1.then k2) (HX.out.2.1.chg k2))
 clear k2 HC HX
 go_wp2_with fail
 refine H2.out.mono ?_
 rintro e w3 ⟨g2, rfl, k3, b3, s3⟩
 have ya := heap_new w3 (.cells #[.slice (some ⟨g1, 0, none⟩) 4 4, .slice (some ⟨g2, 0, none⟩) 4 4] 47)
 have ka : Chg [] w3 (w3.alloc (.cells #[.slice (some ⟨g1, 0, none⟩) 4 4, .slice (some ⟨g2, 0, none⟩) 4 4] 47)) := Chg.alloc w3 _
 have hR : Rws (w3.alloc (.cells #[.slice (some ⟨g1, 0, none⟩) 4 4, .slice (some ⟨g2, 0, none⟩) 4 4] 47)) w3.heap.size 0 [leB m 4, leB (crcN l) 4] := fun i hi => by
  match i, hi with
  | 0, _ => exact ⟨some ⟨g1, 0, none⟩, 4, cell_is ya 0 rfl, (HY.out.2.chg k3).chg ka⟩
  | 1, _ => exact ⟨some ⟨g2, 0, none⟩, 4, cell_is ya 1 rfl, b3.chg ka⟩
  | i + 2, h => exact absurd h (by simp)
 have HCo := Lib.hid (bconcat_any _ (cp := 2) (n := 8) (F := tailB l) hR rfl (by simp) (by simp [tailB, HL.out.1]) (tailB_length l) (by decide) (by decide))
 have HZ := Lib.hid ((HY.out.1.then k3).then ka)
 clear ya ka hR k3 b3 s3 HY H2
 go_wp2_with fail
 refine HCo.out.mono ?_
 rintro e w4 ⟨v, rfl, k4, o4⟩
 have hw : w.heap.size ≤ (w3.alloc (.cells #[.slice (some ⟨g1, 0, none⟩) 4 4, .slice (some ⟨g2, 0, none⟩) 4 4] 47)).heap.size := HZ.out.size
 have kf := HZ.out.then k4
 obtain ⟨g, c', rfl, hbt, hbs⟩ : ∃ g c', v = .slice (some ⟨g, 0, none⟩) 8 c' ∧ (w.heap.size ≤ g ∧ Bt w4 g) ∧ Bs w4 (some ⟨g, 0, none⟩) (tailB l) := by
  obtain ⟨pa2, c2, rfl, -⟩ := own_form o4
  rcases o4.2 with ⟨e, h0⟩ | ⟨g, cap, cur, e, hA, hg, -⟩
  ·cases h0
  ·cases e
   exact ⟨g, _, rfl, ⟨Nat.le_trans hw hA, _, hg⟩, Bs.own o4⟩
 go_wp2_with fail
 go_ret
 exact ⟨g, c', rfl, kf, hbt.1, hbs, hbt.2⟩
set_option maxHeartbeats 1000000 in
theorem sroom_any (w : World) {S N : Nat} {inn : Int} {tv : Value} {cnt : Nat} (h : SlotG w S N inn tv cnt) : Calls Tryz.prog 123 #[.pointer (some ⟨S, 0, none⟩)] w fun e w' => e = .returned (.int .i64 11440) ∧ Chg [] w w' := by
 have c0 : w.cell? ⟨S, 0, none⟩ = some (.pointer (some ⟨N, 0, none⟩)) := cell_is h 0 rfl
 have c1 : w.cell? ⟨S, 1, none⟩ = some (.int .i64 0) := cell_is h 1 rfl
 have c2 : w.cell? ⟨S, 2, none⟩ = some (.int .i64 3) := cell_is h 2 rfl
 have c3 : w.cell? ⟨S, 3, none⟩ = some (.int .i64 6) := cell_is h 3 rfl
 have c4 : w.cell? ⟨S, 4, none⟩ = some (.int .i64 96) := cell_is h 4 rfl
 clear h
 go_enter Tryz.func123, Tryz.ntmps123
 go_wp2_with fail
 go_quiet (fail)
 have kd : Chg [] w (w.drewN nq) := (Chg.refl [] w).drewN nq
 have c4q := kd.cell c4 (by simp)
 go_wp2_with fail
 go_ret
 exact ⟨rfl, kd⟩
theorem sldead_any (w : World) {S N : Nat} {inn : Int} {tv : Value} {cnt : Nat} (h : SlotG w S N inn tv cnt) : Calls Tryz.prog 124 #[.pointer (some ⟨S, 0, none⟩)] w fun e w' => e = .returned (.bool false) ∧ w = w' := by
 have c0 : w.cell? ⟨S, 0, none⟩ = some (.pointer (some ⟨N, 0, none⟩)) := cell_is h 0 rfl
 have c8 : w.cell? ⟨S, 8, none⟩ = some (.bool false) := cell_is h 8 rfl
 clear h
 go_enter Tryz.func124, Tryz.ntmps124
 go_wp2_with fail
 go_ret
 exact ⟨rfl, rfl⟩
theorem own_chgB {w w' : World} {S : List Nat} {base e size n : Nat} {v : Value} {xs : List Value} (h : w.ownsRow base e size v n xs) (hc : Chg S w w') (hS : ∀ g, v.ownBlock = some g → g ∉ S) : w'.ownsRow base e size v n xs := by
 refine ⟨h.1, ?_⟩
 rcases h.2 with ⟨e, h0⟩ | ⟨g, cap, cur, e, hA, hg, h3⟩
 ·exact Or.inl ⟨e, h0⟩
 ·exact Or.inr ⟨g, cap, cur, e, hA, hc.heap hg (hS g (by rw [e]; rfl)), h3⟩
theorem Chg.of_grownO {w w' : World} {ob : Option Nat} (h : w.grownBy w' ob) : Chg ob.toList w w' := by
 cases ob with
 | none => exact Chg.of_grown0 h
 | some g => exact Chg.of_grown h
theorem ty270 : Tryz.prog.underlying 283 = some (.slice 282) := by kernel_rfl
theorem inf226 : (Tryz.prog.info? 282).map (fun i => (i.zero, i.size, i.bytes)) = some (some (.agg #[.int .i64 0, .int .i64 0, .int .i64 0, .int .i64 0, .slice none 0 0]), 5, 56) := by kernel_rfl
theorem wpList_append_fr {ops : Array Oper} {rest : List Oper} {o : Oper} {a : Act} {w : World} {Q : Exit → Act → World → Prop} (hgd : o.guard = none) (s x : Operand)
  (ho : o.op = .call { callee := .builtin .append, args := #[s, x], argTypes := #[283, 283] }) (base b c n : Nat) (v u0 u1 u2 u3 u4 : Value) (xs : List Value) (hs : a.eval s = v) (hown : w.ownsRow base 282 5 v n xs) (hbase : base ≤ w.heap.size) (hn : n ≤ 1000)
  (hx : a.eval x = .slice (some ⟨b, 0, none⟩) 1 c) (hb : w.heap[b]? = some (.cells #[u0, u1, u2, u3, u4] 282 (0, 0))) (h1 : u0.oneCell' = true ∧ u1.oneCell' = true ∧ u2.oneCell' = true ∧ u3.oneCell' = true ∧ u4.oneCell' = true)
  (h : ∀ g cap w', w'.ownsRow base 282 5 (.slice (some ⟨g, 0, none⟩) (n + 1) cap) (n + 1) (xs ++ [u0, u1, u2, u3, u4]) → Chg v.ownBlock.toList w w' → wpList Tryz.prog ops Q rest (a.put o.dst (.slice (some ⟨g, 0, none⟩) (n + 1) cap)) w') : wpList Tryz.prog ops Q (o :: rest) a w := by
 obtain ⟨i, hi0, hz, hz1, hz2⟩ := info_parts inf226
 refine wpList_append_lies w hgd s x 283 ho base 282 i _ 5 56 ty270 hi0 hz hz1 hz2 rfl (by decide) v n xs hs hown ⟨b, 0, none⟩ 1 c [u0, u1, u2, u3, u4] hx rfl ?_ ?_ (by decide) (by unfold maxLen; omega) (by omega) hbase _ rfl ?_
 ·intro j u hu
  rw [show (⟨b, 0, none⟩ : Addr).add j = ⟨b, 0 + j, none⟩ from by unfold Addr.add; split <;> simp_all, Nat.zero_add]
  exact cell_is hb j (by simpa using hu)
 ·intro u hu
  simp at hu
  obtain ⟨h2, h3, h4, h5, h6⟩ := h1
  rcases hu with rfl | rfl | rfl | rfl | rfl <;> assumption
 ·intro g cap w' h2 h3 _ _
  exact h g cap w' h2 (Chg.of_grownO h3)
abbrev Frm := Nat × Nat × List UInt8
def BsT (w : World) (pb : Option Addr) (l : List UInt8) : Prop := l = [] ∨ ∃ g o, pb = some ⟨g, o, none⟩ ∧ Bt w g ∧ Bs w pb l
theorem BsT.bs {w : World} {pb : Option Addr} {l : List UInt8} (h : BsT w pb l) : Bs w pb l := by
 rcases h with h | ⟨_, _, _, _, h⟩
 ·exact Or.inl h
 ·exact h
theorem BsT.keep {w w' : World} {U : List Nat} {pb : Option Addr} {l : List UInt8} (h : BsT w pb l) (hc : Chg U w w') (hU : Av w U [5]) : BsT w' pb l := by
 rcases h with h | ⟨g, o, rfl, hb, h⟩
 ·exact Or.inl h
 ·have hn : g ∉ U := Bt.av hb hU (by simp)
  exact Or.inr ⟨g, o, rfl, Bt.keep hb hc hn, h.chgT hc hn⟩
def FrAt (w : World) (n : Nat) (f : Frm) (xs : List Value) (i : Nat) : Prop := ∃ pb c, xs[i * 5]? = some (.int .i64 f.1) ∧ xs[i * 5 + 1]? = some (.int .i64 0) ∧ xs[i * 5 + 2]? = some (.int .i64 n) ∧ xs[i * 5 + 3]? = some (.int .i64 f.2.1) ∧ xs[i * 5 + 4]? = some (.slice pb f.2.2.length c) ∧ BsT w pb f.2.2
def RowF (w : World) (base n : Nat) (v : Value) (fs : List Frm) : Prop := ∃ xs, w.ownsRow base 282 5 v fs.length xs ∧ ∀ i (h : i < fs.length), FrAt w n fs[i] xs i
theorem RowF.keep {w w' : World} {U : List Nat} {base n : Nat} {v : Value} {fs : List Frm} (h : RowF w base n v fs) (hc : Chg U w w') (hU : Av w U [5, 282]) : RowF w' base n v fs := by
 obtain ⟨xs, h1, h2⟩ := h
 refine ⟨xs, own_chgB h1 hc (fun g hg hm => ?_), fun i hi => ?_⟩
 ·obtain ⟨-, cur, hh⟩ := own_elem h1 hg
  exact hU g hm _ _ _ hh (by simp)
 ·obtain ⟨pb, c, e0, e1, e2, e3, e4, e5⟩ := h2 i hi
  exact ⟨pb, c, e0, e1, e2, e3, e4, e5.keep hc (fun x hx cs t fr hh hm => hU x hx cs t fr hh (by simp at hm; simp [hm]))⟩
theorem RowF.push {w w' : World} {base n g cap : Nat} {v : Value} {fs : List Frm} {f : Frm} {pb : Option Addr} {c : Nat} {xs : List Value} (hx : ∀ i (h : i < fs.length), FrAt w n fs[i] xs i) (hl : xs.length = fs.length * 5) (hv : w.ownsRow base 282 5 v fs.length xs)
  (ho : w'.ownsRow base 282 5 (.slice (some ⟨g, 0, none⟩) (fs.length + 1) cap) (fs.length + 1) (xs ++ [.int .i64 f.1, .int .i64 0, .int .i64 n, .int .i64 f.2.1, .slice pb f.2.2.length c])) (hc : Chg v.ownBlock.toList w w') (hb : BsT w pb f.2.2) : RowF w' base n (.slice (some ⟨g, 0, none⟩) (fs.length + 1) cap) (fs ++ [f]) := by
 have hU : Av w v.ownBlock.toList [5] := fun x hx cs t fr hh hm => by
  obtain ⟨-, cur, h2⟩ := own_elem hv (show v.ownBlock = some x by simpa using hx)
  rw [hh] at h2
  cases h2
  simp at hm
 refine ⟨_, by rw [List.length_append]; exact ho, fun i hi => ?_⟩
 by_cases e : i < fs.length
 ·rw [List.getElem_append_left e]
  obtain ⟨pb, c, e0, e1, e2, e3, e4, e5⟩ := hx i e
  refine ⟨pb, c, ?_, ?_, ?_, ?_, ?_, e5.keep hc hU⟩
  all_goals (rw [List.getElem?_append_left (by omega)]; assumption)
 ·have e2 : i = fs.length := by rw [List.length_append] at hi; simp at hi; omega
  subst e2
  rw [List.getElem_append_right (Nat.le_refl _)]
  simp only [Nat.sub_self, List.getElem_cons_zero]
  refine ⟨pb, c, ?_, ?_, ?_, ?_, ?_, hb.keep hc hU⟩
  ·rw [List.getElem?_append_right (by omega), hl, Nat.sub_self]; rfl
  ·rw [List.getElem?_append_right (by omega), hl, Nat.add_sub_cancel_left]; rfl
  ·rw [List.getElem?_append_right (by omega), hl, Nat.add_sub_cancel_left]; rfl
  ·rw [List.getElem?_append_right (by omega), hl, Nat.add_sub_cancel_left]; rfl
  ·rw [List.getElem?_append_right (by omega), hl, Nat.add_sub_cancel_left]; rfl
theorem RowF.open_ {w : World} {base n K : Nat} {v : Value} {fs : List Frm} (h : RowF w base n v fs) (hK : fs.length = K) : ∃ xs pv cv, v = .slice pv K cv ∧ K ≤ cv ∧ w.ownsRow base 282 5 (.slice pv K cv) K xs ∧ ∀ (f : Frm) (pb : Option Addr) (c : Nat) (w' : World) (g cap : Nat),
  w'.ownsRow base 282 5 (.slice (some ⟨g, 0, none⟩) (K + 1) cap) (K + 1) (xs ++ [.int .i64 f.1, .int .i64 0, .int .i64 n, .int .i64 f.2.1, .slice pb f.2.2.length c]) → Chg (Value.slice pv K cv).ownBlock.toList w w' → BsT w pb f.2.2 → RowF w' base n (.slice (some ⟨g, 0, none⟩) (K + 1) cap) (fs ++ [f]) := by
 subst hK
 obtain ⟨xs, h1, h2⟩ := h
 obtain ⟨pv, cv, rfl, hc⟩ := own_form h1
 exact ⟨xs, pv, cv, rfl, hc, h1, fun f pb c w' g cap ho hc hb => RowF.push h2 h1.1 h1 ho hc hb⟩
theorem RowF.get {w : World} {base n : Nat} {v : Value} {fs : List Frm} (h : RowF w base n v fs) (i : Nat) (hi : i < fs.length) : ∃ g cap pb c, v = .slice (some ⟨g, 0, none⟩) fs.length cap ∧ fs.length ≤ cap ∧ (∃ cs, w.heap[g]? = some (.cells cs 282 (0, 0))) ∧
  w.cell? ⟨g, i * 5, none⟩ = some (.int .i64 fs[i].1) ∧ w.cell? ⟨g, i * 5 + 1, none⟩ = some (.int .i64 0) ∧ w.cell? ⟨g, i * 5 + 2, none⟩ = some (.int .i64 n) ∧ w.cell? ⟨g, i * 5 + 3, none⟩ = some (.int .i64 fs[i].2.1) ∧ w.cell? ⟨g, i * 5 + 4, none⟩ = some (.slice pb fs[i].2.2.length c) ∧ BsT w pb fs[i].2.2 := by
 obtain ⟨xs, h1, h2⟩ := h
 obtain ⟨pb, c, e0, e1, e2, e3, e4, e5⟩ := h2 i hi
 rcases h1.2 with ⟨e, h0⟩ | ⟨g, cap, cur, e, hA, hg, hc1, hc2, hc3, ht⟩
 ·omega
 ·have hget : ∀ k, k < fs.length * 5 → cur[k]? = xs[k]? := fun k hk => by
   rw [← ht, List.getElem?_take_of_lt hk, Array.getElem?_toList]
  exact ⟨g, cap, pb, c, e, hc1, ⟨_, hg⟩, cell_is hg _ (by rw [hget _ (by omega)]; exact e0), cell_is hg _ (by rw [hget _ (by omega)]; exact e1), cell_is hg _ (by rw [hget _ (by omega)]; exact e2), cell_is hg _ (by rw [hget _ (by omega)]; exact e3), cell_is hg _ (by rw [hget _ (by omega)]; exact e4), e5⟩
def nCh (m : Nat) : Nat := (m + 39) / 40
def chB (l : List UInt8) (j : Nat) : List UInt8 := (l.drop (40 * j)).take 40
theorem chB_length (l : List UInt8) (j : Nat) : (chB l j).length = min 40 (l.length - 40 * j) := by simp [chB]
def frmA (l : List UInt8) (k : Nat) : List Frm := (3, 0, []) :: (List.range k).map fun j => (1, 0, chB l j)
def frmL (l : List UInt8) : List Frm := frmA l (nCh l.length) ++ [(2, nCh l.length, tailB l)]
theorem frmA_length (l : List UInt8) (k : Nat) : (frmA l k).length = k + 1 := by simp [frmA]
theorem frmL_length (l : List UInt8) : (frmL l).length = nCh l.length + 2 := by simp [frmL, frmA_length]
theorem frmA_succ (l : List UInt8) (k : Nat) : frmA l (k + 1) = frmA l k ++ [(1, 0, chB l k)] := by simp [frmA, List.range_succ]
def encS (n : Nat) (l : List UInt8) : List (List UInt8) := (frmL l).map fun f => encF f.1 0 n f.2.1 f.2.2
theorem encS_length (n : Nat) (l : List UInt8) : (encS n l).length = nCh l.length + 2 := by simp [encS, frmL_length]
theorem frmL_ok {l : List UInt8} (hl : l.length ≤ 11440) : ∀ f ∈ frmL l, (1 ≤ f.1 ∧ f.1 ≤ 3) ∧ f.2.1 ≤ 1000 ∧ f.2.2.length ≤ 40 := fun f hf => by
 have hn : nCh l.length ≤ 286 := by unfold nCh; omega
 rcases List.mem_append.1 hf with hf | hf
 ·rcases List.mem_cons.1 hf with rfl | hf
  ·exact ⟨⟨Nat.le_of_ble_eq_true rfl, Nat.le_of_ble_eq_true rfl⟩, Nat.zero_le _, Nat.zero_le _⟩
  ·obtain ⟨j, -, rfl⟩ := List.mem_map.1 hf
   exact ⟨⟨Nat.le_refl 1, Nat.le_of_ble_eq_true rfl⟩, by show 0 ≤ 1000; omega, by show (chB l j).length ≤ 40; rw [chB_length]; omega⟩
 ·rw [List.mem_singleton] at hf
  subst hf
  exact ⟨⟨Nat.le_of_ble_eq_true rfl, Nat.le_of_ble_eq_true rfl⟩, by show nCh l.length ≤ 1000; omega, by show (tailB l).length ≤ 40; rw [tailB_length]; omega⟩
def putF (zs : Nat → List (List UInt8)) (a : Nat) (F : List (List UInt8)) (k : Nat) : Nat → List (List UInt8) := fun z => if a ≤ z ∧ z < a + 3 then ((F.take k).drop (96 * (z - a))).take 96 else zs z
theorem putF_len {zs : Nat → List (List UInt8)} {a k : Nat} {F : List (List UInt8)} (hk : k < F.length) (hF : F.length ≤ 288) : (putF zs a F k (a + k / 96)).length = k % 96 := by
 have h1 : a ≤ a + k / 96 ∧ a + k / 96 < a + 3 := by omega
 simp only [putF, if_pos h1, List.length_take, List.length_drop]
 omega
theorem putF_succ {zs : Nat → List (List UInt8)} {a k : Nat} {F : List (List UInt8)} (hk : k < F.length) (hF : F.length ≤ 288) : upF (putF zs a F k) (a + k / 96) (putF zs a F k (a + k / 96) ++ [F[k]]) = putF zs a F (k + 1) := by
 have e0 : F.take (k + 1) = F.take k ++ [F[k]] := by rw [List.take_add_one, List.getElem?_eq_getElem hk]; rfl
 funext z
 by_cases e : z = a + k / 96
 ·subst e
  have h1 : a ≤ a + k / 96 ∧ a + k / 96 < a + 3 := by omega
  simp only [upF, putF, if_pos h1, if_true]
  rw [Nat.add_sub_cancel_left, e0, List.drop_append_of_le_length (by simp; omega), List.take_append]
  have h2 : (List.drop (96 * (k / 96)) (List.take k F)).length = k % 96 := by simp; omega
  rw [h2]
  congr 1
  rw [List.take_of_length_le (by simp; omega)]
 ·simp only [upF, if_neg e, putF]
  by_cases h1 : a ≤ z ∧ z < a + 3
  ·rw [if_pos h1, if_pos h1]
   by_cases h2 : z < a + k / 96
   ·rw [e0, List.drop_append_of_le_length (by simp; omega), List.take_append_of_le_length (by simp; omega)]
   ·rw [List.drop_eq_nil_of_le (by simp; omega), List.drop_eq_nil_of_le (by simp; omega)]
  ·rw [if_neg h1, if_neg h1]
theorem encS_get {n i : Nat} {l : List UInt8} (h : i < (frmL l).length) (h' : i < (encS n l).length) : (encS n l)[i] = encF (frmL l)[i].1 0 n (frmL l)[i].2.1 (frmL l)[i].2.2 := by simp [encS]
def Dc (lw : Nat) (w w' : World) : Prop := ∃ U, Chg U w w' ∧ Tp w U [128, 132, 47] ∧ ∀ x ∈ U, lw ≤ x
theorem Dc.of0 {lw : Nat} {w w' : World} (h : Chg [] w w') : Dc lw w w' := ⟨[], h, (fun x hx => by cases hx), fun x hx => by cases hx⟩
theorem Dc.trans {lw : Nat} {a b c : World} (h : Dc lw a b) (k : Dc lw b c) : Dc lw a c := by
 obtain ⟨U, h1, h2, h3⟩ := h
 obtain ⟨V, k1, k2, k3⟩ := k
 refine ⟨U ++ V.filter (fun x => decide (x < a.heap.size ∧ x ∉ U)), ?_, fun x hx => ?_, fun x hx => ?_⟩
 ·refine (h1.mono (fun x hx _ => List.mem_append_left _ hx)).trans k1 (fun x hx hl => ?_)
  by_cases e : x ∈ U
  ·exact List.mem_append_left _ e
  ·exact List.mem_append_right _ (List.mem_filter.2 ⟨hx, by simpa using ⟨hl, e⟩⟩)
 ·rcases List.mem_append.1 hx with hx | hx
  ·exact h2 x hx
  ·obtain ⟨hx1, hx2⟩ := List.mem_filter.1 hx
   obtain ⟨hl, hn⟩ : x < a.heap.size ∧ x ∉ U := by simpa using hx2
   obtain ⟨cs, t, e1, e2⟩ := k2 x hx1
   have : a.heap[x]? = b.heap[x]? := by
    have ho : a.heap[x]? = some a.heap[x] := Array.getElem?_eq_getElem hl
    rw [ho, h1.heap ho hn]
   exact ⟨cs, t, by rw [this]; exact e1, e2⟩
 ·rcases List.mem_append.1 hx with hx | hx
  ·exact h3 x hx
  ·exact k3 x (List.mem_filter.1 hx).1
theorem Dc.heap {lw : Nat} {w w' : World} (h : Dc lw w w') {x : Nat} {cs : Array Value} {t : TypeId} (hh : w.heap[x]? = some (.cells cs t (0, 0))) (ht : t ∉ [128, 132, 47]) : w'.heap[x]? = some (.cells cs t (0, 0)) := by
 obtain ⟨U, h1, h2, -⟩ := h
 refine h1.heap hh (fun hm => ?_)
 obtain ⟨cs2, t2, e1, e2⟩ := h2 x hm
 rw [hh] at e1
 cases e1
 exact ht e2
end Go.Proofs.YtelakcjbknbehaaGreat
