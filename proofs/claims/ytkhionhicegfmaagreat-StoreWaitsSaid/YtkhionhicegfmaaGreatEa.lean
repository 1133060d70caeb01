/- Lemmas and walks: Walks: a transaction begins beside others. Printed by mkUa.py. Walks: what waits, of many transactions (txn.waiting). Walks: spans are sorted and joined, told exactly. Walks: a set of one block: what it has (ival.Add, Has); a transaction's puts against a set (valid.Against). Printed by mkUc.py in its first part. -/
import Derived.Test.YtkhionhicegfmaaGreatDd
import Derived.Test.YtkhionhicegfmaaGreatDk
namespace Go.Proofs.YtkhionhicegfmaaGreat
open Go.RowKit Go.Lib Go.Maps Go.Sort Go.Shelf

set_option maxRecDepth 100000 in
/-- slices.Sorted(maps.Keys(m)). -/
theorem sortedB_any (W : World) {r : Nat} {L : List (Int × Value)} (h : MapAt W r L) (hw : ∀ p ∈ L, (Lit.int .i64 p.1).wf = true) (hl : L.length ≤ 100000) :
    Calls Tryz.prog 107 #[.func (.func 220) #[] #[.pointer (some ⟨W.heap.size, 0, none⟩)]] (W.alloc (.cells #[.map (some r)] 254)) fun e w' => ∃ v, e = .returned v ∧ w'.ownsRow W.heap.size 3 1 v L.length ((sortI (L.map Prod.fst)).map encZ) ∧ Chg [] W w' := by
  obtain ⟨D, hown, hp, hsz⟩ := owns_any (h.keep (Chg.alloc (S := []) W (.cells #[.map (some r)] 254)) (by simp)) 3 (by kernel_rfl) hw (by unfold maxLen; omega)
  have hseq : SeqGives Fence.wide 2 Tryz.prog 220 #[.pointer (some ⟨W.heap.size, 0, none⟩)] encZ (fun ss => ss.Perm (intKeys D)) (Maps.size D) (W.alloc (.cells #[.map (some r)] 254)) :=
    AnyZI.keys_gives (ρ := Tryz.keysB_ren) { Tryz.keysB with } Fence.wide _ trivial rfl (by omega) W.heap.size r L.length D _ (by simp) (by simp) hown
  have cS := AnyZI.sorted_in Tryz.sortedA Fence.wide 5 trivial trivial trivial trivial rfl (by omega) (sorts_all _) (enters_of Tryz.func155 (by kernel_rfl) rfl) 220 #[.pointer (some ⟨W.heap.size, 0, none⟩)] trivial (enters_of Tryz.func220 (by kernel_rfl) rfl) _ (Maps.size D) (by rw [hsz]; unfold maxLen; omega) (by rw [hsz]; omega) _ hseq
  refine (callsIn_wide.1 cS).mono ?_
  rintro e w' ⟨v, ss, rfl, hS, hrow, hnil, hbl⟩
  have hs : ss.mergeSort (fun x y => decide (x ≤ y)) = sortI (L.map Prod.fst) := mergeSort_of_perm_i (hS.trans hp)
  have hsl : ss.length = L.length := by rw [(hS.trans hp).length_eq, List.length_map]
  rw [hs, hsl] at hrow
  exact ⟨v, rfl, own_base hrow (by simp), (Chg.alloc W _).then (Chg.of_below hbl)⟩
set_option maxRecDepth 100000 in
theorem bcount_any (w : World) {B rb : Nat} {last : Int} {L : List (Int × Value)} (h : BookAt w B rb last L) (hk : ∀ p ∈ L, 0 ≤ p.1 ∧ p.1 ≤ 1000000) (hl : L.length ≤ 1000) : Calls Tryz.prog 134 #[.pointer (some ⟨B, 0, none⟩)] w fun e w' => e = .returned (.int .i64 L.length) ∧ Chg [] w w' := by
  have c2 : w.cell? ⟨B, 2, none⟩ = some (.map (some rb)) := cell_is h.1 2 rfl
  have HS := Lib.hid (sortedB_any w h.2 (fun p hp => wf_i64 (by have := hk p hp; omega) (by have := hk p hp; omega)) (by omega))
  have HL : Hid (Calls Tryz.prog 171 #[.pointer (some ⟨B, 0, none⟩)] w fun e w' => ∃ pa c, e = .returned (.slice pa L.length c) ∧ Chg [] w w') := Lib.hid (by
    clear h
    go_enter Tryz.func171, Tryz.ntmps171
    go_wp2_with (first
      | (go_at_call 196; refine (keysB_any (some rb) _).mono ?_; rintro e w1 ⟨rfl, rfl⟩)
      | (go_at_call 107; refine HS.out.mono ?_; rintro e w2 ⟨v2, rfl, o2, k2⟩; obtain ⟨pk, ck, rfl, hck⟩ := own_form o2))
    go_ret
    exact ⟨pk, ck, rfl, k2⟩)
  clear h HS
  go_enter Tryz.func134, Tryz.ntmps134
  go_wp2_with fail
  refine HL.out.mono ?_
  rintro e w1 ⟨pa, c, rfl, hc⟩
  go_wp2_with fail
  go_ret
  exact ⟨rfl, hc⟩
set_option maxRecDepth 100000 in
theorem hopen_many (w : World) {B rb : Nat} {bl t : Int} {L : List (Int × Value)} (h : BookAt w B rb bl L) (hk : ∀ p ∈ L, 0 ≤ p.1 ∧ p.1 ≤ 1000000) (hl : L.length < 16) (h0 : 0 ≤ t) (h1 : t ≤ 1099511627776) (hb0 : 0 ≤ bl) (hb1 : bl ≤ 1000000) : Calls Tryz.prog 110 #[.pointer (some ⟨B, 0, none⟩), .int .i64 t] w fun e w' => e = .returned (.tuple #[.int .i64 (bl + 1), .int .i64 0]) ∧ Chg [B, rb] w w' ∧ BookAt w' B rb (bl + 1) (putL L (bl + 1) (.int .i64 t)) := by
  have n0 : decide (t < 0) = false := decide_eq_false (by omega)
  have n1 : decide (1099511627776 < t) = false := decide_eq_false (by omega)
  have hw : wrap64 (bl + 1) = bl + 1 := by unfold wrap64; omega
  clear h0 h1
  go_enter Tryz.func110, Tryz.ntmps110
  go_wp2_with fail
  have hlt : (L.length : Int) < 16 := by omega
  refine (bcount_any w h hk (by omega)).mono ?_
  rintro e w1 ⟨rfl, hc⟩
  have h1 := h.keep hc (by simp) (by simp)
  go_wp2_with fail
  refine (room_any w1 h1).mono ?_
  rintro e w2 ⟨rfl, rfl⟩
  have c1 : w1.cell? ⟨B, 1, none⟩ = some (.int .i64 bl) := cell_is h1.1 1 rfl
  have f1 := unfrozen h1.1 1
  have h2 : (w1.setCell ⟨B, 1, none⟩ (.int .i64 (bl + 1))).heap[B]? = some (.cells #[.int .i64 16, .int .i64 (bl + 1), .map (some rb)] 256 (0, 0)) := heap_set h1.1 1 _ rfl
  have hne : rb ≠ B := map_cells h1.2 h1.1
  have k2 := Chg.set w1 B 1 (.int .i64 (bl + 1))
  have m2 : MapAt (w1.setCell ⟨B, 1, none⟩ (.int .i64 (bl + 1))) rb L := h1.2.keep k2 (by simpa using hne)
  have hc2 : Chg [B, rb] w (w1.setCell ⟨B, 1, none⟩ (.int .i64 (bl + 1))) := (hc.mono (T := [B, rb]) (fun x hx _ => by cases hx)).then (k2.mono (fun x hx _ => by simp at hx; simp [hx]))
  clear h1 h
  go_wp2_with fail
  generalize w1.setCell ⟨B, 1, none⟩ (.int .i64 (bl + 1)) = w2 at *
  have e1 : w2.cell? ⟨B, 1, none⟩ = some (.int .i64 (bl + 1)) := cell_is h2 1 rfl
  have e2 : w2.cell? ⟨B, 2, none⟩ = some (.map (some rb)) := cell_is h2 2 rfl
  have m3 : MapAt w2.drew rb L := m2
  obtain ⟨w3, hmu, m4, k3, hs3⟩ := run_update_im (P := Tryz.prog) (mty := 254) (kt := 3) (et := 3) (by kernel_rfl) (by kernel_rfl) m3 (bl + 1) (.int .i64 t)
  go_region_held3 (fun wx => wx.cell? ⟨B, 1, none⟩ = some (.int .i64 (bl + 1)) ∧ wx.cell? ⟨B, 2, none⟩ = some (.map (some rb))) (first | (exact ⟨e1, e2⟩) | (exact ⟨k3.cell e1 (by simpa using hne.symm), k3.cell e2 (by simpa using hne.symm)⟩)) (fail)
  have g3 : w3.heap[B]? = some (.cells #[.int .i64 16, .int .i64 (bl + 1), .map (some rb)] 256 (0, 0)) := k3.heap (g := B) h2 (by simpa using hne.symm)
  have e3 : w3.cell? ⟨B, 1, none⟩ = some (.int .i64 (bl + 1)) := cell_is g3 1 rfl
  clear e1 e2 hmu
  go_wp2_with fail
  go_ret2
  exact ⟨rfl, hc2.then (Chg.trans (Chg.refl [B, rb] w2).drew k3 (fun x hx _ => by simp at hx; simp [hx])), g3, m4⟩
/-- what a manager's Begin leaves. -/
def BegRm (w w' : World) (M X rx B rb r : Nat) (s : Gs) : Prop := ∃ T W rw Q V, Chg [B, rb, r] w w' ∧ Mx w' M X rx B rb r { s with bl := s.bl + 1, Lb := putL s.Lb (s.bl + 1) (.int .i64 s.last), Lr := putL s.Lr (s.bl + 1) (.pointer (some ⟨T, 0, none⟩)) } ∧ TxT w' T W Q s.last ∧ BufAt w' W rw [] ∧ ViewT w' Q X W V s.last (.slice none 0 0) ∧ SpansAt w' V (.slice none 0 0) ∧ rw ≠ r ∧ rw ≠ rb ∧ rw ≠ rx ∧ w.heap.size ≤ T ∧ w.heap.size ≤ W ∧ w.heap.size ≤ rw ∧ w.heap.size ≤ Q ∧ w.heap.size ≤ V
set_option maxRecDepth 100000 in
set_option maxHeartbeats 1000000 in
theorem tbegin_many (w : World) {M X rx B rb r : Nat} {s : Gs} (h : Mx w M X rx B rb r s) (hLk : ∀ p ∈ s.Lb, 0 ≤ p.1 ∧ p.1 ≤ 1000000) (hLl : s.Lb.length < 16) (h0 : 0 ≤ s.last) (h1 : s.last ≤ 1099511627776) (hb0 : 0 ≤ s.bl) (hb1 : s.bl ≤ 1000000) : Calls Tryz.prog 61 #[.pointer (some ⟨M, 0, none⟩)] w fun e w' =>
    e = .returned (.tuple #[.int .i64 (s.bl + 1), .int .i64 0]) ∧ BegRm w w' M X rx B rb r s := by
  have hh := h.keep (Chg.refl [] w).drew
  have hbk := hh.book
  have HO := Lib.hid (hopen_many w.drew (t := s.last) hbk hLk hLl h0 h1 hb0 hb1)
  obtain ⟨t, ht⟩ : ∃ t, t = s.last := ⟨_, rfl⟩
  obtain ⟨bl, hbl⟩ : ∃ t, t = s.bl := ⟨_, rfl⟩
  obtain ⟨bn, hbn⟩ : ∃ t, t = bl + 1 := ⟨_, rfl⟩
  obtain ⟨c0, c1, c2, c7⟩ := h.cells
  rw [← hbl, ← hbn] at HO ⊢
  rw [← ht] at HO c7
  have HG := Lib.hid (tgone_x w h)
  have HT := Lib.hid ht
  have HBl := Lib.hid hbl
  have HBn := Lib.hid hbn
  have HM := Lib.hid h
  have HH := Lib.hid hh
  clear h0 h1 hb0 hb1 hLk hLl hbk ht hbl hbn h hh
  go_enter Tryz.func61, Tryz.ntmps61
  go_wp2_with fail
  refine HG.out.mono ?_
  rintro e w1 ⟨rfl, rfl⟩
  go_wp2_with fail
  go_region_held3 (fun wx => wx.cell? ⟨M, 1, none⟩ = some (.pointer (some ⟨B, 0, none⟩)) ∧ wx.cell? ⟨M, 7, none⟩ = some (.int .i64 t)) (first | (exact ⟨c1, c7⟩) | (exact ⟨h2.cells.2.1, by rw [HT.out]; exact h2.cells.2.2.2⟩))
    (first
      | (go_at_call 110; refine HO.out.mono ?_; rintro e w2 ⟨rfl, k2, hb2⟩; have h2 := HH.out.opened k2 hb2))
  clear c0 c1 c2 c7 HO HG HH
  obtain ⟨c0, c1, c2, c7⟩ := h2.cells
  have c7' : w2.cell? ⟨M, 7, none⟩ = some (.int .i64 t) := by rw [HT.out]; exact c7
  clear c7
  have HB := Lib.hid (gblocks_any w2 h2.ver)
  have H2 := Lib.hid h2
  clear h2
  go_wp2_with fail
  refine HB.out.mono ?_
  rintro e w3 ⟨rfl, rfl⟩
  go_wp2_with fail
  refine (wnew_any w2).mono ?_
  rintro e w3 ⟨W, rw, rfl, k3, hW, l1, l2⟩
  have h3 := H2.out.keep k3
  clear c0 c1 c2 c7' HB
  obtain ⟨c0, c1, c2, c7⟩ := h3.cells
  have c7' : w3.cell? ⟨M, 7, none⟩ = some (.int .i64 t) := by rw [HT.out]; exact c7
  clear c7
  have H3 := Lib.hid h3
  have HW := Lib.hid hW
  clear h3 hW
  go_wp2_with fail
  go_region_held3 (fun wx => wx.cell? ⟨M, 0, none⟩ = some (.pointer (some ⟨X, 0, none⟩)) ∧ wx.cell? ⟨M, 1, none⟩ = some (.pointer (some ⟨B, 0, none⟩)) ∧ wx.cell? ⟨M, 2, none⟩ = some (.map (some r)) ∧ wx.cell? ⟨M, 7, none⟩ = some (.int .i64 t))
    (first
      | (exact ⟨c0, c1, c2, c7'⟩)
      | (rw [HT.out]; exact H4.out.cells)
      | (rw [HT.out]; exact (H4.out.keep (Chg.alloc (S := []) _ _)).cells)
      | (rw [HT.out]; exact ((H4.out.keep (Chg.alloc (S := []) w4 _)).table (upd178 (H4.out.keep (Chg.alloc (S := []) w4 _)).map _ _).2.2 (upd178 (H4.out.keep (Chg.alloc (S := []) w4 _)).map _ _).2.1).cells))
    (first
      | (go_at_call 113; refine (vnew_gen w3.drew X W t).mono ?_; rintro e w4 ⟨Q, V, rfl, k4, hQ, hV, l3, l4⟩; have H4 := Lib.hid ((H3.out.keep (Chg.refl [] w3).drew).keep k4); have hmu : ∀ o v, (Instr.mapUpdate 187 (.map (some r)) (.int .i64 bn) v).run Tryz.prog (w4.alloc o) = .ok () (updW (w4.alloc o) 187 r bn v) := fun o v => (upd178 (H4.out.map.keep (Chg.alloc (S := []) w4 o) (by simp)) bn v).1))
  have q1 := H2.out.map.lt
  have q2 := H2.out.book.2.lt
  have q3 := H2.out.ver.m.lt
  have h5 := H4.out.keep (Chg.alloc (S := []) w4 (.cells #[.int .i64 1, .int .i64 0, .int .i64 0, .int .i64 t, .pointer (some ⟨W, 0, none⟩), .pointer (some ⟨Q, 0, none⟩)] 202))
  have hT : TxT (w4.alloc (.cells #[.int .i64 1, .int .i64 0, .int .i64 0, .int .i64 t, .pointer (some ⟨W, 0, none⟩), .pointer (some ⟨Q, 0, none⟩)] 202)) w4.heap.size W Q t := heap_new w4 _
  have kx := Chg.alloc (S := []) w4 (.cells #[.int .i64 1, .int .i64 0, .int .i64 0, .int .i64 t, .pointer (some ⟨W, 0, none⟩), .pointer (some ⟨Q, 0, none⟩)] 202)
  have hW5 := HW.out.keep (((Chg.refl [] w3).drew.then k4).then kx) (by simp) (by simp)
  have hQ5 := kx.heap hQ (by simp)
  have hV5 := kx.heap hV (by simp)
  have kk := ((k2.mono (T := [B, rb, r]) (fun x hx _ => by simp at hx; rcases hx with rfl | rfl <;> simp)).then (k3.mono (fun x hx _ => by cases hx))).then ((((Chg.refl [] w3).drew.then k4).then kx).mono (fun x hx _ => by cases hx))
  have s4 := k4.size
  generalize w4.alloc (.cells #[.int .i64 1, .int .i64 0, .int .i64 0, .int .i64 t, .pointer (some ⟨W, 0, none⟩), .pointer (some ⟨Q, 0, none⟩)] 202) = w5 at *
  obtain ⟨-, mm, k6⟩ := upd178 h5.map bn (.pointer (some ⟨w4.heap.size, 0, none⟩))
  have h6 := h5.table k6 mm
  have t6 : TxT (updW w5 187 r bn (.pointer (some ⟨w4.heap.size, 0, none⟩))) w4.heap.size W Q t := k6.heap hT (by simpa using (map_cells h5.map hT).symm)
  have nr : rw ≠ r := by omega
  have b6 := hW5.keep k6 (by simpa using (map_cells h5.map hW5.1).symm) (by simpa using nr)
  have v6 := k6.heap hQ5 (by simpa using (map_cells h5.map hQ5).symm)
  have s6 := k6.heap hV5 (by simpa using (map_cells h5.map hV5).symm)
  have kf := kk.then (k6.mono (T := [B, rb, r]) (fun x hx _ => by simp at hx; simp [hx]))
  have hb1 : w.heap.size ≤ rw ∧ w.heap.size ≤ W := by have := k2.size; have h9 : w.drew.heap.size = w.heap.size := rfl; omega
  have hb2 : w.heap.size ≤ Q ∧ w.heap.size ≤ V := by have := k2.size; have := k3.size; have h9 : w.drew.heap.size = w.heap.size := rfl; have h8 : w3.drew.heap.size = w3.heap.size := rfl; omega
  have hb3 : w.heap.size ≤ w4.heap.size := by have := k2.size; have := k3.size; have h9 : w.drew.heap.size = w.heap.size := rfl; have h8 : w3.drew.heap.size = w3.heap.size := rfl; omega
  have n2 : rw ≠ rb := by omega
  have n3 : rw ≠ rx := by omega
  generalize w4.heap.size = T at *
  have HF := Lib.hid h6
  clear hmu q1 q2 q3 h5 h6 H4 H3 H2 HM kk hW5 hQ5 hV5 mm
  go_wp2_with fail
  go_ret2
  refine ⟨rfl, T, W, rw, Q, V, ?_⟩
  rw [← HBl.out, ← HBn.out, ← HT.out]
  have hF := HF.out
  rw [← HT.out] at hF
  exact ⟨(Chg.refl [B, rb, r] w).drew.then kf, hF, t6, b6, v6, s6, nr, n2, n3, hb3, hb1.2, hb1.1, hb2⟩
/-- the manager behind a Begin. -/
def begM (s : Gs) (T : Nat) : Gs := { s with bl := s.bl + 1, Lb := putL s.Lb (s.bl + 1) (.int .i64 s.last), Lr := putL s.Lr (s.bl + 1) (.pointer (some ⟨T, 0, none⟩)) }
/-- what a store's Begin leaves. -/
def BegKm (w w' : World) (lw : Nat) (d : Ids) (s : Gs) (g : Gk) : Prop := ∃ T W rw Q V, Chg [d.B, d.rb, d.r] w w' ∧ w.heap.size ≤ T ∧
  Su w' w.heap.size { d with T := T, W := W, rw := rw, Q := Q, V := V } (begP s) (StkF lw { d with T := T, W := W, rw := rw, Q := Q, V := V } (begM s T) g) (fun b => bytT (s.vs b) s.last) [] 0
set_option maxRecDepth 100000 in
theorem kbegin_many (w : World) {lw : Nat} {d : Ids} {s : Gs} {g : Gk} (h : Stk w lw d s g) (hLk : ∀ p ∈ s.Lb, 0 ≤ p.1 ∧ p.1 ≤ 1000000) (hLl : s.Lb.length < 16) (h0 : 0 ≤ s.last) (h1 : s.last ≤ 1099511627776) (hb0 : 0 ≤ s.bl) (hb1 : s.bl ≤ 1000000) :
    Calls Tryz.prog 16 #[.pointer (some ⟨d.P, 0, none⟩)] w fun e w' => e = .returned (.tuple #[.int .i64 (s.bl + 1), .int .i64 0]) ∧ BegKm w w' lw d s g := by
  have HD := Lib.hid (dead_g w h.store)
  have p5 : w.cell? ⟨d.P, 5, none⟩ = some (.pointer (some ⟨d.M, 0, none⟩)) := cell_is h.store 5 rfl
  have HB := Lib.hid (tbegin_many w h.mx hLk hLl h0 h1 hb0 hb1)
  have HS := Lib.hid h
  clear h hLk hLl h0 h1 hb0 hb1
  go_enter Tryz.func16, Tryz.ntmps16
  go_wp2_with fail
  refine HD.out.mono ?_
  rintro e w1 ⟨rfl, rfl⟩
  go_wp2_with fail
  refine HB.out.mono ?_
  rintro e w1 ⟨rfl, T, W, rw, Q, V, k1, hx, hT, hb, hv, hs, n1, n2, n3, b1, b2, b3, b4, b5⟩
  have hF : BegKm w w1 lw d s g := by
    have hS := HS.out
    have avB : Av w [d.B, d.rb, d.r] [105, 166, 5, 93, 94, 97, 40] := fun x hx cs t fr hh => by
      simp at hx
      rcases hx with rfl | rfl | rfl
      · rw [hS.mx.book.1] at hh; cases hh; simp
      · exact absurd rfl (map_cells hS.mx.book.2 hh)
      · exact absurd rfl (map_cells hS.mx.map hh)
    have sub : ∀ ts : List Nat, (∀ t ∈ ts, t ∈ [105, 166, 5, 93, 94, 97, 40]) → Av w [d.B, d.rb, d.r] ts := fun ts hts x hx cs t fr hh ht => avB x hx cs t fr hh (hts t ht)
    have hSto : Stk w1 lw { d with T := T, W := W, rw := rw, Q := Q, V := V } (begM s T) g :=
      ⟨k1.heap hS.store (avB.ne hS.store (by simp)), k1.heap hS.slot (avB.ne hS.slot (by simp)), hS.text.keep k1 (sub _ (by decide)), hS.dev.keep k1 (sub _ (by decide)), hx, hS.ap, hS.keys, hS.bnd, hS.bndZ, Nat.le_trans hS.slo k1.size, hS.dlo⟩
    refine ⟨T, W, rw, Q, V, k1, b1, hSto, hT, hb, (fun x hx => by cases hx), fun b _ _ => Or.inl ⟨rfl, rfl⟩, ⟨_, 0, [], hv, Nat.le_refl _, World.ownsRow_nil _ _ _ _⟩, ⟨_, [], hs, Nat.le_refl _, World.ownsRow_nil _ _ _ _⟩, b4, b5, b3⟩
  have HF := Lib.hid hF
  clear hF hx hT hb hv hs k1 b1 b2 b3 b4 b5 n1 n2 n3
  go_wp2_with fail
  go_ret2
  exact ⟨rfl, HF.out⟩
end Go.Proofs.YtkhionhicegfmaaGreat
namespace Go.Proofs.YtkhionhicegfmaaGreat
open Go.RowKit Go.Lib

/-- one transaction's part is put behind those of an own row, as a step of a region that draws. -/
theorem step_append_txn {ops : Array Oper} {o : Oper} {a : Act} {w : World} {K : Act → World → Prop} {Q : Exit → Act → World → Prop} {E : Prop} (hgd : o.guard = none) (s x : Operand)
    (ho : o.op = .call { callee := .builtin .append, args := #[s, x], argTypes := #[127, 127] }) (base : Nat) (v : Value) (n : Nat) (xs : List Value) (hs : a.eval s = v) (hown : w.ownsRow base 181 2 v n xs) (b c : Nat) (u0 u1 : Value)
    (hx : a.eval x = .slice (some ⟨b, 0, none⟩) 1 c) (c0 : w.cell? ⟨b, 0, none⟩ = some u0) (c1 : w.cell? ⟨b, 1, none⟩ = some u1) (h1 : u0.oneCell' = true ∧ u1.oneCell' = true) (hn : n ≤ 1000000) (hbase : base ≤ w.heap.size)
    (h : ∀ g cap w', w'.ownsRow base 181 2 (.slice (some ⟨g, 0, none⟩) (n + 1) cap) (n + 1) (xs ++ [u0, u1]) → Chg v.ownBlock.toList w w' → K (a.put o.dst (.slice (some ⟨g, 0, none⟩) (n + 1) cap)) w') :
    if Region.wanted o (yielded ops a.tmps) = true then Oper.wp Tryz.prog o a w K Q else E := by
  obtain ⟨i, hi0, hz, hz1, hz2⟩ := info_parts inf189
  refine step_append_lies w hgd s x 127 ho base 181 i _ 2 32 ty100 hi0 hz hz1 hz2 rfl (by decide) v n xs hs hown ⟨b, 0, none⟩ 1 c [u0, u1] hx rfl ?_ ?_ (by decide) (by unfold maxLen; omega) (by omega) hbase _ rfl ?_
  · intro j u hu
    rw [add_lit, Nat.zero_add]
    match j with
    | 0 => cases hu; exact c0
    | 1 => cases hu; exact c1
    | j + 2 => simp at hu
  · intro u hu
    simp at hu
    rcases hu with rfl | rfl
    · exact h1.1
    · exact h1.2
  · intro g cap w' h2 h3 _ _
    refine h g cap w' h2 ?_
    cases hv : v.ownBlock with
    | none => rw [hv] at h3; exact Chg.of_grown0 h3
    | some k => rw [hv] at h3; exact Chg.of_grown h3
/-- transactions' parts in an own row: the time and the puts of each. -/
def TxsAt (w : World) (lo : Nat) (v : Value) (l : List (Nat × List (Int × List UInt8))) : Prop :=
  ∃ xs, w.ownsRow lo 181 2 v l.length xs ∧ ∀ i (h : i < l.length), xs[i * 2]? = some (.int .i64 (l[i].1 : Nat)) ∧ ∃ pb cb, xs[i * 2 + 1]? = some (.slice pb l[i].2.length cb) ∧ PutsAt w lo (.slice pb l[i].2.length cb) l[i].2
theorem TxsAt.nil (w : World) (lo : Nat) : TxsAt w lo (.slice none 0 0) [] := ⟨[], World.ownsRow_nil _ _ _ _, fun i h => by simp at h⟩
theorem TxsAt.keep {w w' : World} {lo : Nat} {v : Value} {l : List (Nat × List (Int × List UInt8))} (h : TxsAt w lo v l) (hc : Chg [] w w') : TxsAt w' lo v l := by
  obtain ⟨xs, ho, hx⟩ := h
  refine ⟨xs, own_keep ho hc.below0, fun i hi => ?_⟩
  obtain ⟨h0, pb, cb, h1, h2⟩ := hx i hi
  exact ⟨h0, pb, cb, h1, h2.keep0 hc⟩
theorem TxsAt.push {w w' : World} {lo g cap : Nat} {v : Value} {l : List (Nat × List (Int × List UInt8))} {k : Nat} {pb : Option Addr} {cb : Nat} {p : List (Int × List UInt8)} {xs : List Value} (hx : ∀ i (h : i < l.length), xs[i * 2]? = some (.int .i64 (l[i].1 : Nat)) ∧ ∃ pb cb, xs[i * 2 + 1]? = some (.slice pb l[i].2.length cb) ∧ PutsAt w lo (.slice pb l[i].2.length cb) l[i].2)
    (hl : xs.length = l.length * 2) (hv : ∀ g, v.ownBlock = some g → ∃ cs, w.heap[g]? = some (.cells cs 181 (0, 0))) (ho : w'.ownsRow lo 181 2 (.slice (some ⟨g, 0, none⟩) (l.length + 1) cap) (l.length + 1) (xs ++ [.int .i64 k, .slice pb p.length cb])) (hc : Chg v.ownBlock.toList w w') (hp : PutsAt w lo (.slice pb p.length cb) p) : TxsAt w' lo (.slice (some ⟨g, 0, none⟩) (l.length + 1) cap) (l ++ [(k, p)]) := by
  have av : Av w v.ownBlock.toList [43, 5] := fun x hx cs t fr hh ht => by
    obtain ⟨cs2, h2⟩ := hv x (by simpa using hx)
    rw [h2] at hh
    cases hh
    simp at ht
  have keepP : ∀ {pv q}, PutsAt w lo pv q → PutsAt w' lo pv q := fun {pv q} h => h.keep hc (fun x hx cs t fr hh ht => av x hx cs t fr hh (by simp at ht; simp [ht])) (fun g' hg' hm => by
    obtain ⟨-, cs, h1⟩ := h.block g' hg'
    exact av g' hm cs _ _ h1 (by simp))
  refine ⟨_, by rw [List.length_append]; exact ho, fun i hi => ?_⟩
  by_cases h : i < l.length
  · obtain ⟨h0, pb', cb', h1, h2⟩ := hx i h
    rw [List.getElem_append_left h]
    exact ⟨by rw [List.getElem?_append_left (by omega)]; exact h0, pb', cb', by rw [List.getElem?_append_left (by omega)]; exact h1, keepP h2⟩
  · have hi2 : i = l.length := by simp at hi; omega
    subst hi2
    have e : (l ++ [(k, p)])[l.length]'(by simp) = (k, p) := by simp
    rw [e]
    exact ⟨by rw [← hl]; simp, pb, cb, by rw [← hl, List.getElem?_append_right (by omega)]; simp, keepP hp⟩
/-- a transaction that waits: its handle, its blocks, its times, its buffer. -/
structure Wt where
  h : Int
  T : Nat
  W : Nat
  rw : Nat
  Q : Nat
  k : Nat
  t : Int
  L : List (Int × Value)
  D : Int → List UInt8
/-- .. in memory. -/
structure WtOk (w : World) (Lr : List (Int × Value)) (x : Wt) : Prop where
  tab : getL Lr x.h = some (.pointer (some ⟨x.T, 0, none⟩))
  tx : TxW w x.T x.W x.Q x.k x.t
  buf : BufAt w x.W x.rw x.L
  bd : BufD w x.L x.D
  bk : ∀ p ∈ x.L, 0 ≤ p.1 ∧ p.1 < 258
  len : x.L.length ≤ 16
theorem WtOk.keep {w w' : World} {Lr : List (Int × Value)} {x : Wt} (h : WtOk w Lr x) (hc : Chg [] w w') : WtOk w' Lr x := ⟨h.tab, hc.heap h.tx (by simp), h.buf.keep hc (by simp) (by simp), h.bd.keep hc, h.bk, h.len⟩
/-- what waits, in plain words. -/
def wtL (xs : List Wt) : List (Nat × List (Int × List UInt8)) := xs.map fun x => (x.k, putsL x.L x.D)
theorem wtL_length (xs : List Wt) : (wtL xs).length = xs.length := by simp [wtL]
theorem wtL_take (xs : List Wt) (j : Nat) (h : j < xs.length) : wtL (xs.take (j + 1)) = wtL (xs.take j) ++ [((xs[j]).k, putsL (xs[j]).L (xs[j]).D)] := by
  rw [List.take_succ_eq_append_getElem h, wtL, List.map_append]
  rfl
set_option maxRecDepth 100000 in
set_option maxHeartbeats 8000000 in
theorem waiting_many (w : World) {M X B r cq n lq : Nat} {pq : Option Addr} {out num bas last given : Int} {rd : Bool} {Lr : List (Int × Value)} {xs : List Wt} (hM : MgrG w M X B r (.slice pq n cq) out num bas last given rd)
    (hq : w.ownsRow lq 3 1 (.slice pq n cq) n ((xs.map (fun x => x.h)).map encZ)) (hn : xs.length = n) (hn1 : n ≤ 1000) (hr : MapAt w r Lr) (hx : ∀ x ∈ xs, WtOk w Lr x) :
    Calls Tryz.prog 120 #[.pointer (some ⟨M, 0, none⟩)] w fun e w' => ∃ v, e = .returned v ∧ Chg [] w w' ∧ TxsAt w' w.heap.size v (wtL xs) := by
  have m3 : w.cell? ⟨M, 3, none⟩ = some (.slice pq n cq) := cell_is hM 3 rfl
  have m2 : w.cell? ⟨M, 2, none⟩ = some (.map (some r)) := cell_is hM 2 rfl
  obtain ⟨pa', cq', e', hcq⟩ := own_form hq
  cases e'
  have HQ := Lib.hid hq
  have HR := Lib.hid hr
  have HX := Lib.hid hx
  have hcqi : (n : Int) ≤ cq := by omega
  clear hM hr hx hq
  go_enter Tryz.func120, Tryz.ntmps120
  go_wp2_with fail
  go_loopw [2, 4, 5, 11] (fun v _ _ i wr => ∃ j : Nat, j ≤ n ∧ i = .int .i64 j ∧ Chg [] w wr ∧ TxsAt wr w.heap.size v (wtL (xs.take j))) (fun _ _ _ i _ => n - (intOf i).toNat)
  case atStart => exact ⟨0, by omega, rfl, Chg.refl _ _, TxsAt.nil _ _⟩
  case round =>
    obtain ⟨j, hj, rfl, kr, hv⟩ := hrel
    by_cases hlt : j < n
    · have hjx : j < xs.length := by omega
      have hW := (HX.out xs[j] (List.getElem_mem hjx)).keep kr
      have hqe : ∃ gq, pq = some ⟨gq, 0, none⟩ ∧ wr.cell? ⟨gq, j, none⟩ = some (.int .i64 (xs[j]).h) := by
        rcases HQ.out.2 with ⟨_, h0⟩ | ⟨gk, cap, cur, e, hA, hg, hc1, hc2, hc3, ht⟩
        · omega
        · injection e with e1
          refine ⟨gk, e1, kr.cell (cell_is hg j ?_) (by simp)⟩
          have h1 : ((xs.map (fun x => x.h)).map encZ)[j]? = some (.int .i64 (xs[j]).h) := by simp [hjx]
          rw [← ht, List.getElem?_take_of_lt (by omega), Array.getElem?_toList] at h1
          exact h1
      obtain ⟨gq, rfl, q0⟩ := hqe
      have htk := wtL_take xs j hjx
      have HTk := Lib.hid htk
      clear htk
      generalize xs[j] = x at *
      have hlook : (Instr.lookup 187 (.map (some r)) (.int .i64 x.h) false).run Tryz.prog wr = .ok (.pointer (some ⟨x.T, 0, none⟩)) wr := by
        have := lookup178 (HR.out.keep kr (by simp)) x.h false
        rw [hW.tab] at this
        exact this
      have m2r := kr.cell m2 (by simp)
      have t1 : wr.cell? ⟨x.T, 1, none⟩ = some (.int .i64 x.k) := cell_is hW.tx 1 rfl
      have t4 : wr.cell? ⟨x.T, 4, none⟩ = some (.pointer (some ⟨x.W, 0, none⟩)) := cell_is hW.tx 4 rfl
      have kd : Chg [] wr wr.drew := (Chg.refl [] wr).drew
      have hpl : (putsL x.L x.D).length ≤ 16 := by rw [putsL_length]; exact hW.len
      have HP := Lib.hid (bputs_any wr.drew (hW.buf.keep kd (by simp) (by simp)) (hW.bd.keep kd) hW.bk (by have := hW.len; omega))
      have t1d : wr.drew.cell? ⟨x.T, 1, none⟩ = some (.int .i64 x.k) := t1
      have t4d : wr.drew.cell? ⟨x.T, 4, none⟩ = some (.pointer (some ⟨x.W, 0, none⟩)) := t4
      obtain ⟨xv, ho, hxv⟩ := hv
      have hwl : (wtL (xs.take j)).length = j := by rw [wtL_length, List.length_take]; omega
      rw [hwl] at ho
      obtain ⟨pv, cv, rfl, -⟩ := own_form ho
      have HV := Lib.hid (And.intro ho (And.intro hxv kr))
      clear hW ho hxv kr
      go_wp2_with fail
      go_region_law
        (first
          | (go_simp; go_at_call 163; refine HP.out.mono ?_; rintro e w6 ⟨p6, rfl, k6, hp6⟩; obtain ⟨pb, cb, rfl, hcb⟩ := own_form hp6.choose_spec.1; have t16 := k6.cell t1d (by simp); have kA : Chg [] wr (w6.alloc (.cells #[.int .i64 x.k, (.slice pb (putsL x.L x.D).length cb)] 181)) := (kd.then k6).then_alloc _; have y0 := heap_new w6 (.cells #[.int .i64 x.k, (.slice pb (putsL x.L x.D).length cb)] 181); have hp7 := hp6.keep0 (Chg.alloc (S := []) w6 (.cells #[.int .i64 x.k, (.slice pb (putsL x.L x.D).length cb)] 181)); have oA := own_keep HV.out.1 kA.below0; have hbA : w.heap.size ≤ (w6.alloc (.cells #[.int .i64 x.k, (.slice pb (putsL x.L x.D).length cb)] 181)).heap.size := (HV.out.2.2.then kA).size)
          | (refine step_append_txn rfl (.tmp 21) (.tmp 32) rfl w.heap.size (.slice pv j cv) j xv rfl oA w6.heap.size 1 _ _ rfl (cell_is y0 0 rfl) (cell_is y0 1 rfl) ⟨rfl, rfl⟩ (by omega) hbA ?_; intro g5 cp5 w5 o5 k5))
      all_goals
        have HF := Lib.hid (show Chg [] w w5 ∧ TxsAt w5 w.heap.size (.slice (some ⟨g5, 0, none⟩) (j + 1) cp5) (wtL (xs.take (j + 1))) from by
          refine ⟨(HV.out.2.2.then kA).trans k5 (fun y hy hl => ?_), ?_⟩
          · obtain ⟨hge, -⟩ := own_elem oA (show (Value.slice pv j cv).ownBlock = some y by simpa using hy)
            omega
          · rw [HTk.out]
            have hp8 : PutsAt (w6.alloc (.cells #[.int .i64 x.k, (.slice pb (putsL x.L x.D).length cb)] 181)) w.heap.size (.slice pb (putsL x.L x.D).length cb) (putsL x.L x.D) := by
              obtain ⟨ys, ho8, hx8⟩ := hp7
              exact ⟨ys, own_base ho8 (Nat.le_trans HV.out.2.2.size kd.size), hx8⟩
            have hpush := TxsAt.push (w := w6.alloc (.cells #[.int .i64 x.k, (.slice pb (putsL x.L x.D).length cb)] 181)) (w' := w5) (lo := w.heap.size) (g := g5) (cap := cp5) (v := .slice pv j cv) (l := wtL (xs.take j)) (k := x.k) (pb := pb) (cb := cb) (p := putsL x.L x.D) (xs := xv)
              (fun i hi => by obtain ⟨h0, pb', cb', h1, h2⟩ := HV.out.2.1 i hi; exact ⟨h0, pb', cb', h1, h2.keep0 kA⟩) (by rw [hwl]; have := oA.1; omega) (fun g' hg' => (own_elem oA hg').2) (by rw [hwl]; exact o5) k5 hp8
            rw [hwl] at hpush
            exact hpush)
        clear kA y0 hp6 hp7 o5 k5 k6 oA hbA
        go_wp2_with fail
        go_roundw
        case rel => exact ⟨j + 1, hlt, by go_num, HF.out⟩
        case measure => simp [intOf]; omega
    · obtain rfl : n = j := by omega
      have hx2 : xs.take n = xs := List.take_of_length_le (by omega)
      rw [hx2] at hv
      go_wp2_with fail
      go_ret
      exact ⟨_, rfl, kr, hv⟩
end Go.Proofs.YtkhionhicegfmaaGreat
namespace Go.Proofs.YtkhionhicegfmaaGreat
open Go.Shelf Go.RowKit Go.Lib Go.Sort

/-- spans, sorted as the program sorts them. -/
def sortedOf (l : List (Int × Int)) : List (Int × Int) := (Sort.insertionSort (ltOf fun x y : Int × Int => Lib.compareInt x.1 y.1) l.toArray 0 l.length).toList
set_option maxRecDepth 100000 in
theorem sort_spx (w : World) {g n cap : Nat} {cur : Array Value} {l : List (Int × Int)} (hb : w.heap[g]? = some (.cells cur 285 (0, 0))) (hs : Sp w g 0 l) (hl : l.length = n) (hn : n ≤ 12) :
    Calls Tryz.prog 232 #[.slice (some ⟨g, 0, none⟩) n cap, .func (.func 233) #[] #[]] w fun e w' => e = .returned (.tuple #[]) ∧ Chg [g] w w' ∧ (sortedOf l).length = n ∧ Sp w' g 0 (sortedOf l) := by
  subst hl
  have hl : l.length = l.length := rfl
  have eg : ∀ args w, (callFunc 233 args).run Tryz.prog w = .ok (.enter 233 args) w := enters_of Tryz.func233 (by kernel_rfl) rfl
  have hH : HoldsK encSp 2 w g 0 l.toArray := by
    intro j hj
    rw [size_flatK] at hj
    rw [get_flatK encSp 2 l.toArray j hj]
    exact ⟨hs j _ (spCells_get l j (by simpa using hj)), unfrozen hb _⟩
  have hcon := AnyQ.slices_SortFunc_small Tryz.sortSp 2 isAgg117 sizeOf117 encSp (fun _ => rfl) (fun x v hv => by simp [encSp] at hv; rcases hv with rfl | rfl <;> rfl) (fun x y => Lib.compareInt x.1 y.1) 233 #[] g 0 cap l.toArray w eg (cmpLays247 g 0 l.toArray.size w) hH (heap_lt hb) (by simpa [hl] using hn) hlen2
  change Calls Tryz.prog 232 _ _ _ at hcon
  have hz : l.toArray.size = l.length := by simp
  rw [hz] at hcon
  refine hcon.mono ?_
  rintro e w' ⟨rfl, m, os, rfl⟩
  have hsz : (Sort.insertionSort (ltOf fun x y : Int × Int => Lib.compareInt x.1 y.1) l.toArray 0 l.length).size = l.toArray.size := size_insOuter _ _ _ l.length _ _ (by omega)
  have hH2 := holdsK_sortWorldK_c encSp 2 w g 0 l.toArray _ m os hH (heap_lt hb) hsz
  refine ⟨rfl, ?_, by unfold sortedOf; simpa using hsz, ?_⟩
  · exact ((chg_ahead w m).then (chg_mapBlock _ g _)).then (chg_grow _ os)
  · unfold sortedOf
    intro j u hu
    have hj : j < (Sort.insertionSort (ltOf fun x y : Int × Int => Lib.compareInt x.1 y.1) l.toArray 0 l.length).size * 2 := by
      rcases Nat.lt_or_ge j ((Sort.insertionSort (ltOf fun x y : Int × Int => Lib.compareInt x.1 y.1) l.toArray 0 l.length).size * 2) with h | h
      · exact h
      · rw [List.getElem?_eq_none (by rw [spCells_len]; simpa using h)] at hu; cases hu
    rw [spCells_get _ j (by simpa using hj)] at hu
    have h2 := (hH2 j (by rw [size_flatK]; exact hj)).1
    rw [get_flatK encSp 2 _ j hj] at h2
    rw [h2]
    simpa using hu
/-- one span more, behind joined ones. -/
def jstep (xs : List (Int × Int)) (e : Int × Int) : List (Int × Int) :=
  if h : 0 < xs.length then
    (if e.1 ≤ wrap64 ((xs[xs.length - 1]'(by omega)).1 + (xs[xs.length - 1]'(by omega)).2) then xs.set (xs.length - 1) ((xs[xs.length - 1]'(by omega)).1, max (xs[xs.length - 1]'(by omega)).2 (wrap64 (wrap64 (e.1 + e.2) - (xs[xs.length - 1]'(by omega)).1))) else xs ++ [e])
  else [e]
theorem jstep_join {xs : List (Int × Int)} {e : Int × Int} {k : Nat} {p q : Int} (hk : xs.length = k + 1) (hp : p = (xs[k]'(by omega)).1) (hq : q = (xs[k]'(by omega)).2) (h : e.1 ≤ wrap64 (p + q)) : jstep xs e = xs.set k (p, max q (wrap64 (wrap64 (e.1 + e.2) - p))) := by
  have e1 : xs.length - 1 = k := by omega
  unfold jstep
  rw [dif_pos (by omega)]
  simp only [e1, ← hp, ← hq]
  rw [if_pos h]
theorem jstep_push {xs : List (Int × Int)} {e : Int × Int} {k : Nat} {p q : Int} (hk : xs.length = k + 1) (hp : p = (xs[k]'(by omega)).1) (hq : q = (xs[k]'(by omega)).2) (h : ¬ e.1 ≤ wrap64 (p + q)) : jstep xs e = xs ++ [e] := by
  have e1 : xs.length - 1 = k := by omega
  unfold jstep
  rw [dif_pos (by omega)]
  simp only [e1, ← hp, ← hq]
  rw [if_neg h]
set_option maxRecDepth 100000 in
set_option maxHeartbeats 2000000 in
theorem joined_fold (w : World) {g0 o0 n cp : Nat} {l : List (Int × Int)} (hl : l.length = n) (h0 : 0 < n) (h1 : n ≤ 12) (hs : Sp w g0 o0 l) : Calls Tryz.prog 218 #[.slice (some ⟨g0, o0, none⟩) n cp] w fun e w' =>
    ∃ v l', e = .returned v ∧ Chg [] w w' ∧ l' = (sortedOf l).foldl jstep [] ∧ w'.ownsRow w.heap.size 285 2 v l'.length (spCells l') := by
  go_enter Tryz.func218, Tryz.ntmps218
  go_wp2_with fail
  go_step3
  go_wp2_with fail
  refine (clone_sp w hl h0 (by omega) hs).mono ?_
  rintro e w1 ⟨v, rfl, k1, o1⟩
  obtain ⟨g, cap, cur, rfl, hg0, hb1, hs1, hcap, -⟩ := own_sp o1 h0
  clear o1
  go_wp2_with fail
  refine (sort_spx w1 (cap := cap) hb1 hs1 hl h1).mono ?_
  rintro e w2 ⟨rfl, k2, hl2, hs2⟩
  generalize hL : sortedOf l = l2 at *
  have k3 : Chg [] w w2 := k1.trans k2 (fun x hx hlt => by simp at hx; omega)
  have hw := k3.size
  have HL2 := Lib.hid hl2
  clear hb1 hs1 hl hs k1 k2 hl2
  go_wp2_with fail
  go_step3
  go_wp2_with fail
  go_loopw [2, 12] (fun v i wr => ∃ iq k xs, i = .int .i64 ((iq : Nat) : Int) ∧ iq ≤ n ∧ k ≤ iq ∧ Chg [] w2 wr ∧ xs = (l2.take iq).foldl jstep [] ∧ ((v = .slice none 0 0 ∧ k = 0 ∧ xs = []) ∨ (0 < k ∧ wr.ownsRow w2.heap.size 285 2 v k (spCells xs)))) (fun _ i _ => n - (intOf i).toNat)
  case atStart => exact ⟨0, 0, [], rfl, Nat.zero_le _, Nat.le_refl _, Chg.refl _ _, rfl, Or.inl ⟨rfl, rfl, rfl⟩⟩
  case round =>
    obtain ⟨iq, k, xs, rfl, hi, hk, kr, hxs, hv⟩ := hrel
    rcases Nat.lt_or_ge iq n with hlt | hge
    · have hS := hs2.keep kr
      obtain ⟨c0, c1⟩ := sp_at hS iq (by have := HL2.out; omega)
      have hnx : (l2.take (iq + 1)).foldl jstep [] = jstep xs (l2[iq]'(by have := HL2.out; omega)) := by rw [← List.take_append_getElem (by have := HL2.out; omega), List.foldl_append, hxs]; rfl
      generalize hE : (l2[iq]'(by have := HL2.out; omega)) = E0 at *
      obtain ⟨a, b⟩ := E0
      have HN := Lib.hid hnx
      clear hnx
      simp only [Nat.zero_add] at c0 c1
      have hlt' : (iq : Int) < n := by omega
      rcases hv with ⟨rfl, rfl, hx0⟩ | ⟨hk0, ho⟩
      · subst hx0
        go_wp2_with fail
        have kz : Chg [] wr (wr.alloc (.cells #[.int .i64 a, .int .i64 b] 285)) := Chg.alloc wr _
        have z0 := heap_new wr (.cells #[.int .i64 a, .int .i64 b] 285)
        generalize hw5 : wr.alloc (.cells #[.int .i64 a, .int .i64 b] 285) = w5 at *
        generalize wr.heap.size = z at *
        have d0 : w5.cell? ⟨z, 0, none⟩ = some (.int .i64 a) := cell_is z0 0 rfl
        have d1 : w5.cell? ⟨z, 1, none⟩ = some (.int .i64 b) := cell_is z0 1 rfl
        go_quiet (fail)
        have kw : Chg [] w2 ((w5.drewN nq).alloc (.cells #[.int .i64 a, .int .i64 b] 285)) := ((kr.then kz).drewN nq).then_alloc _
        have hsz := kw.size
        have hnw := Lib.hid (sp_new (w5.drewN nq) a b)
        go_wp2_with (at_builtin; refine wpList_append_sp rfl (.tmp 58) (.tmp 60) rfl w2.heap.size _ 0 [] [(a, b)] rfl (World.ownsRow_nil _ _ _ _) (w5.drewN nq).heap.size 0 1 1 rfl rfl hnw.out (by omega) hsz ?_; intro v1 w6 h6)
        go_roundw
        case rel => exact ⟨iq + 1, 1, _, by go_num, hlt, by omega, Chg.of_below (kw.below0.trans h6.2.1), by rw [HN.out]; rfl, Or.inr ⟨by omega, h6.1⟩⟩
        case measure => simp [intOf]; omega
      · obtain ⟨hb, cap', cur', rfl, hhb, hhc, hhs, hcc, hxl⟩ := own_sp ho hk0
        obtain ⟨k', rfl⟩ : ∃ k', k = k' + 1 := ⟨k - 1, by omega⟩
        obtain ⟨p0, q0⟩ := sp_at hhs k' (by omega)
        simp only [Nat.zero_add] at p0 q0
        obtain ⟨p, hp⟩ : ∃ p, p = (xs[k']'(by omega)).1 := ⟨_, rfl⟩
        obtain ⟨q, hq⟩ : ∃ q, q = (xs[k']'(by omega)).2 := ⟨_, rfl⟩
        rw [← hp] at p0
        rw [← hq] at q0
        have HJ := Lib.hid (fun hle => jstep_join (e := (a, b)) hxl hp hq hle)
        have HP := Lib.hid (fun hle => jstep_push (e := (a, b)) hxl hp hq hle)
        have HQ := Lib.hid hp
        clear hp hq
        go_wp2_with fail
        have kz : Chg [] wr (wr.alloc (.cells #[.int .i64 a, .int .i64 b] 285)) := Chg.alloc wr _
        have z0 := heap_new wr (.cells #[.int .i64 a, .int .i64 b] 285)
        generalize hw5 : wr.alloc (.cells #[.int .i64 a, .int .i64 b] 285) = w5 at *
        generalize wr.heap.size = z at *
        have d0 : w5.cell? ⟨z, 0, none⟩ = some (.int .i64 a) := cell_is z0 0 rfl
        have d1 : w5.cell? ⟨z, 1, none⟩ = some (.int .i64 b) := cell_is z0 1 rfl
        have p1 := kz.cell p0 (by simp)
        have q1 := kz.cell q0 (by simp)
        go_quiet (fail)
        by_cases hle : a ≤ wrap64 (p + q)
        · go_wp2_with fail
          have p2 : (w5.drewN nq).cell? ⟨hb, k' * 2, none⟩ = some (.int .i64 p) := p1
          have q2 : (w5.drewN nq).cell? ⟨hb, k' * 2 + 1, none⟩ = some (.int .i64 q) := q1
          have f2 : (w5.drewN nq).frozen? ⟨hb, k' * 2 + 1, none⟩ = false := unfrozen (kz.heap hhc (by simp)) _
          have d2 : (w5.drewN nq).cell? ⟨z, 0, none⟩ = some (.int .i64 a) := d0
          have d3 : (w5.drewN nq).cell? ⟨z, 1, none⟩ = some (.int .i64 b) := d1
          have hkk : (k' : Int) < k' + 1 := by omega
          have k6 : Chg [] w2 (w5.drewN nq) := (kr.then kz).drewN nq
          have hd6 : (w5.drewN nq).drew.ownsRow w2.heap.size 285 2 (.slice (some ⟨hb, 0, none⟩) (k' + 1) cap') (k' + 1) (spCells xs) := ownsRow_chg ho ((kz.drewN nq).drew)
          clear d0 d1 p1 q1
          generalize w5.drewN nq = w6 at *
          go_still_tail 21, (by kernel_rfl)
          change wpList _ _ _ _ _ w6.drew
          have HS := Lib.hid (fun z => own_set hd6 k' (by omega) z)
          have k7 : Chg [] w2 w6.drew := k6.drew
          have q7 : w6.drew.cell? ⟨hb, k' * 2 + 1, none⟩ = some (.int .i64 q) := q2
          have f7 : w6.drew.frozen? ⟨hb, k' * 2 + 1, none⟩ = false := f2
          generalize w6.drew = w7 at *
          go_wp2_with fail
          go_roundw
          case rel => exact ⟨iq + 1, k' + 1, _, by go_num, hlt, by omega, k7.new_set hhb _ _, by rw [HN.out, HJ.out hle, ← HQ.out], Or.inr ⟨by omega, HS.out _⟩⟩
          case measure => simp [intOf]; omega
        · have kw : Chg [] w2 ((w5.drewN nq).alloc (.cells #[.int .i64 a, .int .i64 b] 285)) := ((kr.then kz).drewN nq).then_alloc _
          have ow : ((w5.drewN nq).alloc (.cells #[.int .i64 a, .int .i64 b] 285)).ownsRow w2.heap.size 285 2 (.slice (some ⟨hb, 0, none⟩) (k' + 1) cap') (k' + 1) (spCells xs) := ownsRow_chg ho ((kz.drewN nq).then_alloc _)
          have hsz := kw.size
          have hnw := Lib.hid (sp_new (w5.drewN nq) a b)
          go_wp2_with (at_builtin; refine wpList_append_sp rfl (.tmp 58) (.tmp 60) rfl w2.heap.size _ (k' + 1) xs [(a, b)] rfl ow (w5.drewN nq).heap.size 0 1 1 rfl rfl hnw.out (by omega) hsz ?_; intro v1 w6 h6)
          go_roundw
          case rel => exact ⟨iq + 1, k' + 2, _, by go_num, hlt, by omega, Chg.of_below (kw.below0.trans h6.2.1), by rw [HN.out, HP.out (by omega)], Or.inr ⟨by omega, h6.1⟩⟩
          case measure => simp [intOf]; omega
    · obtain rfl : iq = n := by omega
      have hnl : ¬ ((iq : Int) < iq) := by omega
      have hxs2 : xs = l2.foldl jstep [] := by rw [hxs, List.take_of_length_le (by have := HL2.out; omega)]
      rcases hv with ⟨rfl, rfl, hx0⟩ | ⟨hk0, ho⟩
      · go_wp2_with fail
        go_ret
        exact ⟨_, _, rfl, k3.then kr, rfl, by rw [hL, ← hxs2, hx0]; exact World.ownsRow_nil _ _ _ _⟩
      · go_wp2_with fail
        go_ret
        have hlx : xs.length = k := by have := ho.1; rw [spCells_len] at this; omega
        exact ⟨_, _, rfl, k3.then kr, rfl, by rw [hL, ← hxs2, hlx]; exact ownsRow_base ho hw⟩
end Go.Proofs.YtkhionhicegfmaaGreat
namespace Go.Proofs.YtkhionhicegfmaaGreat
open Go.RowKit Go.Lib

/-- a set of these spans, exactly. -/
def SpM (w : World) (base V most : Nat) (l : List (Int × Int)) : Prop := ∃ v, w.heap[V]? = some (.cells #[.int .i64 most, v] 296 (0, 0)) ∧ w.ownsRow base 285 2 v l.length (spCells l)
theorem SpM.keep0 {w w' : World} {base V most : Nat} {l : List (Int × Int)} (h : SpM w base V most l) (hc : Chg [] w w') : SpM w' base V most l := by
  obtain ⟨v, h1, h2⟩ := h
  exact ⟨v, hc.heap h1 (by simp), own_keep h2 hc.below0⟩
theorem SpM.weak {w : World} {base V most n : Nat} {l : List (Int × Int)} (h : SpM w base V most l) (hn : l.length ≤ n) : SpW w base V most n := by
  obtain ⟨v, h1, h2⟩ := h
  exact ⟨v, l, h1, hn, h2⟩
theorem SpW.zero {w : World} {base V most : Nat} (h : SpW w base V most 0) : SpM w base V most [] := by
  obtain ⟨v, l, h1, h2, h3⟩ := h
  have : l = [] := List.eq_nil_of_length_eq_zero (by omega)
  subst this
  exact ⟨v, h1, h3⟩
/-- no span, or one that a new one meets from within or at its end. -/
def Ext (l : List (Int × Int)) (b _n : Int) : Prop := l = [] ∨ ∃ a k, l = [(a, k)] ∧ 0 ≤ a ∧ a ≤ b ∧ b ≤ a + k ∧ a + k ≤ 258
def addSp (l : List (Int × Int)) (b n : Int) : List (Int × Int) :=
  match l with
  | [] => [(b, n)]
  | (a, k) :: _ => [(a, max k (b + n - a))]
theorem addSp_len (l : List (Int × Int)) (b n : Int) : (addSp l b n).length = 1 := by
  unfold addSp
  split <;> rfl
theorem Ext.len {l : List (Int × Int)} {b n : Int} (h : Ext l b n) : l.length ≤ 1 := by
  rcases h with rfl | ⟨a, k, rfl, _⟩ <;> simp
theorem sorted_one (p : Int × Int) : sortedOf [p] = [p] := by
  unfold sortedOf Sort.insertionSort
  rw [Sort.insOuter, if_neg (by simp)]
theorem sorted_two {p q : Int × Int} (h : p.1 ≤ q.1) : sortedOf [p, q] = [p, q] := by
  have hc : ltOf (fun x y : Int × Int => Lib.compareInt x.1 y.1) q p = false := by
    unfold ltOf Lib.compareInt
    simp only [decide_eq_false_iff_not]
    split
    · omega
    · split <;> omega
  unfold sortedOf Sort.insertionSort
  rw [Sort.insOuter, if_pos (by simp), Sort.insOuter, if_neg (by simp)]
  simp [Sort.insInner, hc]
theorem join_ext {l : List (Int × Int)} {b n : Int} (hx : Ext l b n) (h0 : 0 ≤ b) (hn : 1 ≤ n) (h1 : b + n ≤ 258) : (sortedOf (l ++ [(b, n)])).foldl jstep [] = addSp l b n := by
  rcases hx with rfl | ⟨a, k, rfl, ha, hab, hbk, hk⟩
  · rw [List.nil_append, sorted_one]; rfl
  · rw [List.singleton_append, sorted_two (by exact hab)]
    show jstep [(a, k)] (b, n) = _
    rw [jstep_join (k := 0) (p := a) (q := k) rfl rfl rfl (by unfold wrap64; omega)]
    have e1 : wrap64 (b + n) = b + n := by unfold wrap64; omega
    have e2 : wrap64 (b + n - a) = b + n - a := by unfold wrap64; omega
    simp only [e1, e2, addSp, List.set_cons_zero]
set_option maxRecDepth 100000 in
theorem imay_x (w : World) {b n : Int} (h0 : 0 ≤ b) (hn : 1 ≤ n) (h1 : b + n ≤ 258) : Calls Tryz.prog 231 #[.agg #[.int .i64 b, .int .i64 n]] w fun e w' => e = .returned (.bool true) ∧ Chg [] w w' := by
  have kc : Chg [] w (w.alloc (.cells #[.int .i64 b, .int .i64 n] 285)) := Chg.alloc w _
  have n0 : decide (0 ≤ b) = true := decide_eq_true h0
  have n1 : decide (b ≤ 1048576) = true := decide_eq_true (by omega)
  have n2 : decide (1 ≤ n) = true := decide_eq_true hn
  have n3 : decide (n ≤ 1048576) = true := decide_eq_true (by omega)
  have hw : IntKind.i64.wrap (b + n) = b + n := by rw [IntKind.wrap_i64]; omega
  have n4 : decide (b + n ≤ 1048577) = true := decide_eq_true (by omega)
  go_enter Tryz.func231, Tryz.ntmps231
  go_wp2_with fail
  go_ret
  exact ⟨by first | rfl | (simp; omega), kc⟩
set_option maxRecDepth 100000 in
theorem inot_x (w : World) {b n : Int} (h0 : 0 ≤ b) (hn : 1 ≤ n) (h1 : b + n ≤ 258) : Calls Tryz.prog 230 #[.agg #[.int .i64 b, .int .i64 n]] w fun e w' => e = .returned (.bool false) ∧ Chg [] w w' := by
  have kc : Chg [] w (w.alloc (.cells #[.int .i64 b, .int .i64 n] 285)) := Chg.alloc w _
  go_enter Tryz.func230, Tryz.ntmps230
  go_wp2_with fail
  refine (imay_x _ h0 hn h1).mono ?_
  rintro e w2 ⟨rfl, k2⟩
  go_wp2_with fail
  go_ret
  exact ⟨rfl, kc.then k2⟩
set_option maxRecDepth 100000 in
theorem iall_x (w : World) {E eo cp : Nat} {b n : Int} (h0 : 0 ≤ b) (hn : 1 ≤ n) (h1 : b + n ≤ 258) (e0 : w.cell? ⟨E, eo, none⟩ = some (.int .i64 b)) (e1 : w.cell? ⟨E, eo + 1, none⟩ = some (.int .i64 n)) : Calls Tryz.prog 217 #[.slice (some ⟨E, eo, none⟩) 1 cp] w fun e w' => e = .returned (.bool true) ∧ Chg [] w w' := by
  go_enter Tryz.func217, Tryz.ntmps217
  go_wp2_with fail
  refine (contspan_one w e0 e1 (inot_x w h0 hn h1)).mono ?_
  rintro e w2 ⟨rfl, k2⟩
  go_wp2_with fail
  go_ret
  exact ⟨rfl, k2⟩
set_option maxRecDepth 100000 in
set_option maxHeartbeats 2000000 in
theorem iadd_extm (w : World) {base V E cp most : Nat} {b n : Int} {l : List (Int × Int)} (h : SpM w base V most l) (hmost : 1 ≤ most) (hx : Ext l b n) (hbase : base ≤ w.heap.size) (h0 : 0 ≤ b) (hn : 1 ≤ n) (h1 : b + n ≤ 258) (e0 : w.cell? ⟨E, 0, none⟩ = some (.int .i64 b)) (e1 : w.cell? ⟨E, 1, none⟩ = some (.int .i64 n)) :
    Calls Tryz.prog 190 #[.pointer (some ⟨V, 0, none⟩), .slice (some ⟨E, 0, none⟩) 1 cp] w fun e w' => e = .returned (.int .i64 0) ∧ Chg [V] w w' ∧ SpM w' base V most (addSp l b n) := by
  have hmi : (1 : Int) ≤ most := by omega
  have HJ := Lib.hid (join_ext hx h0 hn h1)
  have hl := hx.len
  obtain ⟨v, hV, ho⟩ := h
  obtain ⟨pa, c, rfl, hq⟩ := own_spq ho
  have hE : SpQ w (some ⟨E, 0, none⟩) [(b, n)] := Or.inr ⟨E, 0, rfl, fun j u hu => by
    rw [Nat.zero_add]
    match j with
    | 0 => cases hu; exact e0
    | 1 => cases hu; exact e1
    | j + 2 => simp [spCells] at hu⟩
  have v1 : w.cell? ⟨V, 1, none⟩ = some (.slice pa l.length c) := cell_is hV 1 rfl
  go_enter Tryz.func190, Tryz.ntmps190
  go_wp2_with fail
  refine (iall_x w (cp := cp) h0 hn h1 e0 e1).mono ?_
  rintro e w1 ⟨rfl, k1⟩
  have v2 := k1.cell v1 (by simp)
  have hq2 := hq.keep k1
  have hE2 := hE.keep k1
  have hV2 := k1.heap hV (by simp)
  have ho2 := ownsRow_chg ho k1
  clear e0 e1 v1 hV hq hE ho
  go_wp2_with fail
  have kx : Chg [] w1 (w1.alloc (.cells #[.slice pa l.length c, .slice (some ⟨E, 0, none⟩) 1 cp] 294)) := Chg.alloc _ _
  have x0 : (w1.alloc (.cells #[.slice pa l.length c, .slice (some ⟨E, 0, none⟩) 1 cp] 294)).cell? ⟨w1.heap.size, 0, none⟩ = some (.slice pa l.length c) := cell_is (heap_new w1 _) 0 rfl
  have x1 : (w1.alloc (.cells #[.slice pa l.length c, .slice (some ⟨E, 0, none⟩) 1 cp] 294)).cell? ⟨w1.heap.size, 1, none⟩ = some (.slice (some ⟨E, 0, none⟩) 1 cp) := cell_is (heap_new w1 _) 1 rfl
  refine (concat_two _ x0 x1 rfl rfl (by omega) (by omega) (by omega) (hq2.keep kx) (hE2.keep kx)).mono ?_
  rintro e w2 ⟨v', rfl, k2, o2⟩
  obtain ⟨g, cap, cur, rfl, hgb, hgc, hgs, _, hgl⟩ := own_sp o2 (by simp)
  have k3 := (k1.then kx).then k2
  go_wp2_with fail
  refine (joined_fold w2 hgl (by omega) (by omega) hgs).mono ?_
  rintro e w3 ⟨v3, l3, rfl, k4, hl3, o3⟩
  rw [HJ.out] at hl3
  rw [hl3, addSp_len] at o3
  clear hl3
  have k5 := k3.then k4
  have hV3 : w3.heap[V]? = some (.cells #[.int .i64 most, .slice pa l.length c] 296 (0, 0)) := ((kx.then k2).then k4).heap hV2 (by simp)
  have c0 : w3.cell? ⟨V, 0, none⟩ = some (.int .i64 most) := cell_is hV3 0 rfl
  have c1 : w3.cell? ⟨V, 1, none⟩ = some (.slice pa l.length c) := cell_is hV3 1 rfl
  have f1 := unfrozen hV3 1
  obtain ⟨pq, cq, hv3, hcq⟩ := own_form o3
  subst hv3
  have hsz := k3.size
  have HF := Lib.hid (show SpM (w3.setCell ⟨V, 1, none⟩ (.slice pq 1 cq)) base V most (addSp l b n) from by
    refine ⟨_, heap_set hV3 1 _ rfl, ?_⟩
    have kk := Chg.set w3 V 1 (.slice pq 1 cq)
    refine ownsRow_base (base := w2.heap.size) ?_ (by omega)
    rw [addSp_len]
    refine ownsRow_chg o3 kk ?_
    intro x hx
    have := heap_lt hV2
    have := (kx.then k2).size
    simp at hx
    omega)
  clear k3 k4 o3 hV3 hV2 x0 x1 hgs hgc o2 hq2 hE2
  go_wp2_with fail
  go_ret
  exact ⟨rfl, (k5.mono (T := [V]) (fun x hx _ => by cases hx)).then (Chg.set w3 V 1 _), HF.out⟩
set_option maxRecDepth 100000 in
set_option maxHeartbeats 2000000 in
theorem bset_one (w : World) {W rw : Nat} {b : Int} {v : Value} {D : Int → List UInt8} (h : BufAt w W rw [(b, v)]) (hD : BufD w [(b, v)] D) (hb0 : 0 ≤ b) (hb1 : b < 258) : Calls Tryz.prog 167 #[.pointer (some ⟨W, 0, none⟩)] w fun e w' =>
    ∃ U lo, e = .returned (.pointer (some ⟨U, 0, none⟩)) ∧ Chg [] w w' ∧ SpM w' lo U 1 [(b, 1)] ∧ w.heap.size ≤ U := by
  have HP := Lib.hid (bputs_any w h hD (fun x hx => by rw [List.mem_singleton] at hx; rw [hx]; exact ⟨hb0, hb1⟩) (by simp))
  rw [putsL_one] at HP
  clear h hD
  go_enter Tryz.func167, Tryz.ntmps167
  go_wp2_with fail
  refine HP.out.mono ?_
  rintro e w1 ⟨v', rfl, k1, hp⟩
  obtain ⟨pa, c, rfl, hcap⟩ := own_form hp.choose_spec.1
  have HPt := Lib.hid hp
  clear hp
  go_wp2_with fail
  refine (inewm_any w1 1).mono ?_
  rintro e w2 ⟨U, rfl, k2, hU, lU⟩
  have HPt2 := Lib.hid (HPt.out.keep0 k2)
  have hU0 := hU.zero
  have HU := Lib.hid hU0
  have HKs := Lib.hid (And.intro k1 k2)
  clear hU hU0 k1 k2
  go_wp2_with fail
  go_loopw [6, 14] (fun _ i wr => (i = .int .i64 0 ∧ wr = w2) ∨ (i = .int .i64 1 ∧ Chg [U] w2 wr ∧ SpM wr w1.heap.size U 1 [(b, 1)])) (fun _ i _ => 1 - (intOf i).toNat)
  case atStart => exact Or.inl ⟨rfl, rfl⟩
  case round =>
    rcases hrel with ⟨rfl, rfl⟩ | ⟨rfl, kr, hs⟩
    · obtain ⟨g, cap, gd, cd, hv, hcc, d0, d1, -, -, -⟩ := HPt2.out.get 0 (by simp)
      have hpa : pa = some ⟨g, 0, none⟩ := by injection hv
      subst hpa
      have e0 : wr.cell? ⟨g, 0, none⟩ = some (.int .i64 b) := d0
      have e1 : wr.cell? ⟨g, 1, none⟩ = some (.slice (some ⟨gd, 0, none⟩) 40 cd) := d1
      have hcc1 : (1 : Int) ≤ c := by have : 1 ≤ c := hcap; omega
      clear hv hcc d0 d1 hcap
      go_wp2_with fail
      have kA : Chg [] wr ((wr.alloc (.cells #[.int .i64 b, .slice (some ⟨gd, 0, none⟩) 40 cd] 43)).alloc (.cells #[.int .i64 b, .int .i64 1] 285)) := chg_two wr _ _
      have hE := (two_new wr (.cells #[.int .i64 b, .slice (some ⟨gd, 0, none⟩) 40 cd] 43) (.cells #[.int .i64 b, .int .i64 1] 285)).2
      refine (iadd_extm _ (HU.out.keep0 kA) (by decide) (Or.inl rfl) (by have := kA.size; have := HKs.out.2.size; omega) hb0 (by decide) (by omega) (cell_is hE 0 rfl) (cell_is hE 1 rfl)).mono ?_
      rintro e w3 ⟨rfl, k3, hs3⟩
      have hs4 : SpM w3 w1.heap.size U 1 [(b, 1)] := by simpa [addSp] using hs3
      have HF := Lib.hid (And.intro ((kA.mono (T := [U]) (fun x hx _ => by cases hx)).then k3) hs4)
      clear hE kA e0 e1 k3 hs3 hs4
      go_wp2_with fail
      go_roundw
      case rel => exact Or.inr ⟨rfl, HF.out⟩
      case measure => decide
    · have HS := Lib.hid (And.intro kr hs)
      clear kr hs
      go_wp2_with fail
      go_ret
      exact ⟨U, _, rfl, (HKs.out.1.then HKs.out.2).trans HS.out.1 (fun x hx hlt => by rw [List.mem_singleton] at hx; have := HKs.out.1.size; omega), HS.out.2, by have := HKs.out.1.size; omega⟩
/-- spans of one block each, none of them c. -/
def NotIn (l : List (Int × Int)) (c : Int) : Prop := ∀ p ∈ l, p.2 = 1 ∧ 0 ≤ p.1 ∧ p.1 < 258 ∧ p.1 ≠ c
set_option maxRecDepth 100000 in
theorem meet_ne (w : World) {a c : Int} (h0 : 0 ≤ a) (h1 : a < 258) (h2 : 0 ≤ c) (h3 : c < 258) (hn : a ≠ c) : Calls Tryz.prog 240 #[.agg #[.int .i64 a, .int .i64 1], .agg #[.int .i64 c, .int .i64 1]] w fun e w' => e = .returned (.bool false) ∧ Chg [] w w' := by
  have y := two_new w (.cells #[.int .i64 a, .int .i64 1] 285) (.cells #[.int .i64 c, .int .i64 1] 285)
  have hc := chg_two w (.cells #[.int .i64 a, .int .i64 1] 285) (.cells #[.int .i64 c, .int .i64 1] 285)
  have a0 := cell_is y.1 0 rfl
  have a1 := cell_is y.1 1 rfl
  have c0 := cell_is y.2 0 rfl
  have c1 := cell_is y.2 1 rfl
  clear y
  by_cases h4 : a < c + 1
  · have d1 : decide (a < c + 1) = true := decide_eq_true h4
    have d2 : decide (c < a + 1) = false := decide_eq_false (by omega)
    go_enter Tryz.func240, Tryz.ntmps240
    go_wp2_with fail
    go_ret
    exact ⟨by first | rfl | simp, hc⟩
  · have d1 : decide (a < c + 1) = false := decide_eq_false h4
    go_enter Tryz.func240, Tryz.ntmps240
    go_wp2_with fail
    go_ret
    exact ⟨by first | rfl | simp, hc⟩
set_option maxRecDepth 100000 in
theorem meets1_ne (w : World) {z : Nat} {a c : Int} (hz : w.heap[z]? = some (.cells #[.int .i64 c, .int .i64 1] 285 (0, 0))) (h0 : 0 ≤ a) (h1 : a < 258) (h2 : 0 ≤ c) (h3 : c < 258) (hn : a ≠ c) : Calls Tryz.prog 239 #[.agg #[.int .i64 a, .int .i64 1], .pointer (some ⟨z, 0, none⟩)] w fun e w' => e = .returned (.bool false) ∧ Chg [] w w' := by
  have kA : Chg [] w (w.alloc (.cells #[.int .i64 a, .int .i64 1] 285)) := Chg.alloc w _
  have y := heap_new w (.cells #[.int .i64 a, .int .i64 1] 285)
  have a0 := cell_is y 0 rfl
  have a1 := cell_is y 1 rfl
  have hz2 := kA.heap hz (by simp)
  have c0 := cell_is hz2 0 rfl
  have c1 := cell_is hz2 1 rfl
  have HM := Lib.hid (meet_ne (w.alloc (.cells #[.int .i64 a, .int .i64 1] 285)) h0 h1 h2 h3 hn)
  clear y hz hz2
  go_enter Tryz.func239, Tryz.ntmps239
  go_wp2_with fail
  refine HM.out.mono ?_
  rintro e w1 ⟨rfl, k1⟩
  have HK := Lib.hid (kA.then k1)
  clear k1 kA
  go_wp2_with fail
  go_ret
  exact ⟨rfl, HK.out⟩
set_option maxRecDepth 100000 in
set_option maxHeartbeats 2000000 in
theorem idx_spans (w : World) {z m cp : Nat} {pa : Option Addr} {c : Int} {l : List (Int × Int)} (hz : w.heap[z]? = some (.cells #[.int .i64 c, .int .i64 1] 285 (0, 0))) (hs : SpQ w pa l) (hl : l.length = m) (hm : m ≤ 1000) (hmc : m ≤ cp) (h2 : 0 ≤ c) (h3 : c < 258) (hn : NotIn l c) :
    Calls Tryz.prog 241 #[.slice pa m cp, .func (.func 239) #[] #[.pointer (some ⟨z, 0, none⟩)]] w fun e w' => e = .returned (.int .i64 (-1)) ∧ Chg [] w w' := by
  have HS := Lib.hid hs
  have HZ := Lib.hid hz
  have HN := Lib.hid hn
  clear hs hz hn
  go_enter Tryz.func241, Tryz.ntmps241
  go_wp2_with fail
  go_loopw [8] (fun i wr => ∃ j : Nat, j ≤ m ∧ i = .int .i64 j ∧ Chg [] w wr) (fun i _ => m - (intOf i).toNat)
  case atStart => exact ⟨0, by omega, rfl, Chg.refl _ _⟩
  case round =>
    obtain ⟨j, hj, rfl, kr⟩ := hrel
    by_cases hlt : j < m
    · have hjl : j < l.length := by omega
      obtain ⟨b, o, hpa, d0, d1⟩ := (HS.out.keep kr).get j hjl
      subst hpa
      obtain ⟨n1, n2, n3, n4⟩ := HN.out _ (List.getElem_mem hjl)
      rw [n1] at d1
      have HC := Lib.hid (meets1_ne wr (kr.heap HZ.out (by simp)) n2 n3 h2 h3 n4)
      have HK := Lib.hid kr
      have hji : (j : Int) < m := by omega
      have hmi : (m : Int) ≤ cp := by omega
      clear n1 n2 n3 n4 kr
      generalize (l[j]).1 = x at *
      go_wp2_with fail
      refine HC.out.mono ?_
      rintro e w2 ⟨rfl, k2⟩
      have HK2 := Lib.hid (HK.out.then k2)
      clear k2
      go_wp2_with fail
      go_roundw
      case rel => exact ⟨j + 1, by omega, by go_num, HK2.out⟩
      case measure => simp [intOf]; omega
    · obtain rfl : j = m := by omega
      go_wp2_with fail
      go_ret
      exact ⟨rfl, kr⟩
set_option maxRecDepth 100000 in
set_option maxHeartbeats 2000000 in
theorem has_not (w : World) {base U most : Nat} {c : Int} {l : List (Int × Int)} (h : SpM w base U most l) (hl : l.length ≤ 1000) (h2 : 0 ≤ c) (h3 : c < 258) (hn : NotIn l c) : Calls Tryz.prog 216 #[.pointer (some ⟨U, 0, none⟩), .int .i64 c] w fun e w' => e = .returned (.bool false) ∧ Chg [] w w' := by
  have HM : Hid (Calls Tryz.prog 228 #[.pointer (some ⟨U, 0, none⟩), .agg #[.int .i64 c, .int .i64 1]] w fun e w' => e = .returned (.bool false) ∧ Chg [] w w') := Lib.hid (by
    obtain ⟨v, hV, ho⟩ := h
    obtain ⟨pa, cp, rfl, hq⟩ := own_spq ho
    obtain ⟨_, _, e', hcp⟩ := own_form ho
    cases e'
    have kA : Chg [] w (w.alloc (.cells #[.int .i64 c, .int .i64 1] 285)) := Chg.alloc w _
    have y := heap_new w (.cells #[.int .i64 c, .int .i64 1] 285)
    have c0 := cell_is y 0 rfl
    have c1 := cell_is y 1 rfl
    have HMy := Lib.hid (imay_x (w.alloc (.cells #[.int .i64 c, .int .i64 1] 285)) h2 (show (1 : Int) ≤ 1 by decide) (show c + 1 ≤ 258 by omega))
    have u1 : (w.alloc (.cells #[.int .i64 c, .int .i64 1] 285)).cell? ⟨U, 1, none⟩ = some (.slice pa l.length cp) := kA.cell (cell_is hV 1 rfl) (by simp)
    have HQ := Lib.hid (hq.keep kA)
    have HY := Lib.hid y
    have HKA := Lib.hid kA
    clear hV ho hq kA y
    go_enter Tryz.func228, Tryz.ntmps228
    go_wp2_with fail
    generalize w.alloc (.cells #[.int .i64 c, .int .i64 1] 285) = w1 at *
    generalize w.heap.size = z at *
    refine HMy.out.mono ?_
    rintro e w2 ⟨rfl, k2⟩
    have u2 := k2.cell u1 (by simp)
    have HIx := Lib.hid (idx_spans w2 (k2.heap HY.out (by simp)) (HQ.out.keep k2) rfl hl hcp h2 h3 hn)
    have HK2 := Lib.hid (HKA.out.then k2)
    have HCt : Hid (Calls Tryz.prog 229 #[.slice pa l.length cp, .func (.func 239) #[] #[.pointer (some ⟨z, 0, none⟩)]] w2 fun e w' => e = .returned (.bool false) ∧ Chg [] w2 w') := Lib.hid (by
      clear k2 u2 u1 c0 c1 HY
      go_enter Tryz.func229, Tryz.ntmps229
      go_wp2_with fail
      refine HIx.out.mono ?_
      rintro e w3 ⟨rfl, k3⟩
      have HK3 := Lib.hid k3
      clear k3
      go_wp2_with fail
      go_ret
      exact ⟨rfl, HK3.out⟩)
    clear k2 u1 c0 c1
    go_wp2_with fail
    refine HCt.out.mono ?_
    rintro e w3 ⟨rfl, k3⟩
    have HK3 := Lib.hid (HK2.out.then k3)
    clear k3
    go_wp2_with fail
    go_ret
    exact ⟨rfl, HK3.out⟩)
  clear h
  go_enter Tryz.func216, Tryz.ntmps216
  go_wp2_with fail
  refine HM.out.mono ?_
  rintro e w1 ⟨rfl, k1⟩
  have HK := Lib.hid k1
  clear k1
  go_wp2_with fail
  go_ret
  exact ⟨rfl, HK.out⟩
end Go.Proofs.YtkhionhicegfmaaGreat
