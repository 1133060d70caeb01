/- Lemmas and walks: A store's transaction that reads, the spans told exactly. Printed by mkNa.py. Walks: the numbers of a cell's block. Walks: a cell is got, set, added to. Walks: cells are got and set in an open transaction, whatever was committed before. Cells, the spans told exactly. Printed by mkNa.py. Walks: the reference's manager is made. Walks: the reference's manager begins a transaction. Walks: the reference's Begin; a world of law 26 begins. Walks: a cell is added to, cells are moved. Walks: a world of law 26 is made and begins. Walks: fresh, Round, Class of law 26. Walks: awake of law 26. Plain: doubles as whole numbers of least units. No program in this text. Plain: doubles as whole numbers of least units: reading, order, whole numbers. No program in this text. -/
import Ieee.Arith
import Derived.Test.YtfodeeejolkkfaaGreatJa
import Derived.Test.YtfodeeejolkkfaaGreatJd
import Derived.Test.YtfodeeejolkkfaaGreatJe
namespace Go.Proofs.YtfodeeejolkkfaaGreat
open Go.RowKit Go.Lib

variable {base : Nat} {d : Ids} {p : Par} {F : World → Prop}
/-- a store with an open transaction: n reads at most, these spans. -/
structure Sv (w : World) (base : Nat) (d : Ids) (p : Par) (F : World → Prop) (q : Int → List UInt8) (L : List (Int × Value)) (n : Nat) (sl : List (Int × Int)) : Prop where
  env : F w
  tx : TxT w d.T d.W d.Q p.t
  buf : BufAt w d.W d.rw L
  keys : ∀ x ∈ L, 0 ≤ x.1 ∧ x.1 < 258
  blk : ∀ b, 0 ≤ b → b < 258 → BlkT w L (p.vs b) p.t b (q b)
  vw : VwX w base d.Q d.X d.W d.V p.t n
  sp : SpX w base d.V sl
  high : base ≤ d.Q ∧ base ≤ d.V ∧ base ≤ d.rw
theorem Sv.su {w : World} {q : Int → List UInt8} {L : List (Int × Value)} {m n : Nat} {sl : List (Int × Int)} (h : Sv w base d p F q L m sl) (hm : m ≤ 90000) (hn : sl.length ≤ n) : Su w base d p F q L n := by
  obtain ⟨v, h1, h2⟩ := h.sp
  exact ⟨h.env, h.tx, h.buf, h.keys, h.blk, h.vw.vwt hm, ⟨v, sl, h1, hn, h2⟩, h.high⟩
theorem Sv.keep {w w' : World} {q : Int → List UInt8} {L : List (Int × Value)} {n : Nat} {sl : List (Int × Int)} (hf : Fr base d p F) (h : Sv w base d p F q L n sl) (hc : Chg [] w w') : Sv w' base d p F q L n sl :=
  ⟨hf.keep w w' (Ow.of_chg hc) h.env, hc.heap h.tx (by simp), h.buf.keep hc (by simp) (by simp), h.keys, fun b hb hb' => (h.blk b hb hb').keep hc, h.vw.keep hc (Av.nil _ _), h.sp.keep0 hc, h.high⟩
set_option maxRecDepth 100000 in
set_option maxHeartbeats 2000000 in
theorem tread_x (w : World) {q : Int → List UInt8} {L : List (Int × Value)} {n : Nat} {sl : List (Int × Int)} {b : Int} (hf : Fr base d p F) (h : Sv w base d p F q L n sl) (hn : sl.length ≤ 11) (hN : n ≤ 90000) (h0 : 0 ≤ b) (h1 : b < 258) :
    Calls Tryz.prog 125 #[.pointer (some ⟨d.M, 0, none⟩), .int .i64 p.h, .agg #[.int .i64 b, .int .i64 1]] w fun e w' =>
    ∃ g c', e = .returned (.tuple #[.slice (some ⟨g, 0, none⟩) 40 c', .int .i64 0]) ∧ 40 ≤ c' ∧ Ow base w w' ∧ Sv w' base d p F q L (n + 1) (joinS sl b 1) ∧ w.heap.size ≤ g ∧ Bs w' (some ⟨g, 0, none⟩) (q b) := by
  have k0 : Chg [] w (w.alloc (.cells #[.int .i64 b, .int .i64 1] 117)) := Chg.alloc w _
  have K0 := heap_new w (.cells #[.int .i64 b, .int .i64 1] 117)
  have h2 := h.keep hf k0
  have HO := Lib.hid (topen_gen _ (hf.need _ h2.env) h2.tx)
  clear h
  go_enter Tryz.func125, Tryz.ntmps125
  go_wp2_with fail
  generalize w.alloc (.cells #[.int .i64 b, .int .i64 1] 117) = w1 at *
  generalize hK : w.heap.size = K at *
  refine HO.out.mono ?_
  rintro e w2 ⟨rfl, rfl⟩
  have t5 : w1.cell? ⟨d.T, 5, none⟩ = some (.pointer (some ⟨d.Q, 0, none⟩)) := cell_is h2.tx 5 rfl
  have a0 : w1.cell? ⟨K, 0, none⟩ = some (.int .i64 b) := cell_is K0 0 rfl
  have a1 : w1.cell? ⟨K, 1, none⟩ = some (.int .i64 1) := cell_is K0 1 rfl
  go_wp2_with fail
  have hbuf := h2.buf
  have hq := h2.blk
  have h3 := h2.keep hf (Chg.refl [] w1).drew
  go_region_held3 (fun wx => wx.cell? ⟨d.T, 5, none⟩ = some (.pointer (some ⟨d.Q, 0, none⟩)) ∧ wx.cell? ⟨K, 0, none⟩ = some (.int .i64 b) ∧ wx.cell? ⟨K, 1, none⟩ = some (.int .i64 1))
    (first | (exact ⟨t5, a0, a1⟩) | (exact ⟨cell_is t6 5 rfl, cell_is K6 0 rfl, cell_is K6 1 rfl⟩))
    (first | (go_at_call 175; refine (xread_one w1.drew (hf.need _ h3.env).ver (hbuf.keep (Chg.refl [] w1).drew (by simp) (by simp)) (hq b h0 h1) h3.vw h3.sp hn (by omega) ⟨h3.high.1, h3.high.2.1⟩ h0 h1).mono ?_; rintro e w6 ⟨g, c', T, rfl, hc', k6, hT, hg, hB6, hV6, hS6⟩; have t6 := k6.heap h3.tx (hT.cells h3.tx (by simp)); have K6 := k6.heap K0 (hT.cells K0 (by simp))))
  have hlow : ∀ x ∈ T, base ≤ x := fun x hx => (hT x hx).1
  have how0 : Ow base w1.drew w6 := ow_rt k6 hT
  have hfin : Sv w6 base d p F q L (n + 1) (joinS sl b 1) := ⟨hf.keep _ _ how0 h3.env, t6, (hbuf.keep (Chg.refl [] w1).drew (by simp) (by simp)).keep k6 (hT.cells hbuf.1 (by simp)) (hT.map hbuf.2), h2.keys, fun x hx hx' => ((hq x hx hx').keep (Chg.refl [] w1).drew).keepT k6 hT, hV6, hS6, h3.high⟩
  have how : Ow base w w6 := (Ow.of_chg (base := base) k0.drew).trans how0
  have hsz : w.heap.size ≤ g := by have := k0.size; have h9 : w1.drew.heap.size = w1.heap.size := rfl; omega
  clear hq hbuf h2 h3 hV6 hS6 k6 hT t6 K6 how0
  go_wp2_with fail
  go_ret2
  exact ⟨g, c', rfl, hc', how, hfin, hsz, hB6⟩
set_option maxRecDepth 100000 in
set_option maxHeartbeats 2000000 in
theorem sread_x (w : World) {q : Int → List UInt8} {L : List (Int × Value)} {n : Nat} {sl : List (Int × Int)} {b : Int} (hf : Fr base d p F) (h : Sv w base d p F q L n sl) (hn : sl.length ≤ 11) (hN : n ≤ 90000) (h0 : 0 ≤ b) (h1 : b < 258) :
    Calls Tryz.prog 66 #[.pointer (some ⟨d.P, 0, none⟩), .int .i64 p.h, .agg #[.int .i64 b, .int .i64 1]] w fun e w' =>
    ∃ g c', e = .returned (.tuple #[.slice (some ⟨g, 0, none⟩) 40 c', .int .i64 0]) ∧ 40 ≤ c' ∧ Ow base w w' ∧ Sv w' base d p F q L (n + 1) (joinS sl b 1) ∧ w.heap.size ≤ g ∧ Bs w' (some ⟨g, 0, none⟩) (q b) := by
  have k0 : Chg [] w (w.alloc (.cells #[.int .i64 b, .int .i64 1] 117)) := Chg.alloc w _
  have K0 := heap_new w (.cells #[.int .i64 b, .int .i64 1] 117)
  have h2 := h.keep hf k0
  have HO := Lib.hid (dead_gen _ (hf.need _ h2.env))
  clear h
  go_enter Tryz.func66, Tryz.ntmps66
  go_wp2_with fail
  generalize w.alloc (.cells #[.int .i64 b, .int .i64 1] 117) = w1 at *
  generalize hK : w.heap.size = K at *
  refine HO.out.mono ?_
  rintro e w2 ⟨rfl, rfl⟩
  have t5 : w1.cell? ⟨d.P, 5, none⟩ = some (.pointer (some ⟨d.M, 0, none⟩)) := (hf.need _ h2.env).p5
  have a0 : w1.cell? ⟨K, 0, none⟩ = some (.int .i64 b) := cell_is K0 0 rfl
  have a1 : w1.cell? ⟨K, 1, none⟩ = some (.int .i64 1) := cell_is K0 1 rfl
  go_wp2_with fail
  have h3 := h2.keep hf (Chg.refl [] w1).drew
  go_region_held3 (fun wx => wx.cell? ⟨d.P, 5, none⟩ = some (.pointer (some ⟨d.M, 0, none⟩)) ∧ wx.cell? ⟨K, 0, none⟩ = some (.int .i64 b) ∧ wx.cell? ⟨K, 1, none⟩ = some (.int .i64 1))
    (first | (exact ⟨t5, a0, a1⟩) | (exact ⟨t6, cell_is K6 0 rfl, cell_is K6 1 rfl⟩))
    (first | (go_at_call 125; refine (tread_x w1.drew hf h3 hn hN h0 h1).mono ?_; rintro e w6 ⟨g, c', rfl, hc', k6, h6, hg, hB6⟩; have t6 := (hf.need _ h6.env).p5; have K6 := k6.heap K0 (by simp)))
  have hsz : w.heap.size ≤ g := by have := k0.size; have h9 : w1.drew.heap.size = w1.heap.size := rfl; omega
  have how := (Ow.of_chg (base := base) k0.drew).trans k6
  clear h2 h3 t6 K6 k6
  go_wp2_with fail
  go_ret2
  exact ⟨g, c', rfl, hc', how, h6, hsz, hB6⟩
set_option maxRecDepth 100000 in
set_option maxHeartbeats 2000000 in
theorem swrite_x (w : World) {q : Int → List UInt8} {L : List (Int × Value)} {n E eo cp D o c : Nat} {sl : List (Int × Int)} {b : Int} {l : List UInt8} (hf : Fr base d p F) (h : Sv w base d p F q L n sl) (hN : n ≤ 90000)
    (e0 : w.cell? ⟨E, eo, none⟩ = some (.int .i64 b)) (e1 : w.cell? ⟨E, eo + 1, none⟩ = some (.slice (some ⟨D, o, none⟩) 40 c)) (hb : Bs w (some ⟨D, o, none⟩) l) (hl : l.length = 40) (h0 : 0 ≤ b) (h1 : b < 258) (hroom : L.length ≤ 15) :
    Calls Tryz.prog 48 #[.pointer (some ⟨d.P, 0, none⟩), .int .i64 p.h, .slice (some ⟨E, eo, none⟩) 1 cp] w fun e w' =>
    ∃ v, e = .returned (.int .i64 0) ∧ Ow base w w' ∧ Sv w' base d p F (putQ q b l) (putL L b v) n sl := by
  have c5 := (hf.need _ h.env).p5
  have HO := Lib.hid (dead_gen w (hf.need _ h.env))
  have HW := Lib.hid (twrite_gen w (cp := cp) hf (h.su (n := sl.length) hN (Nat.le_refl _)) e0 e1 hb hl h0 h1 hroom)
  have HS := Lib.hid h
  have HF := Lib.hid hf
  clear h e0 e1 hb hf
  go_enter Tryz.func48, Tryz.ntmps48
  go_wp2_with fail
  refine HO.out.mono ?_
  rintro e w1 ⟨rfl, rfl⟩
  go_wp2_with fail
  refine HW.out.mono ?_
  rintro e w1 ⟨g, c', rfl, kc, hbf, hbs, hbt⟩
  go_wp2_with fail
  go_ret
  have h := HS.out
  have hr : ∀ {x : Nat} {cs : Array Value} {t : TypeId}, w.heap[x]? = some (.cells cs t (0, 0)) → x ∉ [d.rw] := fun hx => by simpa using (map_cells h.buf.2 hx).symm
  have how : Ow base w w1 := by
    refine ⟨[d.rw], kc, fun x hx => ?_⟩
    rw [List.mem_singleton] at hx
    subst hx
    exact ⟨h.high.2.2, fun cs t fr hh => absurd rfl (map_cells h.buf.2 hh)⟩
  refine ⟨_, rfl, how, HF.out.keep _ _ how h.env, kc.heap h.tx (hr h.tx), hbf, putL_keys (P := fun x => 0 ≤ x ∧ x < 258) h.keys ⟨h0, h1⟩, fun x hx hx' => ?_, h.vw.keep kc (av_map h.buf.2 _), h.sp.keep kc (av_map h.buf.2 _), h.high⟩
  unfold putQ
  by_cases hxb : x = b
  · rw [if_pos hxb]
    exact Or.inr ⟨g, c', by rw [getL_put, if_pos hxb], hbs, hl, hbt⟩
  · rw [if_neg hxb]
    rcases h.blk x hx hx' with ⟨hg, hz⟩ | ⟨g2, c2, hg, hb2, hl2, cs, ht2⟩
    · exact Or.inl ⟨by rw [getL_put, if_neg hxb]; exact hg, hz⟩
    · exact Or.inr ⟨g2, c2, by rw [getL_put, if_neg hxb]; exact hg, hb2.chgT kc (hr ht2), hl2, cs, kc.heap ht2 (hr ht2)⟩

end Go.Proofs.YtfodeeejolkkfaaGreat
namespace Go.Proofs.YtfodeeejolkkfaaGreat
open Go.RowKit Go.Lib

/-- a store with one transaction, whose blocks are these numbers. -/
structure Sn (w : World) (base : Nat) (d : Ids) (f : Int → List Nat) (n k : Nat) : Prop where
  st : St w base d (fun b => packB (f b)) n k
  five : ∀ b, (f b).length = 5 ∧ ∀ x ∈ f b, CanB x
theorem Sn.keep {w w' : World} {base : Nat} {d : Ids} {f : Int → List Nat} {n k : Nat} (h : Sn w base d f n k) (hc : Chg [] w w') : Sn w' base d f n k := ⟨h.st.keep hc, h.five⟩
theorem unpack_can {l : List Nat} (hl : l.length = 5) (h : ∀ x ∈ l, CanB x) : unpackB (packB l) = some l := by
  rw [unpackB_pack hl (fun x hx => (h x hx).1)]
  congr 1
  rw [List.map_congr_left (fun x hx => canB_self (h x hx)), List.map_id']
set_option maxRecDepth 100000 in
set_option maxHeartbeats 1000000 in
theorem block_out (w : World) {base : Nat} {d : Ids} {f : Int → List Nat} {n k : Nat} {i : Int} (h : Sn w base d f n k) (hi : i < 0 ∨ 1290 ≤ i) :
    Calls Tryz.prog 47 #[.pointer (some ⟨d.P, 0, none⟩), .int .i64 1, .int .i64 i] w fun e w' => e = .returned (.tuple #[.slice none 0 0, .int .i64 2]) ∧ Chg [] w w' := by
  obtain ⟨ops, hd⟩ := h.st.sta.dev
  have HC := Lib.hid (ccount_any w h.st.sta.store hd)
  clear h hd
  rcases (show i < 0 ∨ 0 ≤ i by omega) with h0 | h0
  · have n0 : decide (i < 0) = true := decide_eq_true h0
    go_enter Tryz.func47, Tryz.ntmps47
    go_wp2_with fail
    go_ret2
    exact ⟨rfl, Chg.refl _ _⟩
  · have n0 : decide (i < 0) = false := decide_eq_false (by omega)
    have n1 : (1290 : Int) ≤ i := by omega
    go_enter Tryz.func47, Tryz.ntmps47
    go_wp2_with fail
    refine HC.out.mono ?_
    rintro e w1 ⟨rfl, k1⟩
    go_wp2_with fail
    go_ret2
    exact ⟨rfl, k1⟩
set_option maxRecDepth 100000 in
set_option maxHeartbeats 1000000 in
theorem block_in (w : World) {base : Nat} {d : Ids} {f : Int → List Nat} {n k m : Nat} (h : Sn w base d f n k) (hn : n ≤ 11) (hm : m < 1290) :
    Calls Tryz.prog 47 #[.pointer (some ⟨d.P, 0, none⟩), .int .i64 1, .int .i64 m] w fun e w' => ∃ v, e = .returned (.tuple #[v, .int .i64 0]) ∧ Ow base w w' ∧ Sn w' base d f (n + 1) k ∧ w'.ownsRow w.heap.size 42 1 v 5 (flCells (f (m / 5 : Nat))) := by
  obtain ⟨ops, hd⟩ := h.st.sta.dev
  have HC := Lib.hid (ccount_any w h.st.sta.store hd)
  have n0 : decide ((m : Int) < 0) = false := decide_eq_false (by omega)
  have n1 : ¬ (1290 : Int) ≤ m := by omega
  have hq : (m : Int).tdiv 5 = ((m / 5 : Nat) : Int) := rfl
  have h5 := h.five (m / 5 : Nat)
  have hu := unpack_can h5.1 h5.2
  have HU := Lib.hid hu
  have hlen : (packB (f (m / 5 : Nat))).length = 40 := by rw [packB_len, h5.1]
  have HL := Lib.hid hlen
  clear hd h5 hu hlen
  go_enter Tryz.func47, Tryz.ntmps47
  go_wp2_with fail
  refine HC.out.mono ?_
  rintro e w1 ⟨rfl, k1⟩
  have h2 := h.keep k1
  go_wp2_with fail
  refine (sread_one w1 h2.st hn (b := (m / 5 : Nat)) (by omega) (by omega)).mono ?_
  rintro e w2 ⟨g, c', rfl, hc', k2, h3, hg, hB⟩
  have hs := k1.size
  go_wp2_with fail
  refine (unpack_forty w2 HL.out hc' hB).mono ?_
  rintro e w3 (⟨v, xs, hx, rfl, k3, ho⟩ | ⟨hx, -, -⟩)
  · rw [HU.out] at hx
    cases hx
    have hs2 := k2.size
    have hfin : Sn w3 base d f (n + 1) k := ⟨h3.keep k3, h.five⟩
    have how : Ow base w w3 := ((Ow.of_chg k1).trans k2).then k3
    have hof : w3.ownsRow w.heap.size 42 1 v 5 (flCells (f (m / 5 : Nat))) := ownsRow_base ho (by omega)
    clear h h2 h3 k1 k2 k3 ho hB
    go_wp2_with fail
    go_ret2
    exact ⟨v, rfl, how, hfin, hof⟩
  · rw [HU.out] at hx
    cases hx
end Go.Proofs.YtfodeeejolkkfaaGreat
namespace Go.Proofs.YtfodeeejolkkfaaGreat
open Go.RowKit Go.Lib

/-- a cell's number. -/
def getF (f : Int → List Nat) (m : Nat) : Nat := (f (m / 5 : Nat)).getD (m % 5) 0
/-- the cells behind a Set. -/
def setF (f : Int → List Nat) (m x : Nat) : Int → List Nat := fun b => if b = (m / 5 : Nat) then (f b).set (m % 5) x else f b
theorem getF_set (f : Int → List Nat) (m x j : Nat) (h5 : ∀ b, (f b).length = 5) : getF (setF f m x) j = if j = m then x else getF f j := by
  unfold getF setF
  by_cases hb : ((j / 5 : Nat) : Int) = (m / 5 : Nat)
  · rw [if_pos hb]
    by_cases hj : j = m
    · subst hj
      rw [if_pos rfl, List.getD_eq_getElem?_getD, List.getElem?_set]
      have : j % 5 < (f ((j / 5 : Nat) : Int)).length := by rw [h5]; omega
      rw [if_pos rfl, if_pos this]; rfl
    · rw [if_neg hj, List.getD_eq_getElem?_getD, List.getD_eq_getElem?_getD, List.getElem?_set, if_neg (by omega)]
  · rw [if_neg hb, if_neg (by rintro rfl; exact hb rfl)]
theorem setF_five {f : Int → List Nat} (h : ∀ b, (f b).length = 5 ∧ ∀ x ∈ f b, CanB x) {m x : Nat} (hx : CanB x) : ∀ b, (setF f m x b).length = 5 ∧ ∀ y ∈ setF f m x b, CanB y := by
  intro b
  unfold setF
  split
  · refine ⟨by rw [List.length_set]; exact (h b).1, fun y hy => ?_⟩
    rcases List.mem_or_eq_of_mem_set hy with hy | rfl
    · exact (h b).2 y hy
    · exact hx
  · exact h b
theorem getF_can {f : Int → List Nat} (h : ∀ b, (f b).length = 5 ∧ ∀ x ∈ f b, CanB x) (m : Nat) : CanB (getF f m) := by
  unfold getF
  have hl := (h (m / 5 : Nat)).1
  have hlt : m % 5 < (f (m / 5 : Nat)).length := by rw [hl]; omega
  rw [List.getD_eq_getElem?_getD, List.getElem?_eq_getElem hlt, Option.getD_some]
  exact (h _).2 _ (List.getElem_mem hlt)
/-- doubles of an own row, at a place. -/
theorem own_fl {w : World} {base n : Nat} {v : Value} {l : List Nat} (h : w.ownsRow base 42 1 v n (flCells l)) (hn : 0 < n) :
    ∃ g cap cur, v = .slice (some ⟨g, 0, none⟩) n cap ∧ base ≤ g ∧ w.heap[g]? = some (.cells cur 42 (0, 0)) ∧ n ≤ cap ∧ l.length = n ∧ ∀ j (hj : j < l.length), w.cell? ⟨g, j, none⟩ = some (.float .f64 l[j]) := by
  have hl := h.1
  simp only [flCells, List.length_map, Nat.mul_one] at hl
  rcases h.2 with ⟨rfl, h0⟩ | ⟨g, cap, cur, rfl, hb, hg, hc, hm, hs, ht⟩
  · omega
  · refine ⟨g, cap, cur, rfl, hb, hg, hc, hl, fun j hj => ?_⟩
    have := h.cells (g := g) rfl j (.float .f64 l[j]) (by simp [flCells, hj])
    rw [add_lit, Nat.zero_add] at this
    exact this
set_option maxRecDepth 100000 in
set_option maxHeartbeats 1000000 in
theorem cget_in (w : World) {base : Nat} {d : Ids} {f : Int → List Nat} {n k m : Nat} (h : Sn w base d f n k) (hn : n ≤ 11) (hm : m < 1290) :
    Calls Tryz.prog 21 #[.pointer (some ⟨d.P, 0, none⟩), .int .i64 1, .int .i64 m] w fun e w' => e = .returned (.tuple #[.float .f64 (getF f m), .int .i64 0]) ∧ Ow base w w' ∧ Sn w' base d f (n + 1) k := by
  have hr : (m : Int).tmod 5 = ((m % 5 : Nat) : Int) := rfl
  have h5 := h.five (m / 5 : Nat)
  go_enter Tryz.func21, Tryz.ntmps21
  go_wp2_with fail
  refine (block_in w h hn hm).mono ?_
  rintro e w1 ⟨v, rfl, k1, h1, o1⟩
  obtain ⟨g, cap, cur, rfl, -, -, hcap, hl, hc⟩ := own_fl o1 (by decide)
  have hlt : m % 5 < (f (m / 5 : Nat)).length := by rw [hl]; omega
  have c0 := hc (m % 5) hlt
  have hx : (f (m / 5 : Nat))[m % 5] = getF f m := by
    unfold getF
    rw [List.getD_eq_getElem?_getD, List.getElem?_eq_getElem hlt, Option.getD_some]
  rw [hx] at c0
  clear hx hlt hc o1 hl h h5
  have hi : ((m % 5 : Nat) : Int) < 5 := by omega
  generalize m % 5 = j at *
  go_wp2_with fail
  go_ret2
  exact ⟨rfl, k1, h1⟩
set_option maxRecDepth 100000 in
theorem cget_out (w : World) {base : Nat} {d : Ids} {f : Int → List Nat} {n k : Nat} {i : Int} (h : Sn w base d f n k) (hi : i < 0 ∨ 1290 ≤ i) :
    Calls Tryz.prog 21 #[.pointer (some ⟨d.P, 0, none⟩), .int .i64 1, .int .i64 i] w fun e w' => e = .returned (.tuple #[.float .f64 0, .int .i64 2]) ∧ Chg [] w w' := by
  go_enter Tryz.func21, Tryz.ntmps21
  go_wp2_with fail
  refine (block_out w h hi).mono ?_
  rintro e w1 ⟨rfl, k1⟩
  go_wp2_with fail
  go_ret2
  exact ⟨rfl, k1⟩
set_option maxRecDepth 100000 in
theorem cset_out (w : World) {base : Nat} {d : Ids} {f : Int → List Nat} {n k x : Nat} {i : Int} (h : Sn w base d f n k) (hi : i < 0 ∨ 1290 ≤ i) :
    Calls Tryz.prog 19 #[.pointer (some ⟨d.P, 0, none⟩), .int .i64 1, .int .i64 i, .float .f64 x] w fun e w' => e = .returned (.int .i64 2) ∧ Chg [] w w' := by
  go_enter Tryz.func19, Tryz.ntmps19
  go_wp2_with fail
  refine (block_out w h hi).mono ?_
  rintro e w1 ⟨rfl, k1⟩
  go_wp2_with fail
  go_ret
  exact ⟨rfl, k1⟩
theorem canB_canB (x : Nat) : canB (canB x) = canB x := by
  by_cases h : isNaNB x = true
  · have e : canB x = nanB := by unfold canB; rw [if_pos h]
    rw [e]
    decide
  · have e : canB x = x := by unfold canB; rw [if_neg h]
    rw [e, e]
theorem packB_set (l : List Nat) (j x : Nat) : packB (l.set j x) = packB (l.set j (canB x)) := by
  induction l generalizing j with
  | nil => rfl
  | cons a l ih =>
    cases j with
    | zero => simp only [List.set_cons_zero, packB_cons]; congr 1; unfold encB; rw [canB_canB]
    | succ j => simp only [List.set_cons_succ, packB_cons, ih]
theorem Ow.new_set {base : Nat} {w w' : World} (h : Ow base w w') {g : Nat} (hg : w.heap.size ≤ g) (i : Nat) (v : Value) : Ow base w (w'.setCell ⟨g, i, none⟩ v) := by
  obtain ⟨T, h1, h2⟩ := h
  exact ⟨T, h1.new_set hg i v, h2⟩
theorem Av.row {w : World} {g : Nat} {cs : Array Value} {t : TypeId} {fr : Nat × Nat} (h : w.heap[g]? = some (.cells cs t fr)) {ts : List Nat} (ht : t ∉ ts) : Av w [g] ts := fun x hx cs' t' fr' hh => by
  rw [List.mem_singleton] at hx; subst hx; rw [h] at hh; cases hh; exact ht
theorem St.keepRow {w w' : World} {base : Nat} {d : Ids} {q : Int → List UInt8} {n k g : Nat} {cs : Array Value} {fr : Nat × Nat} (h : St w base d q n k) (hc : Chg [g] w w') (hg : w.heap[g]? = some (.cells cs 42 fr)) (hb : base ≤ g) : St w' base d q n k := by
  obtain ⟨L, h1, h2, h3⟩ := h.buf
  have hne : ∀ {x : Nat} {cs' : Array Value} {t : TypeId} {fr' : Nat × Nat}, w.heap[x]? = some (.cells cs' t fr') → t ≠ 42 → x ∉ [g] := fun hx ht => (Av.row hg (ts := [_]) (by simpa using ht.symm)).ne hx (by simp)
  refine ⟨h.sta.keep hc (fun x hx => by rw [List.mem_singleton] at hx; omega), hc.heap h.tx (hne h.tx (by decide)), ⟨L, h1.keep hc (hne h1.1 (by decide)) (by simpa using map_cells h1.2 hg), h2, fun b hb1 hb2 => ?_⟩, h.vw.keep hc (Av.row hg (by decide)), h.sp.keep hc (Av.row hg (by decide)), h.high⟩
  rcases h3 b hb1 hb2 with ⟨e1, e2⟩ | ⟨g2, c2, e1, e2, e3, cs2, e4⟩
  · exact Or.inl ⟨e1, e2⟩
  · exact Or.inr ⟨g2, c2, e1, e2.chgT hc (hne e4 (by decide)), e3, cs2, hc.heap e4 (hne e4 (by decide))⟩
set_option maxRecDepth 100000 in
set_option maxHeartbeats 2000000 in
theorem cset_in (w : World) {base : Nat} {d : Ids} {f : Int → List Nat} {n k m x : Nat} (h : Sn w base d f n k) (hn : n ≤ 11) (hk : k ≤ 15) (hm : m < 1290) (hx : x < 18446744073709551616) :
    Calls Tryz.prog 19 #[.pointer (some ⟨d.P, 0, none⟩), .int .i64 1, .int .i64 m, .float .f64 x] w fun e w' => e = .returned (.int .i64 0) ∧ Ow base w w' ∧ Sn w' base d (setF f m (canB x)) (n + 1) (k + 1) := by
  have hr : (m : Int).tmod 5 = ((m % 5 : Nat) : Int) := rfl
  have hq : (m : Int).tdiv 5 = ((m / 5 : Nat) : Int) := rfl
  have h5 := h.five (m / 5 : Nat)
  have hcx := canB_can hx
  go_enter Tryz.func19, Tryz.ntmps19
  go_wp2_with fail
  refine (block_in w h hn hm).mono ?_
  rintro e w1 ⟨v, rfl, k1, h1, o1⟩
  obtain ⟨g, cap, cur, rfl, hgb, hgc, hcap, hl, hc⟩ := own_fl o1 (by decide)
  have hlt : m % 5 < (f (m / 5 : Nat)).length := by rw [hl]; omega
  obtain ⟨u0, c0⟩ : ∃ u, w1.cell? ⟨g, m % 5, none⟩ = some (.float .f64 u) := ⟨_, hc (m % 5) hlt⟩
  have f0 := unfrozen hgc (m % 5)
  have hF : Fl (w1.setCell ⟨g, m % 5, none⟩ (.float .f64 x)) (some ⟨g, 0, none⟩) ((f (m / 5 : Nat)).set (m % 5) x) := by
    refine Or.inr ⟨g, 0, rfl, fun j hj => ?_⟩
    rw [List.length_set] at hj
    rw [Nat.zero_add, List.getElem_set]
    by_cases e : m % 5 = j
    · rw [if_pos e, ← e]
      have hh := heap_set hgc (m % 5) (.float .f64 x) rfl
      refine cell_is hh _ ?_
      have hz : m % 5 < cur.size := by
        have := hc (m % 5) hlt
        rw [cell_of_row _ _ _ _ _ _ hgc] at this
        exact (Array.getElem?_eq_some_iff.1 this).1
      simp [hz]
    · rw [if_neg e]
      have hh := heap_set hgc (m % 5) (.float .f64 x) rfl
      refine cell_is hh _ ?_
      have := hc j hj
      rw [cell_of_row _ _ _ _ _ _ hgc] at this
      rw [Array.getElem?_setIfInBounds, if_neg e]
      exact this
  have kS : Chg [g] w1 (w1.setCell ⟨g, m % 5, none⟩ (.float .f64 x)) := Chg.set w1 g _ _
  have hg0 : base ≤ g := by have := heap_lt h.st.tx; have := h.st.high.1; obtain ⟨_, _, _, hq1, _⟩ := h.st.vw; have := heap_lt hq1; omega
  have o2 : Ow base w (w1.setCell ⟨g, m % 5, none⟩ (.float .f64 x)) := k1.new_set hgb _ _
  have h2 : Sn (w1.setCell ⟨g, m % 5, none⟩ (.float .f64 x)) base d f (n + 1) k := ⟨h1.st.keepRow kS hgc hg0, h.five⟩
  have hlen : ((f (m / 5 : Nat)).set (m % 5) x).length = 5 := by rw [List.length_set]; exact hl
  have hlt5 : ((m % 5 : Nat) : Int) < 5 := by omega
  have hxs : ∀ y ∈ (f (m / 5 : Nat)).set (m % 5) x, canB y < 18446744073709551616 := by
    intro y hy
    rcases List.mem_or_eq_of_mem_set hy with hy | rfl
    · rw [canB_self (h5.2 y hy)]; exact (h5.2 y hy).1
    · exact hcx.1
  have HP := Lib.hid (pack_any (w1.setCell ⟨g, m % 5, none⟩ (.float .f64 x)) (c := cap) hlen (by omega) hF hxs)
  have HE : packB ((f (m / 5 : Nat)).set (m % 5) x) = packB (setF f m (canB x) (m / 5 : Nat)) := by rw [packB_set]; unfold setF; rw [if_pos rfl]
  have HE2 := Lib.hid HE
  have hsz : w.heap.size ≤ (w1.setCell ⟨g, m % 5, none⟩ (.float .f64 x)).heap.size := o2.size
  clear hF hc hxs hlen hl kS h1 k1 h5 HE hlt o1 hgc
  generalize m % 5 = j at *
  have hst : ∀ a v m w, (store a (.float .f64 v) m).run Tryz.prog w = stored Tryz.prog w a (.float .f64 v) m := fun a v m w => run_store Tryz.prog w a _ m rfl
  go_wp2_with fail
  refine HP.out.mono ?_
  rintro e w2 ⟨v2, rfl, k2, -, hv⟩
  obtain ⟨g2, c2, rfl, hB2, hg2⟩ := hv (by trivial)
  rw [HE2.out] at hB2
  have h3 := h2.keep k2
  have o3 := o2.then k2
  clear hv h2 o2 k2 c0 f0
  go_wp2_with fail
  have kx : Chg [] w2 (w2.alloc (.cells #[.int .i64 (m / 5 : Nat), .slice (some ⟨g2, 0, none⟩) 40 c2] 92)) := Chg.alloc w2 _
  have x0 := heap_new w2 (.cells #[.int .i64 (m / 5 : Nat), .slice (some ⟨g2, 0, none⟩) 40 c2] 92)
  have h5' := setF_five h.five (m := m) hcx
  refine (swrite_st _ (h3.keep kx).st hk (b := (m / 5 : Nat)) (E := w2.heap.size) (eo := 0) (by omega) (by omega) (cell_is x0 0 rfl) (cell_is x0 1 rfl) (hB2.chg kx) (by rw [packB_len, (h5' _).1])).mono ?_
  rintro e w4 ⟨rfl, o4, h4⟩
  have hfin : Sn w4 base d (setF f m (canB x)) (n + 1) (k + 1) := by
    refine ⟨?_, h5'⟩
    have he : (putQ (fun b => packB (f b)) (m / 5 : Nat) (packB (setF f m (canB x) (m / 5 : Nat)))) = (fun b => packB (setF f m (canB x) b)) := by
      funext b
      unfold putQ
      by_cases hb : b = ((m / 5 : Nat) : Int)
      · rw [if_pos hb, hb]
      · rw [if_neg hb]; unfold setF; rw [if_neg hb]
    rw [← he]
    exact h4
  have hof := (o3.then kx).trans o4
  clear h h3 h4 o3 o4 kx x0 hB2
  go_wp2_with fail
  go_ret
  exact ⟨rfl, hof, hfin⟩
end Go.Proofs.YtfodeeejolkkfaaGreat
namespace Go.Proofs.YtfodeeejolkkfaaGreat
open Go.RowKit Go.Lib

/-- a store with an open transaction, whose blocks are these numbers. -/
structure Sc (w : World) (base : Nat) (d : Ids) (p : Par) (F : World → Prop) (f : Int → List Nat) (L : List (Int × Value)) (n : Nat) : Prop where
  st : Su w base d p F (fun b => packB (f b)) L n
  five : ∀ b, (f b).length = 5 ∧ ∀ x ∈ f b, CanB x
section
variable {base : Nat} {d : Ids} {p : Par} {F : World → Prop}
theorem Sc.keep {w w' : World} {f : Int → List Nat} {L : List (Int × Value)} {n : Nat} (hf : Fr base d p F) (h : Sc w base d p F f L n) (hc : Chg [] w w') : Sc w' base d p F f L n := ⟨h.st.keep hf hc, h.five⟩
theorem Su.keepRow {w w' : World} {q : Int → List UInt8} {L : List (Int × Value)} {n g : Nat} {cs : Array Value} {fr : Nat × Nat} (h : Su w base d p F q L n) (hc : Chg [g] w w') (hg : w.heap[g]? = some (.cells cs 42 fr)) (he : F w') : Su w' base d p F q L n := by
  have hne : ∀ {x : Nat} {cs' : Array Value} {t : TypeId} {fr' : Nat × Nat}, w.heap[x]? = some (.cells cs' t fr') → t ≠ 42 → x ∉ [g] := fun hx ht => (Av.row hg (ts := [_]) (by simpa using ht.symm)).ne hx (by simp)
  refine ⟨he, hc.heap h.tx (hne h.tx (by decide)), h.buf.keep hc (hne h.buf.1 (by decide)) (by simpa using map_cells h.buf.2 hg), h.keys, fun b hb1 hb2 => ?_, h.vw.keep hc (Av.row hg (by decide)), h.sp.keep hc (Av.row hg (by decide)), h.high⟩
  rcases h.blk b hb1 hb2 with ⟨e1, e2⟩ | ⟨g2, c2, e1, e2, e3, cs2, e4⟩
  · exact Or.inl ⟨e1, e2⟩
  · exact Or.inr ⟨g2, c2, e1, e2.chgT hc (hne e4 (by decide)), e3, cs2, hc.heap e4 (hne e4 (by decide))⟩
set_option maxRecDepth 100000 in
theorem geom_hdr (w : World) {N A c : Nat} (h : ∃ ops, w.heap[N]? = some (.cells #[.int .i64 8, .int .i64 96, .slice (some ⟨A, 0, none⟩) 8 c, .int .i64 ops, .int .i64 0, .bool false, .int .i64 0, .bool false] 130 (0, 0))) : Calls Tryz.prog 78 #[.pointer (some ⟨N, 0, none⟩)] w fun e w' => e = .returned (.agg #[.int .i64 8, .int .i64 96]) ∧ Chg [] w w' := by
  obtain ⟨ops, h⟩ := h
  have hgone : ∀ w1 : World, w1.heap[N]? = some (.cells #[.int .i64 8, .int .i64 96, .slice (some ⟨A, 0, none⟩) 8 c, .int .i64 ops, .int .i64 0, .bool false, .int .i64 0, .bool false] 130 (0, 0)) → Calls Tryz.prog 139 #[.pointer (some ⟨N, 0, none⟩)] w1 fun e w' => e = .returned (.bool false) ∧ w1 = w' := by
    intro w1 h1
    have e2 : w1.cell? ⟨N, 2, none⟩ = some (.slice (some ⟨A, 0, none⟩) 8 c) := cell_is h1 2 rfl
    clear h h1
    go_enter Tryz.func139, Tryz.ntmps139
    go_wp2_with fail
    go_ret
    exact ⟨rfl, rfl⟩
  have HG := Lib.hid hgone
  clear hgone
  go_enter Tryz.func78, Tryz.ntmps78
  go_wp2_with fail
  have g0 := heap_new w (.cells #[.int .i64 0, .int .i64 0] 80)
  have hc : Chg [] w (w.alloc (.cells #[.int .i64 0, .int .i64 0] 80)) := Chg.alloc _ _
  have h2 := hc.heap h (by simp)
  have hN := heap_lt h
  generalize w.alloc (.cells #[.int .i64 0, .int .i64 0] 80) = w1 at *
  refine (HG.out w1 h2).mono ?_
  rintro e w2 ⟨rfl, rfl⟩
  have e0 : w1.cell? ⟨N, 0, none⟩ = some (.int .i64 8) := cell_is h2 0 rfl
  have e1 : w1.cell? ⟨N, 1, none⟩ = some (.int .i64 96) := cell_is h2 1 rfl
  have c0 := cell_is g0 0 rfl
  have c1 := cell_is g0 1 rfl
  have f0 := unfrozen g0 0
  have f1 := unfrozen g0 1
  clear h h2 g0
  go_wp2_with fail
  refine bodyPost_ret (v := .agg #[.int .i64 8, .int .i64 96]) (by simp [results, Tryz.results78, go_sem, c0, c1]) rfl ?_
  exact ⟨rfl, (hc.new_set (by omega) _ _).new_set (by omega) _ _⟩
set_option maxRecDepth 100000 in
theorem sblocks_gen (w : World) (h : Need w d p) : Calls Tryz.prog 76 #[.pointer (some ⟨d.P, 0, none⟩)] w fun e w' => e = .returned (.int .i64 258) ∧ Chg [] w w' := by
  have c0 := h.p0
  have HG := Lib.hid (geom_hdr w h.hdr)
  clear h
  go_enter Tryz.func76, Tryz.ntmps76
  go_wp2_with fail
  refine HG.out.mono ?_
  rintro e w1 ⟨rfl, hc1⟩
  go_wp2_with fail
  refine (cap_min w1).mono ?_
  rintro e w2 ⟨rfl, hc2⟩
  go_wp2_with fail
  go_ret
  exact ⟨rfl, hc1.then hc2⟩
set_option maxRecDepth 100000 in
theorem ccount_gen (w : World) (h : Need w d p) : Calls Tryz.prog 36 #[.pointer (some ⟨d.P, 0, none⟩)] w fun e w' => e = .returned (.int .i64 1290) ∧ Chg [] w w' := by
  have HG := Lib.hid (sblocks_gen w h)
  clear h
  go_enter Tryz.func36, Tryz.ntmps36
  go_wp2_with fail
  refine HG.out.mono ?_
  rintro e w1 ⟨rfl, hc1⟩
  go_wp2_with fail
  go_ret
  exact ⟨rfl, hc1⟩
set_option maxRecDepth 100000 in
set_option maxHeartbeats 1000000 in
theorem gblock_in (w : World) {f : Int → List Nat} {L : List (Int × Value)} {n m : Nat} (hf : Fr base d p F) (h : Sc w base d p F f L n) (hn : n ≤ 11) (hm : m < 1290) :
    Calls Tryz.prog 47 #[.pointer (some ⟨d.P, 0, none⟩), .int .i64 p.h, .int .i64 m] w fun e w' => ∃ v, e = .returned (.tuple #[v, .int .i64 0]) ∧ Ow base w w' ∧ Sc w' base d p F f L (n + 1) ∧ w'.ownsRow w.heap.size 42 1 v 5 (flCells (f (m / 5 : Nat))) := by
  have HC := Lib.hid (ccount_gen w (hf.need _ h.st.env))
  have n0 : decide ((m : Int) < 0) = false := decide_eq_false (by omega)
  have n1 : ¬ (1290 : Int) ≤ m := by omega
  have hq : (m : Int).tdiv 5 = ((m / 5 : Nat) : Int) := rfl
  have h5 := h.five (m / 5 : Nat)
  have hu := unpack_can h5.1 h5.2
  have HU := Lib.hid hu
  have hlen : (packB (f (m / 5 : Nat))).length = 40 := by rw [packB_len, h5.1]
  have HL := Lib.hid hlen
  clear h5 hu hlen
  go_enter Tryz.func47, Tryz.ntmps47
  go_wp2_with fail
  refine HC.out.mono ?_
  rintro e w1 ⟨rfl, k1⟩
  have h2 := h.keep hf k1
  go_wp2_with fail
  refine (sread_gen w1 hf h2.st hn (b := (m / 5 : Nat)) (by omega) (by omega)).mono ?_
  rintro e w2 ⟨g, c', rfl, hc', k2, h3, hg, hB⟩
  have hs := k1.size
  go_wp2_with fail
  refine (unpack_forty w2 HL.out hc' hB).mono ?_
  rintro e w3 (⟨v, xs, hx, rfl, k3, ho⟩ | ⟨hx, -, -⟩)
  · rw [HU.out] at hx
    cases hx
    have hs2 := k2.size
    have hfin : Sc w3 base d p F f L (n + 1) := ⟨h3.keep hf k3, h.five⟩
    have how : Ow base w w3 := ((Ow.of_chg k1).trans k2).then k3
    have hof : w3.ownsRow w.heap.size 42 1 v 5 (flCells (f (m / 5 : Nat))) := ownsRow_base ho (by omega)
    clear h h2 h3 k1 k2 k3 ho hB
    go_wp2_with fail
    go_ret2
    exact ⟨v, rfl, how, hfin, hof⟩
  · rw [HU.out] at hx
    cases hx
set_option maxRecDepth 100000 in
set_option maxHeartbeats 1000000 in
theorem gget_in (w : World) {f : Int → List Nat} {L : List (Int × Value)} {n m : Nat} (hf : Fr base d p F) (h : Sc w base d p F f L n) (hn : n ≤ 11) (hm : m < 1290) :
    Calls Tryz.prog 21 #[.pointer (some ⟨d.P, 0, none⟩), .int .i64 p.h, .int .i64 m] w fun e w' => e = .returned (.tuple #[.float .f64 (getF f m), .int .i64 0]) ∧ Ow base w w' ∧ Sc w' base d p F f L (n + 1) := by
  have hr : (m : Int).tmod 5 = ((m % 5 : Nat) : Int) := rfl
  have h5 := h.five (m / 5 : Nat)
  go_enter Tryz.func21, Tryz.ntmps21
  go_wp2_with fail
  refine (gblock_in w hf h hn hm).mono ?_
  rintro e w1 ⟨v, rfl, k1, h1, o1⟩
  obtain ⟨g, cap, cur, rfl, -, -, hcap, hl, hc⟩ := own_fl o1 (by decide)
  have hlt : m % 5 < (f (m / 5 : Nat)).length := by rw [hl]; omega
  have c0 := hc (m % 5) hlt
  have hx : (f (m / 5 : Nat))[m % 5] = getF f m := by
    unfold getF
    rw [List.getD_eq_getElem?_getD, List.getElem?_eq_getElem hlt, Option.getD_some]
  rw [hx] at c0
  clear hx hlt hc o1 hl h h5
  have hi : ((m % 5 : Nat) : Int) < 5 := by omega
  generalize m % 5 = j at *
  go_wp2_with fail
  go_ret2
  exact ⟨rfl, k1, h1⟩
set_option maxRecDepth 100000 in
set_option maxHeartbeats 2000000 in
theorem gset_in (w : World) {f : Int → List Nat} {L : List (Int × Value)} {n m x : Nat} (hf : Fr base d p F) (h : Sc w base d p F f L n) (hn : n ≤ 11) (hk : L.length ≤ 15) (hm : m < 1290) (hx : x < 18446744073709551616) :
    Calls Tryz.prog 19 #[.pointer (some ⟨d.P, 0, none⟩), .int .i64 p.h, .int .i64 m, .float .f64 x] w fun e w' => ∃ v, e = .returned (.int .i64 0) ∧ Ow base w w' ∧ Sc w' base d p F (setF f m (canB x)) (putL L (m / 5 : Nat) v) (n + 1) := by
  have hr : (m : Int).tmod 5 = ((m % 5 : Nat) : Int) := rfl
  have hq : (m : Int).tdiv 5 = ((m / 5 : Nat) : Int) := rfl
  have h5 := h.five (m / 5 : Nat)
  have hcx := canB_can hx
  go_enter Tryz.func19, Tryz.ntmps19
  go_wp2_with fail
  refine (gblock_in w hf h hn hm).mono ?_
  rintro e w1 ⟨v, rfl, k1, h1, o1⟩
  obtain ⟨g, cap, cur, rfl, hgb, hgc, hcap, hl, hc⟩ := own_fl o1 (by decide)
  have hlt : m % 5 < (f (m / 5 : Nat)).length := by rw [hl]; omega
  obtain ⟨u0, c0⟩ : ∃ u, w1.cell? ⟨g, m % 5, none⟩ = some (.float .f64 u) := ⟨_, hc (m % 5) hlt⟩
  have f0 := unfrozen hgc (m % 5)
  have hF : Fl (w1.setCell ⟨g, m % 5, none⟩ (.float .f64 x)) (some ⟨g, 0, none⟩) ((f (m / 5 : Nat)).set (m % 5) x) := by
    refine Or.inr ⟨g, 0, rfl, fun j hj => ?_⟩
    rw [List.length_set] at hj
    rw [Nat.zero_add, List.getElem_set]
    by_cases e : m % 5 = j
    · rw [if_pos e, ← e]
      have hh := heap_set hgc (m % 5) (.float .f64 x) rfl
      refine cell_is hh _ ?_
      have hz : m % 5 < cur.size := by
        have := hc (m % 5) hlt
        rw [cell_of_row _ _ _ _ _ _ hgc] at this
        exact (Array.getElem?_eq_some_iff.1 this).1
      simp [hz]
    · rw [if_neg e]
      have hh := heap_set hgc (m % 5) (.float .f64 x) rfl
      refine cell_is hh _ ?_
      have := hc j hj
      rw [cell_of_row _ _ _ _ _ _ hgc] at this
      rw [Array.getElem?_setIfInBounds, if_neg e]
      exact this
  have kS : Chg [g] w1 (w1.setCell ⟨g, m % 5, none⟩ (.float .f64 x)) := Chg.set w1 g _ _
  have o2 : Ow base w (w1.setCell ⟨g, m % 5, none⟩ (.float .f64 x)) := k1.new_set hgb _ _
  have h2 : Sc (w1.setCell ⟨g, m % 5, none⟩ (.float .f64 x)) base d p F f L (n + 1) := ⟨h1.st.keepRow kS hgc (hf.keep _ _ o2 h.st.env), h.five⟩
  have hlen : ((f (m / 5 : Nat)).set (m % 5) x).length = 5 := by rw [List.length_set]; exact hl
  have hlt5 : ((m % 5 : Nat) : Int) < 5 := by omega
  have hxs : ∀ y ∈ (f (m / 5 : Nat)).set (m % 5) x, canB y < 18446744073709551616 := by
    intro y hy
    rcases List.mem_or_eq_of_mem_set hy with hy | rfl
    · rw [canB_self (h5.2 y hy)]; exact (h5.2 y hy).1
    · exact hcx.1
  have HP := Lib.hid (pack_any (w1.setCell ⟨g, m % 5, none⟩ (.float .f64 x)) (c := cap) hlen (by omega) hF hxs)
  have HE : packB ((f (m / 5 : Nat)).set (m % 5) x) = packB (setF f m (canB x) (m / 5 : Nat)) := by rw [packB_set]; unfold setF; rw [if_pos rfl]
  have HE2 := Lib.hid HE
  have hsz : w.heap.size ≤ (w1.setCell ⟨g, m % 5, none⟩ (.float .f64 x)).heap.size := o2.size
  clear hF hc hxs hlen hl kS h1 k1 h5 HE hlt o1 hgc
  generalize m % 5 = j at *
  have hst : ∀ a v m w, (store a (.float .f64 v) m).run Tryz.prog w = stored Tryz.prog w a (.float .f64 v) m := fun a v m w => run_store Tryz.prog w a _ m rfl
  go_wp2_with fail
  refine HP.out.mono ?_
  rintro e w2 ⟨v2, rfl, k2, -, hv⟩
  obtain ⟨g2, c2, rfl, hB2, hg2⟩ := hv (by trivial)
  rw [HE2.out] at hB2
  have h3 := h2.keep hf k2
  have o3 := o2.then k2
  clear hv h2 o2 k2 c0 f0
  go_wp2_with fail
  have kx : Chg [] w2 (w2.alloc (.cells #[.int .i64 (m / 5 : Nat), .slice (some ⟨g2, 0, none⟩) 40 c2] 92)) := Chg.alloc w2 _
  have x0 := heap_new w2 (.cells #[.int .i64 (m / 5 : Nat), .slice (some ⟨g2, 0, none⟩) 40 c2] 92)
  have h5' := setF_five h.five (m := m) hcx
  refine (swrite_gen _ hf (h3.keep hf kx).st (hroom := hk) (b := (m / 5 : Nat)) (E := w2.heap.size) (eo := 0) (cell_is x0 0 rfl) (cell_is x0 1 rfl) (hB2.chg kx) (by rw [packB_len, (h5' _).1]) (by omega) (by omega)).mono ?_
  rintro e w4 ⟨v4, rfl, o4, h4⟩
  have hfin : Sc w4 base d p F (setF f m (canB x)) (putL L (m / 5 : Nat) v4) (n + 1) := by
    refine ⟨?_, h5'⟩
    have he : (putQ (fun b => packB (f b)) (m / 5 : Nat) (packB (setF f m (canB x) (m / 5 : Nat)))) = (fun b => packB (setF f m (canB x) b)) := by
      funext b
      unfold putQ
      by_cases hb : b = ((m / 5 : Nat) : Int)
      · rw [if_pos hb, hb]
      · rw [if_neg hb]; unfold setF; rw [if_neg hb]
    rw [← he]
    exact h4
  have hof := (o3.then kx).trans o4
  clear h h3 h4 o3 o4 kx x0 hB2
  go_wp2_with fail
  go_ret
  exact ⟨v4, rfl, hof, hfin⟩
end
end Go.Proofs.YtfodeeejolkkfaaGreat
namespace Go.Proofs.YtfodeeejolkkfaaGreat
open Go.RowKit Go.Lib

variable {base : Nat} {d : Ids} {p : Par} {F : World → Prop}
structure Sy (w : World) (base : Nat) (d : Ids) (p : Par) (F : World → Prop) (f : Int → List Nat) (L : List (Int × Value)) (n : Nat) (sl : List (Int × Int)) : Prop where
  st : Sv w base d p F (fun b => packB (f b)) L n sl
  five : ∀ b, (f b).length = 5 ∧ ∀ x ∈ f b, CanB x
theorem Sy.keep {w w' : World} {f : Int → List Nat} {L : List (Int × Value)} {n : Nat} {sl : List (Int × Int)} (hf : Fr base d p F) (h : Sy w base d p F f L n sl) (hc : Chg [] w w') : Sy w' base d p F f L n sl := ⟨h.st.keep hf hc, h.five⟩
theorem Sv.keepRow {w w' : World} {q : Int → List UInt8} {L : List (Int × Value)} {n g : Nat} {sl : List (Int × Int)} {cs : Array Value} {fr : Nat × Nat} (h : Sv w base d p F q L n sl) (hc : Chg [g] w w') (hg : w.heap[g]? = some (.cells cs 42 fr)) (he : F w') : Sv w' base d p F q L n sl := by
  have hne : ∀ {x : Nat} {cs' : Array Value} {t : TypeId} {fr' : Nat × Nat}, w.heap[x]? = some (.cells cs' t fr') → t ≠ 42 → x ∉ [g] := fun hx ht => (Av.row hg (ts := [_]) (by simpa using ht.symm)).ne hx (by simp)
  refine ⟨he, hc.heap h.tx (hne h.tx (by decide)), h.buf.keep hc (hne h.buf.1 (by decide)) (by simpa using map_cells h.buf.2 hg), h.keys, fun b hb1 hb2 => ?_, h.vw.keep hc (Av.row hg (by decide)), h.sp.keep hc (Av.row hg (by decide)), h.high⟩
  rcases h.blk b hb1 hb2 with ⟨e1, e2⟩ | ⟨g2, c2, e1, e2, e3, cs2, e4⟩
  · exact Or.inl ⟨e1, e2⟩
  · exact Or.inr ⟨g2, c2, e1, e2.chgT hc (hne e4 (by decide)), e3, cs2, hc.heap e4 (hne e4 (by decide))⟩
set_option maxRecDepth 100000 in
set_option maxHeartbeats 2000000 in
theorem xblock_in (w : World) {f : Int → List Nat} {L : List (Int × Value)} {n m : Nat} {sl : List (Int × Int)} (hf : Fr base d p F) (h : Sy w base d p F f L n sl) (hn : sl.length ≤ 11) (hN : n ≤ 80000) (hm : m < 1290) :
    Calls Tryz.prog 47 #[.pointer (some ⟨d.P, 0, none⟩), .int .i64 p.h, .int .i64 m] w fun e w' => ∃ v, e = .returned (.tuple #[v, .int .i64 0]) ∧ Ow base w w' ∧ Sy w' base d p F f L (n + 1) (joinS sl (m / 5 : Nat) 1) ∧ w'.ownsRow w.heap.size 42 1 v 5 (flCells (f (m / 5 : Nat))) := by
  have HC := Lib.hid (ccount_gen w (hf.need _ h.st.env))
  have n0 : decide ((m : Int) < 0) = false := decide_eq_false (by omega)
  have n1 : ¬ (1290 : Int) ≤ m := by omega
  have hq : (m : Int).tdiv 5 = ((m / 5 : Nat) : Int) := rfl
  have h5 := h.five (m / 5 : Nat)
  have hu := unpack_can h5.1 h5.2
  have HU := Lib.hid hu
  have hlen : (packB (f (m / 5 : Nat))).length = 40 := by rw [packB_len, h5.1]
  have HL := Lib.hid hlen
  clear h5 hu hlen
  go_enter Tryz.func47, Tryz.ntmps47
  go_wp2_with fail
  refine HC.out.mono ?_
  rintro e w1 ⟨rfl, k1⟩
  have h2 := h.keep hf k1
  go_wp2_with fail
  refine (sread_x w1 hf h2.st hn (by omega) (b := (m / 5 : Nat)) (by omega) (by omega)).mono ?_
  rintro e w2 ⟨g, c', rfl, hc', k2, h3, hg, hB⟩
  have hs := k1.size
  go_wp2_with fail
  refine (unpack_forty w2 HL.out hc' hB).mono ?_
  rintro e w3 (⟨v, xs, hx, rfl, k3, ho⟩ | ⟨hx, -, -⟩)
  · rw [HU.out] at hx
    cases hx
    have hs2 := k2.size
    have hfin : Sy w3 base d p F f L (n + 1) (joinS sl (m / 5 : Nat) 1) := ⟨h3.keep hf k3, h.five⟩
    have how : Ow base w w3 := ((Ow.of_chg k1).trans k2).then k3
    have hof : w3.ownsRow w.heap.size 42 1 v 5 (flCells (f (m / 5 : Nat))) := ownsRow_base ho (by omega)
    clear h h2 h3 k1 k2 k3 ho hB
    go_wp2_with fail
    go_ret2
    exact ⟨v, rfl, how, hfin, hof⟩
  · rw [HU.out] at hx
    cases hx
set_option maxRecDepth 100000 in
set_option maxHeartbeats 1000000 in
theorem xget_in (w : World) {f : Int → List Nat} {L : List (Int × Value)} {n m : Nat} {sl : List (Int × Int)} (hf : Fr base d p F) (h : Sy w base d p F f L n sl) (hn : sl.length ≤ 11) (hN : n ≤ 80000) (hm : m < 1290) :
    Calls Tryz.prog 21 #[.pointer (some ⟨d.P, 0, none⟩), .int .i64 p.h, .int .i64 m] w fun e w' => e = .returned (.tuple #[.float .f64 (getF f m), .int .i64 0]) ∧ Ow base w w' ∧ Sy w' base d p F f L (n + 1) (joinS sl (m / 5 : Nat) 1) := by
  have hr : (m : Int).tmod 5 = ((m % 5 : Nat) : Int) := rfl
  have h5 := h.five (m / 5 : Nat)
  go_enter Tryz.func21, Tryz.ntmps21
  go_wp2_with fail
  refine (xblock_in w hf h hn hN hm).mono ?_
  rintro e w1 ⟨v, rfl, k1, h1, o1⟩
  obtain ⟨g, cap, cur, rfl, -, -, hcap, hl, hc⟩ := own_fl o1 (by decide)
  have hlt : m % 5 < (f (m / 5 : Nat)).length := by rw [hl]; omega
  have c0 := hc (m % 5) hlt
  have hx : (f (m / 5 : Nat))[m % 5] = getF f m := by
    unfold getF
    rw [List.getD_eq_getElem?_getD, List.getElem?_eq_getElem hlt, Option.getD_some]
  rw [hx] at c0
  clear hx hlt hc o1 hl h h5
  have hi : ((m % 5 : Nat) : Int) < 5 := by omega
  generalize m % 5 = j at *
  go_wp2_with fail
  go_ret2
  exact ⟨rfl, k1, h1⟩
set_option maxRecDepth 100000 in
set_option maxHeartbeats 2000000 in
theorem xset_in (w : World) {f : Int → List Nat} {L : List (Int × Value)} {n m x : Nat} {sl : List (Int × Int)} (hf : Fr base d p F) (h : Sy w base d p F f L n sl) (hn : sl.length ≤ 11) (hN : n ≤ 80000) (hk : L.length ≤ 15) (hm : m < 1290) (hx : x < 18446744073709551616) :
    Calls Tryz.prog 19 #[.pointer (some ⟨d.P, 0, none⟩), .int .i64 p.h, .int .i64 m, .float .f64 x] w fun e w' => ∃ v, e = .returned (.int .i64 0) ∧ Ow base w w' ∧ Sy w' base d p F (setF f m (canB x)) (putL L (m / 5 : Nat) v) (n + 1) (joinS sl (m / 5 : Nat) 1) := by
  have hr : (m : Int).tmod 5 = ((m % 5 : Nat) : Int) := rfl
  have hq : (m : Int).tdiv 5 = ((m / 5 : Nat) : Int) := rfl
  have h5 := h.five (m / 5 : Nat)
  have hcx := canB_can hx
  go_enter Tryz.func19, Tryz.ntmps19
  go_wp2_with fail
  refine (xblock_in w hf h hn hN hm).mono ?_
  rintro e w1 ⟨v, rfl, k1, h1, o1⟩
  obtain ⟨g, cap, cur, rfl, hgb, hgc, hcap, hl, hc⟩ := own_fl o1 (by decide)
  have hlt : m % 5 < (f (m / 5 : Nat)).length := by rw [hl]; omega
  obtain ⟨u0, c0⟩ : ∃ u, w1.cell? ⟨g, m % 5, none⟩ = some (.float .f64 u) := ⟨_, hc (m % 5) hlt⟩
  have f0 := unfrozen hgc (m % 5)
  have hF : Fl (w1.setCell ⟨g, m % 5, none⟩ (.float .f64 x)) (some ⟨g, 0, none⟩) ((f (m / 5 : Nat)).set (m % 5) x) := by
    refine Or.inr ⟨g, 0, rfl, fun j hj => ?_⟩
    rw [List.length_set] at hj
    rw [Nat.zero_add, List.getElem_set]
    by_cases e : m % 5 = j
    · rw [if_pos e, ← e]
      have hh := heap_set hgc (m % 5) (.float .f64 x) rfl
      refine cell_is hh _ ?_
      have hz : m % 5 < cur.size := by
        have := hc (m % 5) hlt
        rw [cell_of_row _ _ _ _ _ _ hgc] at this
        exact (Array.getElem?_eq_some_iff.1 this).1
      simp [hz]
    · rw [if_neg e]
      have hh := heap_set hgc (m % 5) (.float .f64 x) rfl
      refine cell_is hh _ ?_
      have := hc j hj
      rw [cell_of_row _ _ _ _ _ _ hgc] at this
      rw [Array.getElem?_setIfInBounds, if_neg e]
      exact this
  have kS : Chg [g] w1 (w1.setCell ⟨g, m % 5, none⟩ (.float .f64 x)) := Chg.set w1 g _ _
  have o2 : Ow base w (w1.setCell ⟨g, m % 5, none⟩ (.float .f64 x)) := k1.new_set hgb _ _
  have h2 : Sy (w1.setCell ⟨g, m % 5, none⟩ (.float .f64 x)) base d p F f L (n + 1) (joinS sl (m / 5 : Nat) 1) := ⟨h1.st.keepRow kS hgc (hf.keep _ _ o2 h.st.env), h.five⟩
  have hlen : ((f (m / 5 : Nat)).set (m % 5) x).length = 5 := by rw [List.length_set]; exact hl
  have hlt5 : ((m % 5 : Nat) : Int) < 5 := by omega
  have hxs : ∀ y ∈ (f (m / 5 : Nat)).set (m % 5) x, canB y < 18446744073709551616 := by
    intro y hy
    rcases List.mem_or_eq_of_mem_set hy with hy | rfl
    · rw [canB_self (h5.2 y hy)]; exact (h5.2 y hy).1
    · exact hcx.1
  have HP := Lib.hid (pack_any (w1.setCell ⟨g, m % 5, none⟩ (.float .f64 x)) (c := cap) hlen (by omega) hF hxs)
  have HE : packB ((f (m / 5 : Nat)).set (m % 5) x) = packB (setF f m (canB x) (m / 5 : Nat)) := by rw [packB_set]; unfold setF; rw [if_pos rfl]
  have HE2 := Lib.hid HE
  have hsz : w.heap.size ≤ (w1.setCell ⟨g, m % 5, none⟩ (.float .f64 x)).heap.size := o2.size
  clear hF hc hxs hlen hl kS h1 k1 h5 HE hlt o1 hgc
  generalize m % 5 = j at *
  have hst : ∀ a v m w, (store a (.float .f64 v) m).run Tryz.prog w = stored Tryz.prog w a (.float .f64 v) m := fun a v m w => run_store Tryz.prog w a _ m rfl
  go_wp2_with fail
  refine HP.out.mono ?_
  rintro e w2 ⟨v2, rfl, k2, -, hv⟩
  obtain ⟨g2, c2, rfl, hB2, hg2⟩ := hv (by trivial)
  rw [HE2.out] at hB2
  have h3 := h2.keep hf k2
  have o3 := o2.then k2
  clear hv h2 o2 k2 c0 f0
  go_wp2_with fail
  have kx : Chg [] w2 (w2.alloc (.cells #[.int .i64 (m / 5 : Nat), .slice (some ⟨g2, 0, none⟩) 40 c2] 92)) := Chg.alloc w2 _
  have x0 := heap_new w2 (.cells #[.int .i64 (m / 5 : Nat), .slice (some ⟨g2, 0, none⟩) 40 c2] 92)
  have h5' := setF_five h.five (m := m) hcx
  refine (swrite_x _ hf (h3.keep hf kx).st (by omega) (hroom := hk) (b := (m / 5 : Nat)) (E := w2.heap.size) (eo := 0) (cell_is x0 0 rfl) (cell_is x0 1 rfl) (hB2.chg kx) (by rw [packB_len, (h5' _).1]) (by omega) (by omega)).mono ?_
  rintro e w4 ⟨v4, rfl, o4, h4⟩
  have hfin : Sy w4 base d p F (setF f m (canB x)) (putL L (m / 5 : Nat) v4) (n + 1) (joinS sl (m / 5 : Nat) 1) := by
    refine ⟨?_, h5'⟩
    have he : (putQ (fun b => packB (f b)) (m / 5 : Nat) (packB (setF f m (canB x) (m / 5 : Nat)))) = (fun b => packB (setF f m (canB x) b)) := by
      funext b
      unfold putQ
      by_cases hb : b = ((m / 5 : Nat) : Int)
      · rw [if_pos hb, hb]
      · rw [if_neg hb]; unfold setF; rw [if_neg hb]
    rw [← he]
    exact h4
  have hof := (o3.then kx).trans o4
  clear h h3 h4 o3 o4 kx x0 hB2
  go_wp2_with fail
  go_ret
  exact ⟨v4, rfl, hof, hfin⟩
end Go.Proofs.YtfodeeejolkkfaaGreat
namespace Go.Proofs.YtfodeeejolkkfaaGreat
open Go.RowKit Go.Lib

set_option maxRecDepth 100000 in
theorem rmay_min (w : World) : Calls Tryz.prog 152 #[.agg #[.int .i64 8, .int .i64 96]] w fun e w' => e = .returned (.bool true) ∧ Chg [] w w' := by
  go_enter Tryz.func152, Tryz.ntmps152
  go_wp2_with fail
  go_ret
  exact ⟨rfl, Chg.alloc _ _⟩
set_option maxRecDepth 100000 in
theorem rsplit_min (w : World) : Calls Tryz.prog 91 #[.agg #[.int .i64 8, .int .i64 96]] w fun e w' => e = .returned (.tuple #[.agg #[.int .i64 0, .int .i64 3, .int .i64 6, .int .i64 7], .int .i64 0]) ∧ Chg [] w w' := by
  go_enter Tryz.func91, Tryz.ntmps91
  go_wp2_with fail
  obtain ⟨g0, g1⟩ := two_new w (.cells #[.int .i64 8, .int .i64 96] 80) (.cells #[.int .i64 0, .int .i64 0, .int .i64 0, .int .i64 0] 164)
  have hc := chg_two w (.cells #[.int .i64 8, .int .i64 96] 80) (.cells #[.int .i64 0, .int .i64 0, .int .i64 0, .int .i64 0] 164)
  generalize (w.alloc (.cells #[.int .i64 8, .int .i64 96] 80)).alloc (.cells #[.int .i64 0, .int .i64 0, .int .i64 0, .int .i64 0] 164) = w1 at *
  refine (rmay_min w1).mono ?_
  rintro e w2 ⟨rfl, hc2⟩
  have k0 := hc2.heap g0 (by simp)
  have k1 := hc2.heap g1 (by simp)
  have hc3 := hc.then hc2
  have a0 : w2.cell? ⟨w.heap.size, 0, none⟩ = some (.int .i64 8) := cell_is k0 0 rfl
  have a1 : w2.cell? ⟨w.heap.size, 1, none⟩ = some (.int .i64 96) := cell_is k0 1 rfl
  clear g0 g1 k0 hc hc2
  have b0 := unfrozen k1 0
  have b1 := unfrozen k1 1
  have b2 := unfrozen k1 2
  have b3 := unfrozen k1 3
  have c0 := cell_is k1 0 rfl
  have c1 := cell_is k1 1 rfl
  have c2 := cell_is k1 2 rfl
  have c3 := cell_is k1 3 rfl
  go_wp2_with fail
  refine bodyPost_ret (v := .tuple #[.agg #[.int .i64 0, .int .i64 3, .int .i64 6, .int .i64 7], .int .i64 0]) (by simp [results, Tryz.results91, go_sem, c0, c1, c2, c3]) rfl ?_
  exact ⟨rfl, (((hc3.new_set (by omega) _ _).new_set (by omega) _ _).new_set (by omega) _ _).new_set (by omega) _ _⟩
set_option maxRecDepth 100000 in
theorem rcap_min (w : World) : Calls Tryz.prog 44 #[.agg #[.int .i64 8, .int .i64 96]] w fun e w' => e = .returned (.int .i64 258) ∧ Chg [] w w' := by
  go_enter Tryz.func44, Tryz.ntmps44
  go_wp2_with fail
  have g0 := heap_new w (.cells #[.int .i64 8, .int .i64 96] 80)
  have hc : Chg [] w (w.alloc (.cells #[.int .i64 8, .int .i64 96] 80)) := Chg.alloc _ _
  generalize w.alloc (.cells #[.int .i64 8, .int .i64 96] 80) = w1 at *
  refine (rsplit_min w1).mono ?_
  rintro e w2 ⟨rfl, hc2⟩
  have k0 := hc2.heap g0 (by simp)
  have hc3 := hc.then hc2
  have a1a : ∀ o, (w2.alloc o).cell? ⟨w.heap.size, 1, none⟩ = some (.int .i64 96) := fun o => cell_is (heap_old k0) 1 rfl
  clear g0 k0 hc hc2
  go_wp2_with fail
  go_ret
  exact ⟨rfl, hc3.then_alloc _⟩
set_option maxRecDepth 100000 in
theorem rmap_new (w : World) : Calls Tryz.prog 90 #[.int .i64 258] w fun e w' => ∃ Y, e = .returned (.tuple #[.pointer (some ⟨Y, 0, none⟩), .int .i64 0]) ∧ Chg [] w w' ∧ w.heap.size ≤ Y := by
  go_enter Tryz.func90, Tryz.ntmps90
  go_wp2_with fail
  go_ret2
  exact ⟨_, rfl, Chg.alloc _ _, Nat.le_refl _⟩
/-- block G is a reference's manager that has begun n times. -/
def RmAt (w : World) (G Y : Nat) (a b c : Value) (n : Int) : Prop :=
  w.heap[G]? = some (.cells #[.pointer (some ⟨Y, 0, none⟩), .int .i64 16, a, b, .int .i64 n, c, .slice none 0 0, .slice none 0 0, .int .i64 0, .int .i64 0, .int .i64 0, .int .i64 0, .bool false, .int .i64 258, .int .i64 0] 163 (0, 0))
set_option maxRecDepth 100000 in
theorem rm_new (w : World) : Calls Tryz.prog 43 #[.int .i64 258, .int .i64 0] w fun e w' => ∃ G Y, e = .returned (.tuple #[.pointer (some ⟨G, 0, none⟩), .int .i64 0]) ∧ Chg [] w w' ∧ RmAt w' G Y (.slice none 0 0) (.slice none 0 0) (.slice none 0 0) 0 ∧ w.heap.size ≤ G := by
  go_enter Tryz.func43, Tryz.ntmps43
  go_wp2_with fail
  refine (rmap_new w).mono ?_
  rintro e w1 ⟨Y, rfl, k1, hY⟩
  go_wp2_with fail
  go_ret2
  exact ⟨_, Y, rfl, k1.then_alloc _, heap_new w1 _, k1.size⟩
set_option maxRecDepth 100000 in
theorem rbuf_new (w : World) : Calls Tryz.prog 121 #[.int .i64 258, .int .i64 16] w fun e w' => ∃ Y, e = .returned (.tuple #[.pointer (some ⟨Y, 0, none⟩), .int .i64 0]) ∧ Chg [] w w' ∧ w.heap.size ≤ Y := by
  go_enter Tryz.func121, Tryz.ntmps121
  go_wp2_with fail
  go_ret2
  exact ⟨_, rfl, Chg.alloc _ _, Nat.le_refl _⟩
set_option maxRecDepth 100000 in
theorem rview_new (w : World) (X B : Nat) : Calls Tryz.prog 122 #[.pointer (some ⟨X, 0, none⟩), .pointer (some ⟨B, 0, none⟩), .int .i64 0] w fun e w' => ∃ Y, e = .returned (.pointer (some ⟨Y, 0, none⟩)) ∧ Chg [] w w' ∧ w.heap.size ≤ Y := by
  go_enter Tryz.func122, Tryz.ntmps122
  go_wp2_with fail
  go_ret
  exact ⟨_, rfl, Chg.alloc _ _, Nat.le_refl _⟩
end Go.Proofs.YtfodeeejolkkfaaGreat
namespace Go.Proofs.YtfodeeejolkkfaaGreat
open Go.RowKit Go.Lib

theorem step_append_run {P : Program} {ops : Array Oper} {o : Oper} {a : Act} {w : World} {K : Act → World → Prop} {Q : Exit → Act → World → Prop} {E : Prop} (hgd : o.guard = none) (s x : Operand) (t t' : TypeId)
    (ho : o.op = .call { callee := .builtin .append, args := #[s, x], argTypes := #[t, t'] }) (v y : Value) (hs : a.eval s = v) (hx : a.eval x = y) (v' : Value) (w' : World) (hr : (Builtin.append_ #[t, t'] o.type #[v, y]).run P w = .ok v' w') (h : K (a.put o.dst v') w') :
    if Region.wanted o (yielded ops a.tmps) = true then Oper.wp P o a w K Q else E := by
  have hw : Region.wanted o (yielded ops a.tmps) = true := by simp [Region.wanted, hgd]
  rw [if_pos hw]
  unfold Oper.wp execOp
  simp only [ho, resolve, invoke, builtin, Sem.run_bind, Sem.run_pure, Result.andThen_ok, List.map_toArray, List.map_cons, List.map_nil, hs, hx, hr]
  exact h
theorem ty62 : Tryz.prog.underlying 62 = some (.slice 3) := by kernel_rfl
theorem inf3 : (Tryz.prog.info? 3).map (fun i => (i.zero, i.size, i.bytes)) = some (some (.int .i64 0), 1, 8) := by kernel_rfl
theorem ty161 : Tryz.prog.underlying 161 = some (.slice 206) := by kernel_rfl
theorem inf206 : (Tryz.prog.info? 206).map (fun i => (i.zero, i.size, i.bytes)) = some (some (.pointer none), 1, 8) := by kernel_rfl
/-- nothing is put behind an empty row of ints. -/
theorem append_none (w : World) (z : Nat) (ty : TypeId) : (Builtin.append_ #[62, 62] ty #[.slice (some ⟨z, 0, none⟩) 0 0, .slice none 0 0]).run Tryz.prog w = .ok (.slice (some ⟨z, 0, none⟩) 0 0) w := by
  obtain ⟨i, hi0, hz, hz1, hz2⟩ := info_parts inf3
  simp [Builtin.append_, run_underlying ty62, sizeOf, typeInfo, hi0, Builtin.lenOf, Builtin.firstCells, storeCells]
theorem own0 (w : World) (z : Nat) (hz : w.heap[z]? = some (.cells #[] 3 (0, 0))) : w.ownsRow 0 3 1 (.slice (some ⟨z, 0, none⟩) 0 0) 0 [] :=
  ⟨rfl, Or.inr ⟨z, 0, #[], rfl, Nat.zero_le _, hz, Nat.le_refl _, by unfold maxLen; omega, rfl, rfl⟩⟩
/-- an int is put behind an empty row of ints. -/
theorem step_append_int {ops : Array Oper} {o : Oper} {a : Act} {w : World} {K : Act → World → Prop} {Q : Exit → Act → World → Prop} {E : Prop} (hgd : o.guard = none) (s x : Operand)
    (ho : o.op = .call { callee := .builtin .append, args := #[s, x], argTypes := #[62, 62] }) (z b c : Nat) (k : Int) (hs : a.eval s = .slice (some ⟨z, 0, none⟩) 0 0) (hz : w.heap[z]? = some (.cells #[] 3 (0, 0)))
    (hx : a.eval x = .slice (some ⟨b, 0, none⟩) 1 c) (hb : w.cell? ⟨b, 0, none⟩ = some (.int .i64 k))
    (h : ∀ g cap w', Chg [z] w w' → K (a.put o.dst (.slice (some ⟨g, 0, none⟩) 1 cap)) w') :
    if Region.wanted o (yielded ops a.tmps) = true then Oper.wp Tryz.prog o a w K Q else E := by
  obtain ⟨i, hi0, hz0, hz1, hz2⟩ := info_parts inf3
  refine step_append_lies w hgd s x 62 ho 0 3 i _ 1 8 ty62 hi0 hz0 hz1 hz2 rfl (by decide) _ 0 [] hs (own0 w z hz) ⟨b, 0, none⟩ 1 c [.int .i64 k] hx rfl ?_ ?_ (by decide) (by unfold maxLen; omega) (by omega) (Nat.zero_le _) _ rfl ?_
  · intro j u hu
    rw [add_lit, Nat.zero_add]
    match j with
    | 0 => cases hu; exact hb
    | j + 1 => simp at hu
  · intro u hu
    simp at hu
    subst hu
    rfl
  · intro g cap w' _ h3 _ _
    exact h g cap w' (Chg.of_grown h3)
theorem wpList_append_int {ops : Array Oper} {rest : List Oper} {o : Oper} {a : Act} {w : World} {Q : Exit → Act → World → Prop} (hgd : o.guard = none) (s x : Operand)
    (ho : o.op = .call { callee := .builtin .append, args := #[s, x], argTypes := #[62, 62] }) (z b c : Nat) (k : Int) (hs : a.eval s = .slice (some ⟨z, 0, none⟩) 0 0) (hz : w.heap[z]? = some (.cells #[] 3 (0, 0)))
    (hx : a.eval x = .slice (some ⟨b, 0, none⟩) 1 c) (hb : w.cell? ⟨b, 0, none⟩ = some (.int .i64 k))
    (h : ∀ g cap w', Chg [z] w w' → wpList Tryz.prog ops Q rest (a.put o.dst (.slice (some ⟨g, 0, none⟩) 1 cap)) w') : wpList Tryz.prog ops Q (o :: rest) a w := by
  obtain ⟨i, hi0, hz0, hz1, hz2⟩ := info_parts inf3
  refine wpList_append_lies w hgd s x 62 ho 0 3 i _ 1 8 ty62 hi0 hz0 hz1 hz2 rfl (by decide) _ 0 [] hs (own0 w z hz) ⟨b, 0, none⟩ 1 c [.int .i64 k] hx rfl ?_ ?_ (by decide) (by unfold maxLen; omega) (by omega) (Nat.zero_le _) _ rfl ?_
  · intro j u hu
    rw [add_lit, Nat.zero_add]
    match j with
    | 0 => cases hu; exact hb
    | j + 1 => simp at hu
  · intro u hu
    simp at hu
    subst hu
    rfl
  · intro g cap w' _ h3 _ _
    exact h g cap w' (Chg.of_grown h3)
set_option maxRecDepth 100000 in
set_option maxHeartbeats 4000000 in
theorem rbook_open (w : World) {G Y : Nat} (h : RmAt w G Y (.slice none 0 0) (.slice none 0 0) (.slice none 0 0) 0) : Calls Tryz.prog 120 #[.pointer (some ⟨G, 1, none⟩), .int .i64 0] w fun e w' =>
    ∃ a b, e = .returned (.tuple #[.int .i64 1, .int .i64 0]) ∧ Chg [G] w w' ∧ RmAt w' G Y a b (.slice none 0 0) 1 := by
  have c1 : w.cell? ⟨G, 1, none⟩ = some (.int .i64 16) := cell_is h 1 rfl
  have c2 : w.cell? ⟨G, 2, none⟩ = some (.slice none 0 0) := cell_is h 2 rfl
  have c3 : w.cell? ⟨G, 3, none⟩ = some (.slice none 0 0) := cell_is h 3 rfl
  have c4 : w.cell? ⟨G, 4, none⟩ = some (.int .i64 0) := cell_is h 4 rfl
  have f4 := unfrozen h 4
  go_enter Tryz.func120, Tryz.ntmps120
  go_wp2_with fail
  go_quiet (fail)
  go_upto_region 6 with fail
  have h1 : RmAt ((w.drewN nq).setCell ⟨G, 4, none⟩ (.int .i64 1)) G Y (.slice none 0 0) (.slice none 0 0) (.slice none 0 0) 1 := heap_set (show (w.drewN nq).heap[G]? = _ from h) 4 _ rfl
  have k1 : Chg [G] w ((w.drewN nq).setCell ⟨G, 4, none⟩ (.int .i64 1)) := ((Chg.refl [G] w).drewN nq).then (Chg.set _ G 4 _)
  generalize (w.drewN nq).setCell ⟨G, 4, none⟩ (.int .i64 1) = w1 at *
  clear c1 c2 c3 c4 f4
  have hG := heap_lt h1
  have e2 : w1.cell? ⟨G, 2, none⟩ = some (.slice none 0 0) := cell_is h1 2 rfl
  have e4 : w1.cell? ⟨G, 4, none⟩ = some (.int .i64 1) := cell_is h1 4 rfl
  have e2d : w1.drew.cell? ⟨G, 2, none⟩ = some (.slice none 0 0) := e2
  have e4d : w1.drew.cell? ⟨G, 4, none⟩ = some (.int .i64 1) := e4
  have e2a : ∀ o, (w1.alloc o).cell? ⟨G, 2, none⟩ = some (.slice none 0 0) := fun o => cell_is (heap_old h1) 2 rfl
  have e4a : ∀ o, (w1.alloc o).cell? ⟨G, 4, none⟩ = some (.int .i64 1) := fun o => cell_is (heap_old h1) 4 rfl
  have e2b : ∀ o p, ((w1.alloc o).alloc p).cell? ⟨G, 2, none⟩ = some (.slice none 0 0) := fun o p => cell_is (heap_old (heap_old h1)) 2 rfl
  have e4b : ∀ o p, ((w1.alloc o).alloc p).cell? ⟨G, 4, none⟩ = some (.int .i64 1) := fun o p => cell_is (heap_old (heap_old h1)) 4 rfl
  obtain ⟨zA, bA⟩ := two_new w1 (.cells #[] 3) (.cells #[.int .i64 1] 3)
  obtain ⟨bB, zB⟩ := two_new w1 (.cells #[.int .i64 1] 3) (.cells #[] 3)
  have rA : RmAt ((w1.alloc (.cells #[] 3)).alloc (.cells #[.int .i64 1] 3)) G Y (.slice none 0 0) (.slice none 0 0) (.slice none 0 0) 1 := heap_old (heap_old h1)
  have rB : RmAt ((w1.alloc (.cells #[.int .i64 1] 3)).alloc (.cells #[] 3)) G Y (.slice none 0 0) (.slice none 0 0) (.slice none 0 0) 1 := heap_old (heap_old h1)
  have kA := (Chg.refl [G] w1).drew.then_alloc (.cells #[] 3) |>.then_alloc (.cells #[.int .i64 1] 3)
  have kB := (Chg.refl [G] w1).drew.then_alloc (.cells #[.int .i64 1] 3) |>.then_alloc (.cells #[] 3)
  have nA : G ∉ [w1.heap.size] := by simp; omega
  have nB : G ∉ [w1.heap.size + 1] := by simp; omega
  go_cut [5] from 29 (fun e wx => e = .int .i64 0 ∧ ∃ a, RmAt wx G Y a (.slice none 0 0) (.slice none 0 0) 1 ∧ Chg [G] w wx)
  case first =>
    go_region_law
      (first
        | (refine step_append_run rfl (.tmp 30) (.tmp 34) 62 62 rfl _ _ rfl rfl _ _ (append_none _ _ _) ?_)
        | (refine step_append_int rfl (.tmp 35) (.tmp 40) rfl w1.heap.size (w1.heap.size + 1) 1 1 rfl zA rfl (cell_is bA 0 rfl) ?_; intro g5 cp5 w5 k5; have r5 := k5.heap rA nA; have c5 := cell_is r5 2 rfl; have f5 := unfrozen r5 2; have k6 : Chg [G] w1 w5 := kA.trans k5 (by intro x hx hlt; rw [List.mem_singleton] at hx; omega))
        | (refine step_append_int rfl (.tmp 35) (.tmp 40) rfl (w1.heap.size + 1) w1.heap.size 1 1 rfl zB rfl (cell_is bB 0 rfl) ?_; intro g5 cp5 w5 k5; have r5 := k5.heap rB nB; have c5 := cell_is r5 2 rfl; have f5 := unfrozen r5 2; have k6 : Chg [G] w1 w5 := kB.trans k5 (by intro x hx hlt; rw [List.mem_singleton] at hx; omega)))
    all_goals
      have r6 : RmAt (w5.setCell ⟨G, 2, none⟩ (.slice (some ⟨g5, 0, none⟩) 1 cp5)) G Y (.slice (some ⟨g5, 0, none⟩) 1 cp5) (.slice none 0 0) (.slice none 0 0) 1 := heap_set r5 2 _ rfl
      have k7 := (k1.then k6).then (Chg.set w5 G 2 (.slice (some ⟨g5, 0, none⟩) 1 cp5))
      clear k6 r5 c5 f5
      go_wp2_with fail
      go_meet
      exact ⟨rfl, _, r6, k7⟩
  case rest =>
    obtain ⟨rfl, a, h7, k7⟩ := hcut
    clear k1 h1 e2 e4 e2d e4d e2a e4a e2b e4b zA bA zB bB rA rB kA kB nA nB hG h
    have hG := heap_lt h7
    have c3 : wc.cell? ⟨G, 3, none⟩ = some (.slice none 0 0) := cell_is h7 3 rfl
    have c3a : ∀ o, (wc.alloc o).cell? ⟨G, 3, none⟩ = some (.slice none 0 0) := fun o => cell_is (heap_old h7) 3 rfl
    have c4 : wc.cell? ⟨G, 4, none⟩ = some (.int .i64 1) := cell_is h7 4 rfl
    obtain ⟨zA, bA⟩ := two_new wc (.cells #[] 3) (.cells #[.int .i64 0] 3)
    have rA : RmAt ((wc.alloc (.cells #[] 3)).alloc (.cells #[.int .i64 0] 3)) G Y a (.slice none 0 0) (.slice none 0 0) 1 := heap_old (heap_old h7)
    have kA := (Chg.refl [G] wc).then_alloc (.cells #[] 3) |>.then_alloc (.cells #[.int .i64 0] 3)
    have nA : G ∉ [wc.heap.size] := by simp; omega
    have HF := Lib.hid (fun (g5 cp5 : Nat) (w5 : World) (k5 : Chg [wc.heap.size] ((wc.alloc (.cells #[] 3)).alloc (.cells #[.int .i64 0] 3)) w5) =>
      (show RmAt (w5.setCell ⟨G, 3, none⟩ (.slice (some ⟨g5, 0, none⟩) 1 cp5)) G Y a (.slice (some ⟨g5, 0, none⟩) 1 cp5) (.slice none 0 0) 1 ∧ Chg [G] w (w5.setCell ⟨G, 3, none⟩ (.slice (some ⟨g5, 0, none⟩) 1 cp5)) from
        ⟨heap_set (k5.heap rA nA) 3 _ rfl, (k7.then (kA.trans k5 (by intro x hx hlt; rw [List.mem_singleton] at hx; omega))).then (Chg.set w5 G 3 _)⟩))
    go_wp2_with (at_builtin; first
      | (refine Lib.wpList_append_run _ rfl (.tmp 45) (.tmp 49) 62 62 rfl _ _ rfl rfl _ _ (append_none _ _ _) ?_)
      | (refine wpList_append_int rfl (.tmp 50) (.tmp 52) rfl wc.heap.size (wc.heap.size + 1) 1 0 rfl zA rfl (cell_is bA 0 rfl) ?_; intro g5 cp5 w5 k5; have r5 := k5.heap rA nA; have c5 := cell_is r5 3 rfl; have f5 := unfrozen r5 3; have c6 : (w5.setCell ⟨G, 3, none⟩ (.slice (some ⟨g5, 0, none⟩) 1 cp5)).cell? ⟨G, 4, none⟩ = some (.int .i64 1) := cell_is (heap_set r5 3 _ rfl) 4 rfl))
    go_ret2
    have hf := HF.out g5 cp5 w5 k5
    exact ⟨_, _, rfl, hf.2, hf.1⟩
end Go.Proofs.YtfodeeejolkkfaaGreat
namespace Go.Proofs.YtfodeeejolkkfaaGreat
open Go.RowKit Go.Lib

/-- a pointer is put behind nothing. -/
theorem step_append_ptr {ops : Array Oper} {o : Oper} {a : Act} {w : World} {K : Act → World → Prop} {Q : Exit → Act → World → Prop} {E : Prop} (hgd : o.guard = none) (s x : Operand)
    (ho : o.op = .call { callee := .builtin .append, args := #[s, x], argTypes := #[161, 161] }) (b c : Nat) (k : Value) (hs : a.eval s = .slice none 0 0)
    (hx : a.eval x = .slice (some ⟨b, 0, none⟩) 1 c) (hb : w.cell? ⟨b, 0, none⟩ = some k) (hk : k.oneCell' = true)
    (h : ∀ g cap w', Chg [] w w' → K (a.put o.dst (.slice (some ⟨g, 0, none⟩) 1 cap)) w') :
    if Region.wanted o (yielded ops a.tmps) = true then Oper.wp Tryz.prog o a w K Q else E := by
  obtain ⟨i, hi0, hz0, hz1, hz2⟩ := info_parts inf206
  refine step_append_lies w hgd s x 161 ho 0 206 i _ 1 8 ty161 hi0 hz0 hz1 hz2 rfl (by decide) _ 0 [] hs (World.ownsRow_nil _ _ _ _) ⟨b, 0, none⟩ 1 c [k] hx rfl ?_ ?_ (by decide) (by unfold maxLen; omega) (by omega) (Nat.zero_le _) _ rfl ?_
  · intro j u hu
    rw [add_lit, Nat.zero_add]
    match j with
    | 0 => cases hu; exact hb
    | j + 1 => simp at hu
  · intro u hu
    simp at hu
    subst hu
    exact hk
  · intro g cap w' _ h3 _ _
    exact h g cap w' (Chg.of_grown0 h3)
set_option maxRecDepth 100000 in
set_option maxHeartbeats 8000000 in
theorem rbegin_one (w : World) {G Y : Nat} (h : RmAt w G Y (.slice none 0 0) (.slice none 0 0) (.slice none 0 0) 0) : Calls Tryz.prog 64 #[.pointer (some ⟨G, 0, none⟩)] w fun e w' =>
    e = .returned (.tuple #[.int .i64 1, .int .i64 0]) ∧ Chg [G] w w' := by
  have c11 : w.cell? ⟨G, 11, none⟩ = some (.int .i64 0) := cell_is h 11 rfl
  go_enter Tryz.func64, Tryz.ntmps64
  go_wp2_with fail
  go_region_held3 (fun wx => wx.cell? ⟨G, 11, none⟩ = some (.int .i64 0)) (first | (exact c11) | (exact cell_is h2 11 rfl))
    (first | (go_at_call 120; refine (rbook_open w.drew (G := G) (Y := Y) h).mono ?_; rintro e w2 ⟨a, b, rfl, k2, h2⟩))
  have k2' := (Chg.refl [G] w).drew.then k2
  clear c11 k2 h
  have c13 : w2.cell? ⟨G, 13, none⟩ = some (.int .i64 258) := cell_is h2 13 rfl
  go_wp2_with fail
  refine (rbuf_new w2).mono ?_
  rintro e w3 ⟨U, rfl, k3, -⟩
  have h3 : RmAt w3 G Y a b (.slice none 0 0) 1 := k3.heap h2 (by simp)
  have k3' := k2'.then (k3.mono (T := [G]) (fun x hx _ => by cases hx))
  clear c13 h2 k2' k3
  go_wp2_with fail
  have e5 : w3.cell? ⟨G, 5, none⟩ = some (.slice none 0 0) := cell_is h3 5 rfl
  have e0 : w3.cell? ⟨G, 0, none⟩ = some (.pointer (some ⟨Y, 0, none⟩)) := cell_is h3 0 rfl
  have e11 : w3.cell? ⟨G, 11, none⟩ = some (.int .i64 0) := cell_is h3 11 rfl
  have e5d : w3.drew.cell? ⟨G, 5, none⟩ = some (.slice none 0 0) := e5
  have e0d : w3.drew.cell? ⟨G, 0, none⟩ = some (.pointer (some ⟨Y, 0, none⟩)) := e0
  have e11d : w3.drew.cell? ⟨G, 11, none⟩ = some (.int .i64 0) := e11
  go_region_law
    (first
      | (go_simp; go_at_call 122; refine (rview_new w3.drew Y U).mono ?_; rintro e w4 ⟨D, rfl, k4, -⟩; have h4 : RmAt w4 G Y a b (.slice none 0 0) 1 := k4.heap h3 (by simp); have g5 := cell_is h4 5 rfl; have g5a : ∀ o, (w4.alloc o).cell? ⟨G, 5, none⟩ = some (.slice none 0 0) := (fun o => cell_is (heap_old h4) 5 rfl); have g5b : ∀ o p, ((w4.alloc o).alloc p).cell? ⟨G, 5, none⟩ = some (.slice none 0 0) := (fun o p => cell_is (heap_old (heap_old h4)) 5 rfl); have x1 := (two_new w4 (.cells #[.int .i64 1, .int .i64 0, .int .i64 0, .pointer (some ⟨D, 0, none⟩), .pointer (some ⟨U, 0, none⟩)] 210) (.cells #[.pointer (some ⟨w4.heap.size, 0, none⟩)] 206)).2; have h6 : RmAt ((w4.alloc (.cells #[.int .i64 1, .int .i64 0, .int .i64 0, .pointer (some ⟨D, 0, none⟩), .pointer (some ⟨U, 0, none⟩)] 210)).alloc (.cells #[.pointer (some ⟨w4.heap.size, 0, none⟩)] 206)) G Y a b (.slice none 0 0) 1 := heap_old (heap_old h4))
      | (refine step_append_ptr rfl (.tmp 34) (.tmp 48) rfl (w4.heap.size + 1) 1 _ rfl rfl (cell_is x1 0 rfl) rfl ?_; intro q5 cp5 w5 k5; have h7 : RmAt w5 G Y a b (.slice none 0 0) 1 := k5.heap h6 (by simp); have c7 := cell_is h7 5 rfl; have f7 := unfrozen h7 5))
  all_goals
    have kf : Chg [G] w (w5.setCell ⟨G, 5, none⟩ (.slice (some ⟨q5, 0, none⟩) 1 cp5)) := ((((k3'.drew.then (k4.mono (T := [G]) (fun x hx _ => by cases hx))).then_alloc _).then_alloc _).then (k5.mono (T := [G]) (fun x hx _ => by cases hx))).then (Chg.set w5 G 5 _)
    clear h4 g5 g5a g5b x1 h6 h7 c7 f7 k4 k5
    go_wp2_with fail
    go_ret2
    exact ⟨rfl, kf⟩
end Go.Proofs.YtfodeeejolkkfaaGreat
namespace Go.Proofs.YtfodeeejolkkfaaGreat
open Go.RowKit Go.Lib

/-- a sum, any NaN as the one. -/
def addC (a b : Nat) : Nat := match Ieee.double.add a b with | some d => canB d | none => nanB
theorem addC_can (a b : Nat) : CanB (addC a b) := by
  unfold addC
  cases h : Ieee.double.add a b with
  | none => exact ⟨by decide, fun _ => rfl⟩
  | some d => exact canB_can (Ieee.double.add_lt h)
theorem run_add (a b : Nat) (w : World) : ∃ c w', (binOp .add 42 (.float .f64 a) (.float .f64 b)).run Tryz.prog w = .ok (.float .f64 c) w' ∧ canB c = addC a b ∧ c < 18446744073709551616 ∧ Chg [] w w' := by
  cases h : Ieee.double.add a b with
  | some d =>
    exact ⟨d, w, run_float_arith w .add 42 .f64 a b d h, by unfold addC; rw [h], Ieee.double.add_lt h, Chg.refl _ _⟩
  | none =>
    refine ⟨(Question.nanBits .f64 a b).cut (w.tape w.drawn (.nanBits .f64 a b)), w.drew, ?_, ?_, ?_, (Chg.refl _ _).drew⟩
    · have h' : FloatKind.f64.format.add a b = none := h
      simp [binOp, Op.floatArith, h', Question.forced]
    · have : isNaNB ((Question.nanBits .f64 a b).cut (w.tape w.drawn (.nanBits .f64 a b))) = true := by
        show isNaNB ((w.tape w.drawn (.nanBits .f64 a b) % 2) * 9223372036854775808 + 9218868437227405312 + 1 + (w.tape w.drawn (.nanBits .f64 a b) / 2) % 4503599627370495) = true
        have h1 : w.tape w.drawn (.nanBits .f64 a b) % 2 < 2 := Nat.mod_lt _ (by decide)
        have h2 : (w.tape w.drawn (.nanBits .f64 a b) / 2) % 4503599627370495 < 4503599627370495 := Nat.mod_lt _ (by decide)
        generalize w.tape w.drawn (.nanBits .f64 a b) % 2 = u at *
        generalize (w.tape w.drawn (.nanBits .f64 a b) / 2) % 4503599627370495 = q at *
        unfold isNaNB magB
        refine decide_eq_true ?_
        rcases (by omega : u = 0 ∨ u = 1) with rfl | rfl <;> omega
      unfold canB addC
      rw [if_pos this, h]
    · show (w.tape w.drawn (.nanBits .f64 a b) % 2) * 9223372036854775808 + 9218868437227405312 + 1 + (w.tape w.drawn (.nanBits .f64 a b) / 2) % 4503599627370495 < 18446744073709551616
      have h1 : w.tape w.drawn (.nanBits .f64 a b) % 2 < 2 := Nat.mod_lt _ (by decide)
      have h2 : (w.tape w.drawn (.nanBits .f64 a b) / 2) % 4503599627370495 < 4503599627370495 := Nat.mod_lt _ (by decide)
      omega
set_option maxRecDepth 100000 in
set_option maxHeartbeats 1000000 in
theorem cadd_in (w : World) {base : Nat} {d : Ids} {f : Int → List Nat} {n k m x : Nat} (h : Sn w base d f n k) (hn : n ≤ 10) (hk : k ≤ 15) (hm : m < 1290) :
    Calls Tryz.prog 20 #[.pointer (some ⟨d.P, 0, none⟩), .int .i64 1, .int .i64 m, .float .f64 x] w fun e w' => e = .returned (.tuple #[.float .f64 (addC (getF f m) x), .int .i64 0]) ∧ Ow base w w' ∧ Sn w' base d (setF f m (addC (getF f m) x)) (n + 2) (k + 1) := by
  have hy := addC_can (getF f m) x
  have HY := Lib.hid (canB_self hy)
  go_enter Tryz.func20, Tryz.ntmps20
  go_wp2_with fail
  refine (cget_in w h (by omega) hm).mono ?_
  rintro e w1 ⟨rfl, k1, h1⟩
  obtain ⟨c, w2, ha, hc, hclt, k2⟩ := run_add (getF f m) x w1
  have HC := Lib.hid hc
  clear hc
  have h2 := h1.keep k2
  have o2 := k1.then k2
  go_wp2_with fail
  refine (fbits_any c w2).mono ?_
  rintro e w3 ⟨rfl, rfl⟩
  rw [HC.out]
  go_wp2_with fail
  refine (fromBits_any _ w2).mono ?_
  rintro e w3 ⟨rfl, rfl⟩
  rw [HY.out]
  go_wp2_with fail
  refine (cset_in w2 h2 (by omega) hk hm hy.1).mono ?_
  rintro e w4 ⟨rfl, o4, h4⟩
  rw [HY.out] at h4
  have o5 := o2.trans o4
  clear h h1 h2 k1 k2 o2 o4 ha
  go_wp2_with fail
  go_ret2
  exact ⟨rfl, o5, h4⟩
set_option maxRecDepth 100000 in
theorem cadd_out (w : World) {base : Nat} {d : Ids} {f : Int → List Nat} {n k x : Nat} {i : Int} (h : Sn w base d f n k) (hi : i < 0 ∨ 1290 ≤ i) :
    Calls Tryz.prog 20 #[.pointer (some ⟨d.P, 0, none⟩), .int .i64 1, .int .i64 i, .float .f64 x] w fun e w' => e = .returned (.tuple #[.float .f64 0, .int .i64 2]) ∧ Chg [] w w' := by
  go_enter Tryz.func20, Tryz.ntmps20
  go_wp2_with fail
  refine (cget_out w h hi).mono ?_
  rintro e w1 ⟨rfl, k1⟩
  go_wp2_with fail
  go_ret2
  exact ⟨rfl, k1⟩
end Go.Proofs.YtfodeeejolkkfaaGreat
namespace Go.Proofs.YtfodeeejolkkfaaGreat
open Go.RowKit Go.Lib

/-- a mounted store without transactions, all of it below base. -/
structure Sm (w : World) (base N A c : Nat) (Z : List Nat) (P S M X rx B rb r : Nat) : Prop where
  store : StoreAt w P N S (some ⟨M, 0, none⟩)
  dev : ∃ ops, DevAt w N A c ops Z
  mg : Mg w M X rx B rb r 0 [] []
  low : P < base ∧ N < base ∧ A < base ∧ M < base ∧ X < base ∧ rx < base ∧ B < base ∧ rb < base ∧ r < base
  lowZ : ∀ z ∈ Z, z < base
  ap : ∀ x, x = N ∨ x = A ∨ x ∈ Z → x ≠ B ∧ x ≠ rb ∧ x ≠ r
theorem Sm.keep {w w' : World} {T : List Nat} {base N A c : Nat} {Z : List Nat} {P S M X rx B rb r : Nat} (h : Sm w base N A c Z P S M X rx B rb r) (hc : Chg T w w') (hT : ∀ x ∈ T, base ≤ x) : Sm w' base N A c Z P S M X rx B rb r := by
  obtain ⟨l1, l2, l3, l4, l5, l6, l7, l8, l9⟩ := h.low
  have n : ∀ x, x < base → x ∉ T := fun x hx hm => by have := hT x hm; omega
  obtain ⟨ops, hd⟩ := h.dev
  have m := h.mg
  exact ⟨h.store.keep hc (n _ l1), ⟨ops, hd.keep hc (n _ l2) (n _ l3) (fun z hz => n _ (h.lowZ z hz))⟩,
    ⟨hc.heap m.mgr (n _ l4), ⟨hc.heap m.ver.1 (n _ l5), m.ver.2.keep hc (n _ l6)⟩, m.book.keep hc (n _ l7) (n _ l8), m.map.keep hc (n _ l9), m.n1, m.n2, m.n3⟩, h.low, h.lowZ, h.ap⟩
/-- cells that were never set. -/
def f0 : Int → List Nat := fun _ => [0, 0, 0, 0, 0]
theorem f0_five : ∀ b, (f0 b).length = 5 ∧ ∀ x ∈ f0 b, CanB x := fun b => ⟨rfl, fun x hx => by
  simp [f0] at hx
  subst hx
  exact ⟨by decide, fun h => absurd h (by decide)⟩⟩
/-- block K is a world of law 26: its store P, its reference G, its handle h. -/
def WdAt (w : World) (K P G : Nat) (h : Int) : Prop := w.heap[K]? = some (.cells #[.pointer (some ⟨P, 0, none⟩), .pointer (some ⟨G, 0, none⟩), .int .i64 h] 48 (0, 0))
set_option maxRecDepth 100000 in
set_option maxHeartbeats 1000000 in
theorem wbegin (w : World) {base N A c : Nat} {Z : List Nat} {P S M X rx B rb r K G Y : Nat} (h : Sm w base N A c Z P S M X rx B rb r) (hG : RmAt w G Y (.slice none 0 0) (.slice none 0 0) (.slice none 0 0) 0) (hK : WdAt w K P G 0) (hb : base ≤ G ∧ base ≤ K) :
    Calls Tryz.prog 45 #[.pointer (some ⟨K, 0, none⟩)] w fun e w' => e = .returned (.bool true) ∧ ∃ d, d.P = P ∧ Chg [K, G, B, rb, r] w w' ∧ Sn w' w.heap.size d f0 0 0 ∧ WdAt w' K P G 1 := by
  have c0 : w.cell? ⟨K, 0, none⟩ = some (.pointer (some ⟨P, 0, none⟩)) := cell_is hK 0 rfl
  obtain ⟨l1, l2, l3, l4, l5, l6, l7, l8, l9⟩ := h.low
  have hGl := heap_lt hG
  have hKG : K ≠ G := heap_ne hK hG (by simp)
  go_enter Tryz.func45, Tryz.ntmps45
  go_wp2_with fail
  refine (sbegin_any w h.store h.mg).mono ?_
  rintro e w1 ⟨T, W, rw, Q, V, rfl, k1, hP1, hM1, hT1, n1, n2, n3, b1, b2, b3⟩
  have nK : K ∉ [B, rb, r] := by simp; omega
  have nG : G ∉ [B, rb, r] := by simp; omega
  have hK1 : WdAt w1 K P G 0 := k1.heap hK nK
  have hG1 := k1.heap hG nG
  obtain ⟨ops, hd⟩ := h.dev
  have hne : ∀ x, x = N ∨ x = A ∨ x ∈ Z → x ∉ [B, rb, r] := fun x hx => by have := h.ap x hx; simp; omega
  have hd1 := hd.keep k1 (hne _ (Or.inl rfl)) (hne _ (Or.inr (Or.inl rfl))) (fun z hz => hne _ (Or.inr (Or.inr hz)))
  have c1 : w1.cell? ⟨K, 1, none⟩ = some (.pointer (some ⟨G, 0, none⟩)) := cell_is hK1 1 rfl
  go_wp2_with fail
  refine (rbegin_one w1 hG1).mono ?_
  rintro e w2 ⟨rfl, k2⟩
  have hK2 : WdAt w2 K P G 0 := k2.heap hK1 (by simpa using hKG)
  have c2 : w2.cell? ⟨K, 2, none⟩ = some (.int .i64 0) := cell_is hK2 2 rfl
  have f2 := unfrozen hK2 2
  have k3 := Chg.set w2 K 2 (.int .i64 1)
  have hK3 : WdAt (w2.setCell ⟨K, 2, none⟩ (.int .i64 1)) K P G 1 := heap_set hK2 2 _ rfl
  have kk : Chg [G, K] w1 (w2.setCell ⟨K, 2, none⟩ (.int .i64 1)) := (k2.mono (fun x hx _ => by simp at hx; simp [hx])).then (k3.mono (fun x hx _ => by simp at hx; simp [hx]))
  have hhi : ∀ x ∈ [G, K], base ≤ x := fun x hx => by simp at hx; omega
  have hKl := heap_lt hK
  have ha : Sta w1 base ⟨P, N, S, M, X, rx, B, rb, r, A, c, Z, T, W, rw, Q, V⟩ := ⟨hP1, ⟨ops, hd1⟩, hM1, h.low, h.lowZ⟩
  have ha2 := ha.keep kk hhi
  have hav : ∀ ts, 163 ∉ ts → 48 ∉ ts → Av w1 [G, K] ts := fun ts h1 h2 x hx cs t fr hh => by
    simp at hx
    rcases hx with rfl | rfl
    · rw [show w1.heap[x]? = _ from hG1] at hh; cases hh; exact h1
    · rw [show w1.heap[x]? = _ from hK1] at hh; cases hh; exact h2
  have nmap : ∀ {x L}, MapAt w1 x L → x ∉ [G, K] := fun hm hx => by
    simp at hx
    rcases hx with rfl | rfl
    · exact map_cells hm (show w1.heap[_]? = _ from hG1) rfl
    · exact map_cells hm (show w1.heap[_]? = _ from hK1) rfl
  have hfin : Sn (w2.setCell ⟨K, 2, none⟩ (.int .i64 1)) w.heap.size ⟨P, N, S, M, X, rx, B, rb, r, A, c, Z, T, W, rw, Q, V⟩ f0 0 0 := by
    have hv1 : Vw w1 w.heap.size Q X W V 0 := ⟨_, 0, [], hT1.view, Nat.le_refl _, World.ownsRow_nil _ _ _ _⟩
    have hs1 : SpV w1 w.heap.size V 0 := ⟨_, [], hT1.spans, Nat.le_refl _, World.ownsRow_nil _ _ _ _⟩
    refine ⟨⟨⟨ha2.store, ha2.dev, ha2.mg, ⟨by show P < _; omega, by show N < _; omega, by show A < _; omega, by show M < _; omega, by show X < _; omega, by show rx < _; omega, by show B < _; omega, by show rb < _; omega, by show r < _; omega⟩, fun z hz => by have := h.lowZ z hz; omega⟩, kk.heap hT1.tx ((hav [173] (by simp) (by simp)).ne hT1.tx (by simp)),
      ⟨[], hT1.buf.keep kk ((hav [272] (by simp) (by simp)).ne hT1.buf.1 (by simp)) (nmap hT1.buf.2), Nat.le_refl _, fun b _ _ => Or.inl ⟨rfl, zero_pack⟩⟩,
      hv1.keep kk (hav _ (by simp) (by simp)), hs1.keep kk (hav _ (by simp) (by simp)), b2, b3, b1⟩, f0_five⟩
  have hch : Chg [K, G, B, rb, r] w (w2.setCell ⟨K, 2, none⟩ (.int .i64 1)) := (k1.mono (fun x hx _ => by simp at hx; simp; omega)).then (kk.mono (fun x hx _ => by simp at hx; simp; omega))
  clear h ha ha2 hd hd1 hG hG1 hK1 hK2 k1 k2 k3 kk hM1 hT1 hP1 hav nmap
  go_wp2_with fail
  go_ret
  exact ⟨rfl, _, rfl, hch, hfin, hK3⟩
end Go.Proofs.YtfodeeejolkkfaaGreat
namespace Go.Proofs.YtfodeeejolkkfaaGreat
open Go.RowKit Go.Lib

/-- a new world of law 26: all of it lies behind w. -/
def FrR (w : World) (e : Ending) (w' : World) : Prop :=
  ∃ base d K G, e = .returned (.tuple #[.pointer (some ⟨K, 0, none⟩), .bool true]) ∧ Chg [] w w' ∧ Sn w' base d f0 0 0 ∧ WdAt w' K d.P G 1 ∧ w.heap.size ≤ base
set_option maxRecDepth 100000 in
set_option maxHeartbeats 2000000 in
theorem fresh_any (w : World) : Calls Tryz.prog 16 #[] w (FrR w) := by
  have kg : Chg [] w (w.alloc (.cells #[.int .i64 8, .int .i64 96] 80)) := Chg.alloc w _
  have g0 := heap_new w (.cells #[.int .i64 8, .int .i64 96] 80)
  have a0 : (w.alloc (.cells #[.int .i64 8, .int .i64 96] 80)).cell? ⟨w.heap.size, 0, none⟩ = some (.int .i64 8) := cell_is g0 0 rfl
  have a1 : (w.alloc (.cells #[.int .i64 8, .int .i64 96] 80)).cell? ⟨w.heap.size, 1, none⟩ = some (.int .i64 96) := cell_is g0 1 rfl
  go_enter Tryz.func16, Tryz.ntmps16
  go_wp2_with fail
  generalize w.alloc (.cells #[.int .i64 8, .int .i64 96] 80) = w0 at *
  have hw0 := kg.size
  generalize hz0 : w.heap.size = z0 at *
  refine (new_any w0).mono ?_
  rintro e w1 ⟨N, A, c, Z, rfl, k1, hD, hO, lN, lA, lZ⟩
  have g1 := k1.heap g0 (by simp)
  have hs1 := k1.size
  have hAl := hD.A_lt
  have hNl := heap_lt hD.1
  have hZl : ∀ z ∈ Z, z < w1.heap.size := fun z hz => by
    obtain ⟨j, hj, e⟩ := List.getElem_of_mem hz
    rw [← e]
    exact heap_lt (hD.2.2.2.2 j hj)
  clear a0 a1
  go_wp2_with fail
  refine (mount_any w1 hD hO hZl (by omega) (by omega)).mono ?_
  rintro e w2 ⟨P, S, M, X, rx, B, rb, r, rfl, hM, lP, lS, lM, lX, lrx, lB, lrb, lr, n1, n2, n3⟩
  obtain ⟨k2, hD2, hP2, hS2, hm2, hx2, hb2, hr2⟩ := hM
  have h0l := heap_lt g0
  have g2 := k2.heap g1 (by
    intro hm
    rcases List.mem_cons.1 hm with e | hm
    · omega
    · have := lZ _ hm; omega)
  have hs2 := k2.size
  have b0 : w2.cell? ⟨z0, 0, none⟩ = some (.int .i64 8) := cell_is g2 0 rfl
  have b1 : w2.cell? ⟨z0, 1, none⟩ = some (.int .i64 96) := cell_is g2 1 rfl
  have hSm : Sm w2 w2.heap.size N A c Z P S M X rx B rb r := by
    refine ⟨hP2, ⟨_, hD2⟩, ⟨hm2, hx2, hb2, hr2, n1, n2, n3⟩, ?_, fun z hz => Nat.lt_of_lt_of_le (hZl z hz) hs2, ?_⟩
    · have := heap_lt hP2; have := heap_lt hm2; have := heap_lt hx2.1; have := hx2.2.lt; have := heap_lt hb2.1; have := hb2.2.lt; have := hr2.lt; omega
    · rintro x (rfl | rfl | hx)
      · omega
      · omega
      · have := hZl x hx; omega
  have kk2 : Chg [] w w2 := (kg.then k1).trans k2 (fun x hx hlt => by
    rcases List.mem_cons.1 hx with e | hx
    · have := kg.size; omega
    · have := lZ x hx; have := kg.size; omega)
  clear hD hO hP2 hD2 hS2 hm2 hx2 hb2 hr2 k2 g1 g0 k1 kg
  go_wp2_with fail
  refine (rcap_min w2).mono ?_
  rintro e w3 ⟨rfl, k3⟩
  have h3 := hSm.keep k3 (fun x hx => by cases hx)
  have kk3 := kk2.then k3
  have hs3 := k3.size
  clear hSm b0 b1 g2
  go_wp2_with fail
  refine (rm_new w3).mono ?_
  rintro e w4 ⟨G, Y, rfl, k4, hG, lG⟩
  have h4 := h3.keep k4 (fun x hx => by cases hx)
  have kk4 := kk3.then k4
  have hs4 := k4.size
  clear h3
  go_wp2_with fail
  have k5 : Chg [] w4 (w4.alloc (.cells #[.pointer (some ⟨P, 0, none⟩), .pointer (some ⟨G, 0, none⟩), .int .i64 0] 48)) := Chg.alloc w4 _
  have hK := heap_new w4 (.cells #[.pointer (some ⟨P, 0, none⟩), .pointer (some ⟨G, 0, none⟩), .int .i64 0] 48)
  have h5 := h4.keep k5 (fun x hx => by cases hx)
  have hG5 := k5.heap hG (by simp)
  refine (wbegin _ h5 hG5 hK (by omega)).mono ?_
  rintro e w6 ⟨rfl, d, hP, k6, hn, hw⟩
  subst hP
  have hfin : Chg [] w w6 := (kk4.then k5).trans k6 (fun x hx hlt => by
    simp at hx
    have := kk2.size
    omega)
  have hbase : z0 ≤ (w4.alloc (.cells #[.pointer (some ⟨d.P, 0, none⟩), .pointer (some ⟨G, 0, none⟩), .int .i64 0] 48)).heap.size := by have := (kk4.then k5).size; omega
  clear h4 h5 hG hG5 hK k5 k6 kk4 kk3 kk2
  go_wp2_with fail
  go_ret2
  exact ⟨_, d, _, G, rfl, hfin, hn, hw, by rw [hz0]; exact hbase⟩
set_option maxRecDepth 100000 in
theorem round_any (w : World) (i : Int) (_hi : -9223372036854775808 ≤ i ∧ i ≤ 9223372036854775807) : Calls Tryz.prog 17 #[.int .i64 i, .int .i64 1290] w fun e w' => ∃ m : Nat, m < 1290 ∧ e = .returned (.int .i64 m) ∧ w = w' := by
  have h1 : -1290 < i.tmod 1290 ∧ i.tmod 1290 < 1290 := by
    have := Int.tmod_lt_of_pos i (b := 1290) (by omega)
    have := Int.lt_tmod_of_pos i (b := 1290) (by omega)
    omega
  go_enter Tryz.func17, Tryz.ntmps17
  go_wp2_with fail
  · obtain ⟨m, hm⟩ : ∃ m : Nat, i.tmod 1290 + 1290 = m := ⟨(i.tmod 1290 + 1290).toNat, by omega⟩
    go_ret
    exact ⟨m, by omega, by rw [← hm]; rfl, rfl⟩
  · obtain ⟨m, hm⟩ : ∃ m : Nat, i.tmod 1290 = m := ⟨(i.tmod 1290).toNat, by omega⟩
    go_ret
    exact ⟨m, by omega, by rw [← hm]; rfl, rfl⟩
/-- a number's kind, by its bits without the sign. -/
def clsM (m : Nat) : Int := if 9218868437227405312 < m then 1 else if m = 9218868437227405312 then 9 else if m = 0 then 6 else if m < 4503599627370496 then 7 else 8
/-- a number's kind. -/
def clsV (v : Nat) : Int := if 9218868437227405312 < magB v then 1 else if 9223372036854775808 ≤ v then 11 - clsM (magB v) else clsM (magB v)
theorem and_sign {b : Nat} (h : b < 18446744073709551616) : bits .and .u64 (b : Int) 9223372036854775808 = if 9223372036854775808 ≤ b then 9223372036854775808 else 0 := by
  have h1 := u64_and_nat b 9223372036854775808 h (by decide)
  have e : b &&& 9223372036854775808 = if 9223372036854775808 ≤ b then 9223372036854775808 else 0 := by
    apply Nat.eq_of_testBit_eq
    intro i
    rw [Nat.testBit_and, show (9223372036854775808 : Nat) = 2 ^ 63 by decide, Nat.testBit_two_pow]
    by_cases hi : 63 = i
    · subst hi
      rw [Nat.testBit_eq_decide_div_mod_eq]
      by_cases hb : 2 ^ 63 ≤ b
      · rw [if_pos hb, Nat.testBit_two_pow, show b / 2 ^ 63 % 2 = 1 by omega]; rfl
      · rw [if_neg hb, show b / 2 ^ 63 % 2 = 0 by omega]; rfl
    · rw [show decide (63 = i) = false from decide_eq_false hi, Bool.and_false]
      split
      · rw [Nat.testBit_two_pow, decide_eq_false hi]
      · rw [Nat.zero_testBit]
  rw [e] at h1
  by_cases hb : 9223372036854775808 ≤ b
  · rw [if_pos hb] at h1 ⊢; exact h1
  · rw [if_neg hb] at h1 ⊢; exact h1
/-- the same, as the program reckons it. -/
def kI (mi : Int) : Int := bif mi == 9218868437227405312 then 9 else bif mi == 0 then 6 else bif decide (mi < 4503599627370496) then 7 else 8
def clsI (mi si : Int) : Int := bif decide (9218868437227405312 < mi) then 1 else bif si != 0 then 11 - kI mi else kI mi
theorem bif_dec {α : Type} (p : Prop) [Decidable p] (a b : α) : (bif decide p then a else b) = if p then a else b := by by_cases h : p <;> simp [h]
theorem cls_I (v : Nat) : clsV v = clsI (magB v : Nat) (if 9223372036854775808 ≤ v then 9223372036854775808 else 0) := by
  have hk : ∀ m : Nat, ¬ 9218868437227405312 < m → clsM m = kI m := by
    intro m hm
    unfold clsM kI
    rw [if_neg hm]
    rcases Nat.lt_trichotomy m 9218868437227405312 with h | h | h
    · rw [if_neg (by omega), show ((m : Int) == 9218868437227405312) = false from beq_eq_false_iff_ne.2 (by omega), cond_false]
      by_cases h0 : m = 0
      · rw [if_pos h0, show ((m : Int) == 0) = true from beq_iff_eq.2 (by omega), cond_true]
      · rw [if_neg h0, show ((m : Int) == 0) = false from beq_eq_false_iff_ne.2 (by omega), cond_false, bif_dec]
        by_cases h5 : m < 4503599627370496
        · rw [if_pos h5, if_pos (by omega)]
        · rw [if_neg h5, if_neg (by omega)]
    · rw [if_pos h, show ((m : Int) == 9218868437227405312) = true from beq_iff_eq.2 (by omega), cond_true]
    · omega
  unfold clsV clsI
  rw [bif_dec]
  by_cases h : 9218868437227405312 < magB v
  · rw [if_pos h, if_pos (by omega)]
  · have h' : ¬ (9218868437227405312 : Int) < (magB v : Nat) := by omega
    rw [if_neg h, if_neg h', hk _ h]
    by_cases hs : 9223372036854775808 ≤ v
    · simp only [if_pos hs]
      rw [show ((9223372036854775808 : Int) != 0) = true from bne_iff_ne.2 (by omega), cond_true]
    · simp only [if_neg hs]
      rw [show ((0 : Int) != 0) = false from bne_self_eq_false _, cond_false]
set_option maxRecDepth 100000 in
theorem class_any (b : Nat) (w : World) (h : canB b < 18446744073709551616) : Calls Tryz.prog 23 #[.float .f64 b] w fun e w' => e = .returned (.int .i64 (clsV (canB b))) ∧ w = w' := by
  have HB := Lib.hid (rbits_any b w)
  generalize canB b = v at *
  obtain ⟨mi, h1⟩ : ∃ mi, bits .andNot .u64 (v : Int) 9223372036854775808 = mi := ⟨_, rfl⟩
  obtain ⟨si, h2⟩ : ∃ si, bits .and .u64 (v : Int) 9223372036854775808 = si := ⟨_, rfl⟩
  have HE : clsV v = clsI mi si := by rw [cls_I, ← h1, ← h2, andNot_sign h, and_sign h]
  have H := Lib.hid HE
  clear h HE
  go_enter Tryz.func23, Tryz.ntmps23
  go_wp2_with fail
  refine HB.out.mono ?_
  rintro e w' ⟨rfl, rfl⟩
  go_wp2_with fail
  all_goals
    go_ret
    refine ⟨?_, rfl⟩
    rw [H.out]
    unfold clsI kI
    have hd1 : (9218868437227405312 < mi ∧ decide (9218868437227405312 < mi) = true) ∨ (¬ 9218868437227405312 < mi ∧ decide (9218868437227405312 < mi) = false) := by
      by_cases h : 9218868437227405312 < mi
      · exact Or.inl ⟨h, decide_eq_true h⟩
      · exact Or.inr ⟨h, decide_eq_false h⟩
    have hd2 : (mi < 4503599627370496 ∧ decide (mi < 4503599627370496) = true) ∨ (¬ mi < 4503599627370496 ∧ decide (mi < 4503599627370496) = false) := by
      by_cases h : mi < 4503599627370496
      · exact Or.inl ⟨h, decide_eq_true h⟩
      · exact Or.inr ⟨h, decide_eq_false h⟩
    clear H
    rcases hd1 with ⟨hd1, he1⟩ | ⟨hd1, he1⟩
    · first
        | (exfalso; omega)
        | (rw [he1]; rfl)
    · rw [he1]
      rcases hd2 with ⟨hd2, he2⟩ | ⟨hd2, he2⟩
      · first
          | (exfalso; omega)
          | (rw [he2]; simp only [*, cond_true, cond_false]; first | done | rfl)
          | (simp only [*, cond_true, cond_false]; first | done | rfl)
      · first
          | (exfalso; omega)
          | (rw [he2]; simp only [*, cond_true, cond_false]; first | done | rfl)
          | (simp only [*, cond_true, cond_false]; first | done | rfl)
end Go.Proofs.YtfodeeejolkkfaaGreat
namespace Go.Proofs.YtfodeeejolkkfaaGreat
open Go.RowKit Go.Lib

theorem Ow.chg0 {base : Nat} {w w1 w2 : World} (h : Chg [] w w1) (k : Ow base w1 w2) (hb : w.heap.size ≤ base) : Chg [] w w2 := by
  obtain ⟨T, h1, h2⟩ := k
  exact h.trans h1 (fun x hx hlt => by have := (h2 x hx).1; omega)
theorem WdAt.keep {base : Nat} {w w' : World} {K P G : Nat} {h : Int} (hw : WdAt w K P G h) (ho : Ow base w w') : WdAt w' K P G h := ho.heap hw (by simp)
theorem canS : canB 9223372036854775808 = 9223372036854775808 := by decide +kernel
theorem clsS : clsV 9223372036854775808 = 5 := by decide +kernel
theorem getS : getF (setF f0 7 9223372036854775808) 7 = 9223372036854775808 := by rw [getF_set _ _ _ _ (fun b => (f0_five b).1), if_pos rfl]
set_option maxRecDepth 100000 in
set_option maxHeartbeats 2000000 in
theorem awake_any (w : World) : Calls Tryz.prog 9 #[] w fun e w' => e = .returned (.bool true) ∧ Chg [] w w' := by
  obtain ⟨S, hS⟩ : ∃ S, S = 9223372036854775808 := ⟨_, rfl⟩
  have HF := Lib.hid (fun w => rfrom_any S w (by rw [hS]; decide))
  have hcS : canB S = S := by rw [hS]; exact canS
  have HC := Lib.hid hcS
  have HL := Lib.hid (show clsV S = 5 by rw [hS]; exact clsS)
  have HG := Lib.hid (show getF (setF f0 7 S) 7 = S by rw [hS]; exact getS)
  have hlt := Lib.hid (show S < 18446744073709551616 by rw [hS]; decide)
  have hS' := Lib.hid hS
  clear hS hcS
  go_enter Tryz.func9, Tryz.ntmps9
  go_wp2_with fail
  refine (fresh_any w).mono ?_
  rintro e w1 ⟨base, d, K, G, rfl, k1, hn, hw, hb⟩
  have c0 : w1.cell? ⟨K, 0, none⟩ = some (.pointer (some ⟨d.P, 0, none⟩)) := cell_is hw 0 rfl
  have c2 : w1.cell? ⟨K, 2, none⟩ = some (.int .i64 1) := cell_is hw 2 rfl
  go_wp2_with fail
  go_region_held3 (fun wx => wx.cell? ⟨K, 0, none⟩ = some (.pointer (some ⟨d.P, 0, none⟩)) ∧ wx.cell? ⟨K, 2, none⟩ = some (.int .i64 1))
    (first | (exact ⟨c0, c2⟩) | (exact ⟨cell_is hw3 0 rfl, cell_is hw3 2 rfl⟩))
    (first
      | (go_at_call 18; rw [show (9223372036854775808 : Int) = ((S : Nat) : Int) from by rw [hS'.out]; rfl]; refine (HF.out w1.drew).mono ?_; rintro e w2 ⟨rfl, rfl⟩; rw [HC.out])
      | (go_at_call 19; refine (cset_in w1.drew (m := 7) (hn.keep (Chg.refl [] w1).drew) (by omega) (by omega) (by omega) hlt.out).mono ?_; rintro e w3 ⟨rfl, o3, h3⟩; have hw3 := hw.keep ((Ow.of_chg (base := base) (Chg.refl [] w1).drew).trans o3)))
  rw [HC.out] at h3
  have k3 := Ow.chg0 k1.drew o3 hb
  clear c0 c2 hn hw o3
  have c0 : w3.cell? ⟨K, 0, none⟩ = some (.pointer (some ⟨d.P, 0, none⟩)) := cell_is hw3 0 rfl
  have c2 : w3.cell? ⟨K, 2, none⟩ = some (.int .i64 1) := cell_is hw3 2 rfl
  go_wp2_with fail
  go_region_held3 (fun wx => wx.cell? ⟨K, 0, none⟩ = some (.pointer (some ⟨d.P, 0, none⟩)) ∧ wx.cell? ⟨K, 2, none⟩ = some (.int .i64 1))
    (first | (exact ⟨c0, c2⟩) | (exact ⟨cell_is hw4 0 rfl, cell_is hw4 2 rfl⟩))
    (first
      | (go_at_call 21; refine (cget_in w3.drew (m := 7) (h3.keep (Chg.refl [] w3).drew) (by omega) (by omega)).mono ?_; rintro e w4 ⟨rfl, o4, h4⟩; have hw4 := hw3.keep ((Ow.of_chg (base := base) (Chg.refl [] w3).drew).trans o4)))
  have k4 := Ow.chg0 k3.drew o4 hb
  have c0 : w4.cell? ⟨K, 0, none⟩ = some (.pointer (some ⟨d.P, 0, none⟩)) := cell_is hw4 0 rfl
  obtain ⟨ops, hd⟩ := h4.st.sta.dev
  have HN := Lib.hid (ccount_any w4 h4.st.sta.store hd)
  have HX := Lib.hid (class_any S w4 (by rw [HC.out]; exact hlt.out))
  clear c2 h3 hw3 o4 h4 hw4 hd
  go_wp2_with fail
  rw [HG.out]
  refine HX.out.mono ?_
  rintro e w5 ⟨rfl, rfl⟩
  rw [HC.out, HL.out]
  go_wp2_with fail
  refine HN.out.mono ?_
  rintro e w5 ⟨rfl, k5⟩
  go_wp2_with fail
  go_ret
  exact ⟨rfl, k4.then k5⟩
end Go.Proofs.YtfodeeejolkkfaaGreat
namespace Go.Proofs.YtfodeeejolkkfaaGreat
open Ieee

/-- 'n / 2 ^ d' as a whole number, without the bound on the digits. -/
def cutW (way : Toward) (neg : Bool) (n d : Nat) : Nat :=
  n / 2 ^ d + (match way with
    | .even => decide (2 ^ d < 2 * (n % 2 ^ d)) || (2 ^ d == 2 * (n % 2 ^ d) && n / 2 ^ d % 2 == 1)
    | .down => neg && n % 2 ^ d != 0
    | .up => !neg && n % 2 ^ d != 0
    | .zero => false).toNat
theorem cut_eq (way : Toward) (neg : Bool) (n d : Nat) : way.cut neg n d = cutW way neg n d := by
  unfold Toward.cut cutW
  simp only [Nat.one_shiftLeft]
  by_cases h : d ≤ n.log2 + 2
  · rw [Nat.min_eq_left h]
    cases way <;> rfl
  · rw [Nat.min_eq_right (by omega)]
    have h1 : n < 2 ^ (n.log2 + 1) := Nat.lt_log2_self
    have h2 : 2 ^ (n.log2 + 2) = 2 * 2 ^ (n.log2 + 1) := by rw [Nat.pow_succ]; omega
    have h3 : 2 ^ (n.log2 + 2) ≤ 2 ^ d := Nat.pow_le_pow_right (by decide) (by omega)
    have e1 : n / 2 ^ (n.log2 + 2) = 0 := Nat.div_eq_of_lt (by omega)
    have e2 : n / 2 ^ d = 0 := Nat.div_eq_of_lt (by omega)
    have e3 : n % 2 ^ (n.log2 + 2) = n := Nat.mod_eq_of_lt (by omega)
    have e4 : n % 2 ^ d = n := Nat.mod_eq_of_lt (by omega)
    rw [e1, e2, e3, e4]
    cases way with
    | even =>
      have c1 : ¬ 2 ^ (n.log2 + 2) < 2 * n := by omega
      have c2 : ¬ 2 ^ d < 2 * n := by omega
      simp [c1, c2]
    | down => rfl
    | up => rfl
    | zero => rfl
theorem cutW_shift (way : Toward) (neg : Bool) (n d j : Nat) : cutW way neg (n * 2 ^ j) (d + j) = cutW way neg n d := by
  have hp : 0 < 2 ^ j := Nat.pow_pos (by decide)
  unfold cutW
  rw [Nat.pow_add, Nat.mul_div_mul_right _ _ hp, Nat.mul_mod_mul_right]
  congr 2
  have a1 : (2 ^ d * 2 ^ j < 2 * (n % 2 ^ d * 2 ^ j)) ↔ (2 ^ d < 2 * (n % 2 ^ d)) := by
    rw [← Nat.mul_assoc]; exact Nat.mul_lt_mul_right hp
  have a2 : (2 ^ d * 2 ^ j == 2 * (n % 2 ^ d * 2 ^ j)) = (2 ^ d == 2 * (n % 2 ^ d)) := by
    rw [← Nat.mul_assoc, Bool.eq_iff_iff, beq_iff_eq, beq_iff_eq]; exact Nat.mul_left_inj (by omega)
  have a3 : (n % 2 ^ d * 2 ^ j != 0) = (n % 2 ^ d != 0) := by
    rw [Bool.eq_iff_iff, bne_iff_ne, bne_iff_ne, Ne, Ne, Nat.mul_eq_zero]; omega
  cases way with
  | even => simp only [a1, a2]
  | down => simp only [a3]
  | up => simp only [a3]
  | zero => rfl
theorem cutW_zero (way : Toward) (neg : Bool) (n : Nat) : cutW way neg n 0 = n := by
  unfold cutW
  rw [Nat.pow_zero, Nat.div_one, Nat.mod_one]
  cases way <;> simp
theorem cutW_exact (way : Toward) (neg : Bool) (n j : Nat) : cutW way neg (n * 2 ^ j) j = n := by
  have := cutW_shift way neg n 0 j
  rw [Nat.zero_add, cutW_zero] at this
  exact this
theorem cutW_split (way : Toward) (neg : Bool) (m a b c : Nat) (h : c = a + b) : cutW way neg (m * 2 ^ c) b = m * 2 ^ a := by
  rw [h, Nat.pow_add, ← Nat.mul_assoc, cutW_exact]

/-- 'm * 2 ^ i' in units of 2 ^ -1074. -/
def units (m : Nat) (i : Int) : Nat := m * 2 ^ (i + 1074).toNat
/-- the magnitude at a rung, in units. -/
def valR (r : Nat) : Nat := if r < 4503599627370496 then r else (4503599627370496 + r % 4503599627370496) * 2 ^ (r / 4503599627370496 - 1)
/-- the rung nearest to so many units. -/
def rungOf (N : Nat) : Nat := if N = 0 then 0 else min ((N.log2 - 52) * 4503599627370496 + cutW .even false N (N.log2 - 52)) 9218868437227405312

theorem log2_mul (m j : Nat) (h : m ≠ 0) : (m * 2 ^ j).log2 = m.log2 + j := by
  have hp : 0 < 2 ^ j := Nat.pow_pos (by decide)
  rw [Nat.log2_eq_iff (by intro e; rcases Nat.mul_eq_zero.1 e with e | e <;> omega)]
  have h1 := Nat.log2_self_le h
  have h2 := @Nat.lt_log2_self m
  refine ⟨by rw [Nat.pow_add]; exact Nat.mul_le_mul_right _ h1, ?_⟩
  rw [show m.log2 + j + 1 = m.log2 + 1 + j by omega, Nat.pow_add]
  exact Nat.mul_lt_mul_of_pos_right h2 hp
theorem cutW_even (neg : Bool) (n d : Nat) : cutW .even neg n d = cutW .even false n d := rfl
theorem nearest_units (s : Bool) (m : Nat) (i : Int) (hi : -1074 ≤ i) : double.nearest s m i = double.word s (rungOf (units m i)) := by
  unfold Format.nearest rungOf
  by_cases hm : m = 0
  · subst hm; rw [if_pos rfl, if_pos (by simp [units])]
  · have hp : 0 < 2 ^ (i + 1074).toNat := Nat.pow_pos (by decide)
    have hu : units m i ≠ 0 := by unfold units; intro e; rcases Nat.mul_eq_zero.1 e with e | e <;> omega
    rw [if_neg hm, if_neg hu]
    have e1 : double.leastPlace = -1074 := by decide
    have e2 : double.binade = 4503599627370496 := by decide
    have e3 : double.infRung = 9218868437227405312 := by decide
    have e4 : double.fractionBits = 52 := rfl
    have hL : (units m i).log2 = m.log2 + (i + 1074).toNat := log2_mul _ _ hm
    simp only [e1, e2, e3, e4, cut_eq]
    obtain ⟨L, hLL⟩ : ∃ L, m.log2 = L := ⟨_, rfl⟩
    obtain ⟨j, hj⟩ : ∃ j : Nat, i + 1074 = j := ⟨(i + 1074).toNat, by omega⟩
    have hi' : i = (j : Int) - 1074 := by omega
    rw [hL, hLL]
    have ej : (i + 1074).toNat = j := by omega
    have k1 : (max (i + (L : Int) - ((52 : Nat) : Int)) (-1074) - -1074).toNat = L + j - 52 := by omega
    rw [ej, k1]
    have key : cutW .even s (m <<< (i - max (i + (L : Int) - ((52 : Nat) : Int)) (-1074)).toNat) (max (i + (L : Int) - ((52 : Nat) : Int)) (-1074) - i).toNat = cutW .even false (units m i) (L + j - 52) := by
      unfold units
      rw [ej, Nat.shiftLeft_eq]
      by_cases hc : 52 ≤ L
      · have k2 : (i - max (i + (L : Int) - ((52 : Nat) : Int)) (-1074)).toNat = 0 := by omega
        have k3 : (max (i + (L : Int) - ((52 : Nat) : Int)) (-1074) - i).toNat = L - 52 := by omega
        have k4 : L + j - 52 = (L - 52) + j := by omega
        rw [k2, k3, k4, cutW_shift, Nat.pow_zero, Nat.mul_one]
        rfl
      · have k3 : (max (i + (L : Int) - ((52 : Nat) : Int)) (-1074) - i).toNat = 0 := by omega
        have k5 : (i - max (i + (L : Int) - ((52 : Nat) : Int)) (-1074)).toNat = j - (L + j - 52) := by omega
        rw [k3, k5, cutW_zero]
        have := cutW_exact .even false (m * 2 ^ (j - (L + j - 52))) (L + j - 52)
        rw [Nat.mul_assoc, ← Nat.pow_add, show j - (L + j - 52) + (L + j - 52) = j by omega] at this
        rw [this]
    rw [key]
theorem integral_units (way : Toward) (s : Bool) (m : Nat) (i : Int) (hi : -1074 ≤ i) : (Datum.number s m i).integral way = .number s (cutW way s (units m i) 1074) 0 := by
  unfold Datum.integral
  simp only
  congr 1
  rw [cut_eq, Nat.shiftLeft_eq]
  unfold units
  by_cases h : 0 ≤ i
  · rw [show (-i).toNat = 0 by omega, cutW_zero]
    exact (cutW_split way s m _ _ _ (by omega)).symm
  · rw [show i.toNat = 0 by omega, Nat.pow_zero, Nat.mul_one]
    have := cutW_shift way s m (-i).toNat (i + 1074).toNat
    rw [show (-i).toNat + (i + 1074).toNat = 1074 by omega] at this
    exact this.symm

/-! rungs and units -/
theorem rung_rep (W j : Nat) (hW : W < 9007199254740992) (h0 : W ≠ 0) (hj : W.log2 + j ≤ 2097) : rungOf (W * 2 ^ j) < 9218868437227405312 ∧ valR (rungOf (W * 2 ^ j)) = W * 2 ^ j := by
  have hl := log2_mul W j h0
  have hp : 0 < 2 ^ j := Nat.pow_pos (by decide)
  have hN : W * 2 ^ j ≠ 0 := by intro e; rcases Nat.mul_eq_zero.1 e with e | e <;> omega
  have hW2 : W.log2 < 53 := (Nat.log2_lt h0).2 (by simpa using hW)
  unfold rungOf
  rw [if_neg hN, hl]
  by_cases hc : W.log2 + j ≤ 52
  · have hb : W * 2 ^ j < 2 ^ 53 := (Nat.log2_lt hN).1 (by omega)
    rw [show W.log2 + j - 52 = 0 by omega, cutW_zero, Nat.zero_mul, Nat.zero_add]
    generalize W * 2 ^ j = N at *
    rw [show (2 : Nat) ^ 53 = 9007199254740992 by decide] at hb
    rw [Nat.min_eq_left (by omega)]
    refine ⟨by omega, ?_⟩
    unfold valR
    by_cases h1 : N < 4503599627370496
    · rw [if_pos h1]
    · rw [if_neg h1, show N / 4503599627370496 - 1 = 0 by omega, Nat.pow_zero]; omega
  · obtain ⟨k, hk⟩ : ∃ k, W.log2 + j - 52 = k := ⟨_, rfl⟩
    obtain ⟨t, ht⟩ : ∃ t, j = t + k := ⟨j - k, by omega⟩
    have e1 : W * 2 ^ j = (W * 2 ^ t) * 2 ^ k := by rw [ht, Nat.pow_add, Nat.mul_assoc]
    have hlt := log2_mul W t h0
    have hNt : W * 2 ^ t ≠ 0 := by intro e; rw [e, Nat.zero_mul] at e1; exact hN e1
    have hb1 : W * 2 ^ t < 2 ^ 53 := (Nat.log2_lt hNt).1 (by omega)
    have hb2 : 2 ^ 52 ≤ W * 2 ^ t := (Nat.le_log2 hNt).1 (by omega)
    rw [hk, e1, cutW_exact]
    generalize W * 2 ^ t = M at *
    rw [show (2 : Nat) ^ 53 = 9007199254740992 by decide] at hb1
    rw [show (2 : Nat) ^ 52 = 4503599627370496 by decide] at hb2
    rw [Nat.min_eq_left (by omega)]
    refine ⟨by omega, ?_⟩
    unfold valR
    rw [if_neg (by omega), show (k * 4503599627370496 + M) / 4503599627370496 - 1 = k by omega, show 4503599627370496 + (k * 4503599627370496 + M) % 4503599627370496 = M by omega]
theorem valR_form (r : Nat) (h : r < 9218868437227405312) : ∃ W j, W < 9007199254740992 ∧ valR r = W * 2 ^ j ∧ j ≤ 2045 ∧ (j = 0 ∨ 4503599627370496 ≤ W) := by
  unfold valR
  by_cases h1 : r < 4503599627370496
  · exact ⟨r, 0, by omega, by rw [if_pos h1, Nat.pow_zero, Nat.mul_one], by omega, Or.inl rfl⟩
  · exact ⟨4503599627370496 + r % 4503599627370496, r / 4503599627370496 - 1, by omega, by rw [if_neg h1], by omega, Or.inr (by omega)⟩
theorem rungOf_valR (r : Nat) (h : r < 9218868437227405312) : rungOf (valR r) = r := by
  unfold valR
  by_cases h1 : r < 4503599627370496
  · rw [if_pos h1]
    unfold rungOf
    by_cases h0 : r = 0
    · rw [if_pos h0, h0]
    · have hl : r.log2 < 52 := (Nat.log2_lt h0).2 (by simpa using h1)
      rw [if_neg h0, show r.log2 - 52 = 0 by omega, cutW_zero]; omega
  · rw [if_neg h1]
    have hM : 4503599627370496 + r % 4503599627370496 ≠ 0 := by omega
    have hl : (4503599627370496 + r % 4503599627370496).log2 = 52 := by
      rw [Nat.log2_eq_iff hM]
      rw [show (2 : Nat) ^ 52 = 4503599627370496 by decide, show (2 : Nat) ^ (52 + 1) = 9007199254740992 by decide]; omega
    have hl2 := log2_mul _ (r / 4503599627370496 - 1) hM
    unfold rungOf
    have hp : 0 < 2 ^ (r / 4503599627370496 - 1) := Nat.pow_pos (by decide)
    rw [if_neg (by intro e; rcases Nat.mul_eq_zero.1 e with e | e <;> omega), hl2, hl, show 52 + (r / 4503599627370496 - 1) - 52 = r / 4503599627370496 - 1 by omega, cutW_exact]
    omega
theorem valR_inj {r q : Nat} (h : r < 9218868437227405312) (h' : q < 9218868437227405312) (e : valR r = valR q) : r = q := by
  rw [← rungOf_valR r h, ← rungOf_valR q h', e]
theorem valR_zero {r : Nat} (h : valR r = 0) : r = 0 := by
  unfold valR at h
  split at h
  · exact h
  · have hp : 0 < 2 ^ (r / 4503599627370496 - 1) := Nat.pow_pos (by decide)
    rcases Nat.mul_eq_zero.1 h with h | h <;> omega
/-- what is not above a power of two is rounded to what is not above it. -/
theorem rung_le (N k : Nat) (hk : 52 ≤ k) (hN : N ≤ 2 ^ k) : rungOf N ≤ (k - 51) * 4503599627370496 := by
  unfold rungOf
  by_cases h0 : N = 0
  · rw [if_pos h0]; omega
  · rw [if_neg h0]
    by_cases he : N = 2 ^ k
    · have hl : (2 ^ k : Nat).log2 = k := by
        rw [Nat.log2_eq_iff (by rw [← he]; exact h0)]; exact ⟨Nat.le_refl _, Nat.pow_lt_pow_right (by decide) (by omega)⟩
      rw [he, hl]
      have := cutW_exact .even false (2 ^ 52) (k - 52)
      rw [← Nat.pow_add, show 52 + (k - 52) = k by omega] at this
      rw [this, show (2 : Nat) ^ 52 = 4503599627370496 by decide]
      omega
    · have hlk : N.log2 < k := (Nat.log2_lt h0).2 (by omega)
      have hb : N < 2 ^ (N.log2 + 1) := Nat.lt_log2_self
      by_cases hc : N.log2 ≤ 52
      · rw [show N.log2 - 52 = 0 by omega, cutW_zero]
        have : N < 2 ^ 53 := Nat.lt_of_lt_of_le hb (Nat.pow_le_pow_right (by decide) (by omega))
        rw [show (2 : Nat) ^ 53 = 9007199254740992 by decide] at this
        by_cases hk2 : k = 52
        · subst hk2
          rw [show (2 : Nat) ^ 52 = 4503599627370496 by decide] at hN
          omega
        · omega
      · have hcut : cutW .even false N (N.log2 - 52) ≤ 9007199254740992 := by
          unfold cutW
          have e : (2 : Nat) ^ (N.log2 + 1) = 2 ^ (N.log2 - 52) * 9007199254740992 := by
            rw [show (9007199254740992 : Nat) = 2 ^ 53 by decide, ← Nat.pow_add]; congr 1; omega
          have hd : N / 2 ^ (N.log2 - 52) < 9007199254740992 := Nat.div_lt_of_lt_mul (by omega)
          have hb : ∀ b : Bool, b.toNat ≤ 1 := by intro b; cases b <;> simp
          exact Nat.le_trans (Nat.add_le_add_left (hb _) _) (by omega)
        omega
end Go.Proofs.YtfodeeejolkkfaaGreat
namespace Go.Proofs.YtfodeeejolkkfaaGreat
open Ieee

/-- the units of 1. -/
def pw (k : Nat) : Nat := 2 ^ k
theorem pw_eq (k : Nat) : pw k = 2 ^ k := rfl
theorem pw_pos (k : Nat) : 0 < pw k := Nat.pow_pos (by decide)
theorem pw_succ (k : Nat) : pw (k + 1) = 2 * pw k := Nat.pow_succ'
def T1 : Nat := pw 1074
theorem T1_pow : T1 = 2 ^ 1074 := pw_eq 1074
theorem T1_pos : 0 < T1 := pw_pos 1074
theorem T1_half' : T1 = 2 * pw 1073 := pw_succ 1073
theorem pw_le {i j : Nat} (h : i ≤ j) : pw i ≤ pw j := Nat.pow_le_pow_right (by decide) h
theorem pw_add (t k : Nat) : 2 ^ t * pw k = 2 ^ (t + k) := by rw [pw_eq, Nat.pow_add]
theorem pw_add' (k : Nat) : pw (52 + k) = 4503599627370496 * pw k := by
  have := pw_add 52 k
  rw [← pw_eq (52 + k), show (2 : Nat) ^ 52 = 4503599627370496 by decide] at this
  exact this.symm
theorem top_pow : pw (52 + 1075) = 9007199254740992 * T1 := by
  rw [pw_add', show 1075 = 1074 + 1 from rfl, pw_succ]
  have : T1 = pw 1074 := rfl
  rw [← this]; omega
theorem rung_le' (N k : Nat) (hk : 52 ≤ k) (hN : N ≤ pw k) : rungOf N ≤ (k - 51) * 4503599627370496 := rung_le N k hk hN
theorem units_pw (m : Nat) (i : Int) : units m i = m * pw (i + 1074).toNat := rfl
/-- finite. -/
def FinB (b : Nat) : Prop := b < 18446744073709551616 ∧ magB b < 9218868437227405312
def negB (b : Nat) : Bool := decide (9223372036854775808 ≤ b)
def sgnI (s : Bool) (n : Nat) : Int := if s then -(n : Int) else (n : Int)
/-- a finite number in units. -/
def rv (b : Nat) : Int := sgnI (negB b) (valR (magB b))

theorem read_fin {b : Nat} (h : FinB b) : ∃ m i, double.read b = .number (negB b) m i ∧ -1074 ≤ i ∧ units m i = valR (magB b) ∧ (m < 4503599627370496 → i = -1074) ∧ m < 9007199254740992 := by
  obtain ⟨h1, h2⟩ := h
  unfold Format.read
  have e1 : double.signWeight = 9223372036854775808 := by decide
  have e2 : double.binade = 4503599627370496 := by decide
  have e3 : double.infRung = 9218868437227405312 := by decide
  have e4 : double.leastPlace = -1074 := by decide
  simp only [e1, e2, e3, e4]
  have hs : (b / 9223372036854775808 % 2 == 1) = negB b := by
    unfold negB
    rw [Bool.eq_iff_iff, beq_iff_eq, decide_eq_true_iff]; omega
  rw [hs]
  unfold magB at h2 ⊢
  generalize b % 9223372036854775808 = r at *
  by_cases h3 : r < 4503599627370496
  · rw [if_pos h3]
    refine ⟨r, -1074, rfl, by omega, ?_, fun _ => rfl, by omega⟩
    unfold units valR
    rw [if_pos h3]; simp
  · rw [if_neg h3, if_pos h2]
    refine ⟨4503599627370496 + r % 4503599627370496, -1074 + ((r / 4503599627370496 - 1 : Nat) : Int), rfl, by omega, ?_, fun h => by omega, by omega⟩
    unfold units valR
    rw [if_neg h3, show (-1074 + ((r / 4503599627370496 - 1 : Nat) : Int) + 1074).toNat = r / 4503599627370496 - 1 by omega]
theorem sgn_mul (s : Bool) (n k : Nat) : sgnI s n * (k : Int) = sgnI s (n * k) := by
  unfold sgnI; cases s <;> simp [Int.neg_mul]
theorem signed_eq (s : Bool) (m k : Nat) : signed s m k = sgnI s (m * 2 ^ k) := by
  unfold signed sgnI; rw [Nat.shiftLeft_eq]
theorem units_base (m : Nat) (i base : Int) (h1 : -1074 ≤ base) (h2 : base ≤ i) : m * 2 ^ (i - base).toNat * 2 ^ (base + 1074).toNat = units m i := by
  unfold units
  rw [Nat.mul_assoc, ← Nat.pow_add]; congr 2; omega
theorem compare_mul (a b : Int) (k : Nat) (hk : 0 < k) : compare (a * (k : Int)) (b * (k : Int)) = compare a b := by
  have hk' : (0 : Int) < k := by omega
  rcases Int.lt_trichotomy a b with h | h | h
  · rw [Int.compare_eq_lt.2 h, Int.compare_eq_lt.2 (Int.mul_lt_mul_of_pos_right h hk')]
  · subst h; rw [Int.compare_eq_eq.2 rfl, Int.compare_eq_eq.2 rfl]
  · rw [Int.compare_eq_gt.2 h, Int.compare_eq_gt.2 (Int.mul_lt_mul_of_pos_right h hk')]
theorem order_num (s t : Bool) (m n : Nat) (i j : Int) (hi : -1074 ≤ i) (hj : -1074 ≤ j) :
    (Datum.number s m i).order (.number t n j) = some (compare (sgnI s (units m i)) (sgnI t (units n j))) := by
  unfold Datum.order
  simp only
  rw [signed_eq, signed_eq]
  congr 1
  have hp : 0 < 2 ^ (min i j + 1074).toNat := Nat.pow_pos (by decide)
  rw [← compare_mul _ _ _ hp, sgn_mul, sgn_mul, units_base _ _ _ (by omega) (by omega), units_base _ _ _ (by omega) (by omega)]
theorem order_fin {b c : Nat} (hb : FinB b) (hc : FinB c) : double.order b c = some (compare (rv b) (rv c)) := by
  obtain ⟨m, i, e1, h1, h2, _⟩ := read_fin hb
  obtain ⟨n, j, e2, h3, h4, _⟩ := read_fin hc
  unfold Format.order
  rw [e1, e2, order_num _ _ _ _ _ _ h1 h3, h2, h4]
  rfl
theorem word_eq (s : Bool) (r : Nat) : double.word s r = if s then 9223372036854775808 + r else r := by
  unfold Format.word; rw [show double.signWeight = 9223372036854775808 by decide]
theorem mag_word {s : Bool} {r : Nat} (h : r < 9223372036854775808) : magB (double.word s r) = r := by
  rw [word_eq]; unfold magB; cases s
  · rw [if_neg (by decide)]; omega
  · rw [if_pos rfl]; omega
theorem neg_word {s : Bool} {r : Nat} (h : r < 9223372036854775808) : negB (double.word s r) = s := by
  rw [word_eq]; unfold negB; cases s
  · rw [if_neg (by decide)]; exact decide_eq_false (by omega)
  · rw [if_pos rfl]; exact decide_eq_true (by omega)
theorem word_lt {s : Bool} {r : Nat} (h : r < 9223372036854775808) : double.word s r < 18446744073709551616 := by
  rw [word_eq]; split <;> omega
theorem word_fin {s : Bool} {r : Nat} (h : r < 9218868437227405312) : FinB (double.word s r) := ⟨word_lt (by omega), by rw [mag_word (by omega)]; exact h⟩
theorem word_rv {s : Bool} {r : Nat} (h : r < 9218868437227405312) : rv (double.word s r) = sgnI s (valR r) := by
  unfold rv; rw [mag_word (by omega), neg_word (by omega)]
theorem word_self {b : Nat} (h : b < 18446744073709551616) : double.word (negB b) (magB b) = b := by
  rw [word_eq]; unfold negB magB
  by_cases g : 9223372036854775808 ≤ b
  · rw [decide_eq_true g, if_pos rfl]; omega
  · rw [decide_eq_false g, if_neg (by decide)]; omega
theorem fin_word {b : Nat} (h : FinB b) {c : Nat} (hc : FinB c) (hs : negB b = negB c) (hv : valR (magB b) = valR (magB c)) : b = c := by
  rw [← word_self h.1, ← word_self hc.1, hs, valR_inj h.2 hc.2 hv]

/-! made whole -/
/-- the whole number that a number is made. -/
def wholeN (way : Toward) (b : Nat) : Nat := cutW way (negB b) (valR (magB b)) 1074
def wholeB (way : Toward) (b : Nat) : Nat := double.write ((double.read b).integral way)
theorem cutW_le (way : Toward) (s : Bool) (n d : Nat) : cutW way s n d ≤ n / 2 ^ d + 1 := by
  unfold cutW
  have hb : ∀ b : Bool, b.toNat ≤ 1 := by intro b; cases b <;> simp
  exact Nat.add_le_add_left (hb _) _
theorem units_zero (W : Nat) : units W 0 = W * T1 := by
  rw [units_pw, show ((0 : Int) + 1074).toNat = 1074 by omega]; exact rfl
theorem write_num (s : Bool) (m : Nat) (i : Int) (hi : -1074 ≤ i) : double.write (.number s m i) = double.word s (rungOf (units m i)) := nearest_units s m i hi
theorem whole_write {b : Nat} (way : Toward) (h : FinB b) : wholeB way b = double.word (negB b) (rungOf (wholeN way b * T1)) := by
  obtain ⟨m, i, e1, h1, h2, _⟩ := read_fin h
  unfold wholeB wholeN
  rw [e1, integral_units way _ _ _ h1, write_num _ _ _ (by omega), units_zero, h2]
theorem whole_rep (way : Toward) (s : Bool) (r : Nat) (h : r < 9218868437227405312) :
    rungOf (cutW way s (valR r) 1074 * T1) < 9218868437227405312 ∧ valR (rungOf (cutW way s (valR r) 1074 * T1)) = cutW way s (valR r) 1074 * T1 := by
  obtain ⟨M, j, hM, he, hj, _⟩ := valR_form r h
  by_cases hc : 1074 ≤ j
  · obtain ⟨t, rfl⟩ : ∃ t, j = t + 1074 := ⟨j - 1074, by omega⟩
    have e2 : cutW way s (valR r) 1074 * T1 = valR r := by
      rw [he, cutW_split way s M t 1074 _ rfl, Nat.mul_assoc]
      exact congrArg (M * ·) (pw_add t 1074)
    rw [e2, rungOf_valR r h]
    exact ⟨h, rfl⟩
  · have hd : valR r / T1 ≤ 4503599627370496 := by
      have h3 : valR r < 4503599627370497 * T1 := by
        rw [he, ← pw_eq, T1_half']
        have h4 : M * pw j ≤ M * pw 1073 := Nat.mul_le_mul_left _ (pw_le (by omega))
        have hp := pw_pos 1073
        generalize pw 1073 = P at *
        have h6 : M * P ≤ 9007199254740991 * P := Nat.mul_le_mul_right _ (by omega)
        omega
      have := (Nat.div_lt_iff_lt_mul T1_pos).2 h3
      omega
    have hW := cutW_le way s (valR r) 1074
    rw [← T1_pow] at hW
    obtain ⟨W, hWe⟩ : ∃ W, cutW way s (valR r) 1074 = W := ⟨_, rfl⟩
    rw [hWe] at hW ⊢
    have hW2 : W < 9007199254740992 := by omega
    by_cases h0 : W = 0
    · subst h0
      rw [Nat.zero_mul]
      exact ⟨by decide, by decide⟩
    · have hl : W.log2 < 53 := (Nat.log2_lt h0).2 (by simpa using hW2)
      have hr := rung_rep W 1074 hW2 h0 (by omega)
      rw [← T1_pow] at hr
      exact hr
theorem whole_fin {b : Nat} (way : Toward) (h : FinB b) : FinB (wholeB way b) ∧ negB (wholeB way b) = negB b ∧ valR (magB (wholeB way b)) = wholeN way b * T1 := by
  have h1 := whole_rep way (negB b) (magB b) h.2
  rw [whole_write way h]
  refine ⟨word_fin h1.1, neg_word (by unfold wholeN; omega), ?_⟩
  rw [mag_word (by unfold wholeN; omega)]
  exact h1.2
theorem whole_rv {b : Nat} (way : Toward) (h : FinB b) : rv (wholeB way b) = sgnI (negB b) (wholeN way b * T1) := by
  obtain ⟨_, h2, h3⟩ := whole_fin way h
  unfold rv; rw [h2, h3]
theorem sgn_inj {s : Bool} {m n : Nat} (h : sgnI s m = sgnI s n) : m = n := by
  unfold sgnI at h; cases s <;> simp at h <;> omega
/-- a number of units that is whole. -/
def IsWhole (b : Nat) : Prop := valR (magB b) % T1 = 0
instance (b : Nat) : Decidable (IsWhole b) := by unfold IsWhole; infer_instance
theorem whole_of (way : Toward) {b : Nat} (h : IsWhole b) : wholeN way b * T1 = valR (magB b) := by
  unfold IsWhole at h
  have e : valR (magB b) = valR (magB b) / T1 * T1 := by have := Nat.div_add_mod (valR (magB b)) T1; rw [Nat.mul_comm] at this; omega
  unfold wholeN
  generalize valR (magB b) = N at *
  have e2 : cutW way (negB b) (N / T1 * T1) 1074 = N / T1 := by
    have := cutW_exact way (negB b) (N / T1) 1074
    rw [← T1_pow] at this
    exact this
  rw [← e] at e2
  rw [e2]; exact e.symm
theorem whole_self (way : Toward) {b : Nat} (h : FinB b) (hw : IsWhole b) : wholeB way b = b := by
  obtain ⟨h1, h2, h3⟩ := whole_fin way h
  exact fin_word h1 h h2 (h3.trans (whole_of way hw))
theorem whole_is (way : Toward) {b : Nat} (h : FinB b) : IsWhole (wholeB way b) := by
  unfold IsWhole; rw [(whole_fin way h).2.2]; exact Nat.mul_mod_left _ _
/-- it is as it was made: it is whole. -/
theorem whole_iff (way : Toward) {b : Nat} (h : FinB b) : (double.order b (wholeB way b) == some .eq) = decide (IsWhole b) := by
  rw [order_fin h (whole_fin way h).1, whole_rv way h, Bool.eq_iff_iff, decide_eq_true_iff, beq_iff_eq]
  constructor
  · intro e
    have e1 := Int.compare_eq_eq.1 (Option.some.inj e)
    have e2 := sgn_inj (s := negB b) (show sgnI (negB b) (valR (magB b)) = _ from e1)
    unfold IsWhole; rw [e2]; exact Nat.mul_mod_left _ _
  · intro hw
    congr 1
    exact Int.compare_eq_eq.2 (congrArg (sgnI (negB b)) (whole_of way hw).symm)
/-- not farther than a half. -/
theorem even_near (s : Bool) (N : Nat) : 2 * (cutW .even s N 1074 * T1) ≤ 2 * N + T1 ∧ 2 * N ≤ 2 * (cutW .even s N 1074 * T1) + T1 := by
  have hd := Nat.div_add_mod N T1
  have hm := Nat.mod_lt N T1_pos
  unfold cutW
  rw [← T1_pow, Nat.add_mul]
  rw [Nat.mul_comm] at hd
  generalize N / T1 * T1 = A at *
  by_cases c : T1 < 2 * (N % T1)
  · simp [c]; omega
  · by_cases c2 : T1 == 2 * (N % T1) && N / T1 % 2 == 1
    · rw [c2]
      have := (Bool.and_eq_true_iff.1 c2).1
      rw [beq_iff_eq] at this
      simp; omega
    · rw [Bool.not_eq_true] at c2
      rw [c2]
      simp [c]; omega
end Go.Proofs.YtfodeeejolkkfaaGreat
