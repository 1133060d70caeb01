/- Lemmas and walks: Walks: one put is written into a buffer. Walks: the store's Write of one put. Walks: what a buffer holds; how many cells there are. Walks: a number as eight bytes. Walks: eight bytes as a number. Walks: a block as five numbers. Walks: the reference's numbers as bytes. Walks: the reference's numbers read. Walks: the reference's blocks of five numbers. Walks: two runs of doubles that are alike. Walks: versions without entries are read. Walks: versions without entries are read: forty noughts. Walks: a range of one block, without versions, is forty noughts. Walks: one span is looked at. Walks: spans in memory, a copy of spans. Walks: spans of two rows in one new row. Walks: a few spans are sorted. Walks: spans joined: there are no more of them than before. Walks: a span is added to a set of few spans. Walks: spans are sorted and joined, told exactly. Walks: a span is added to a set of one span at most, which it meets. Spans of what was read, told exactly: one more. Printed by mkNa.py. -/
import Derived.Lib.AppendZeros
import Derived.Deep.RegionHeld3
import Derived.Deep.QuietTactic
import Derived.BigQuiet
import Derived.StillTailTactics
import Derived.Test.YtfodeeejolkkfaaGreatJa
import Derived.Test.YtfodeeejolkkfaaGreatJb
import Derived.Test.YtfodeeejolkkfaaGreatJc
namespace Go.Proofs.YtfodeeejolkkfaaGreat
open Go.RowKit Go.Lib

theorem ty151 : Tryz.prog.underlying 151 = some (.map 3 23) := by kernel_rfl
theorem upd151 {w : World} {r : Nat} {L : List (Int × Value)} (hM : MapAt w r L) (k : Int) (v : Value) :
    (Instr.mapUpdate 151 (.map (some r)) (.int .i64 k) v).run Tryz.prog w = .ok () (updW w 151 r k v) ∧ MapAt (updW w 151 r k v) r (putL L k v) ∧ Chg [r] w (updW w 151 r k v) :=
  updW_is (kt := 3) (et := 23) (by kernel_rfl) (by kernel_rfl) hM k v
theorem lookup151 {w : World} {r : Nat} {L : List (Int × Value)} (hM : MapAt w r L) (k : Int) (c : Bool) :
    (Instr.lookup 151 (.map (some r)) (.int .i64 k) c).run Tryz.prog w = .ok (if c then .tuple #[(getL L k).getD (.slice none 0 0), .bool (getL L k).isSome] else (getL L k).getD (.slice none 0 0)) w :=
  run_lookup_im (mty := 151) (kt := 3) (et := 23) (by kernel_rfl) (by kernel_rfl) (by kernel_rfl) hM k c
/-- what a write of one put looks at. -/
structure Wr (w : World) (K W rw E eo D o c : Nat) (b : Int) (L : List (Int × Value)) (l : List UInt8) : Prop where
  k : w.cell? ⟨K, 0, none⟩ = some (.pointer (some ⟨W, 0, none⟩))
  buf : BufAt w W rw L
  e0 : w.cell? ⟨E, eo, none⟩ = some (.int .i64 b)
  e1 : w.cell? ⟨E, eo + 1, none⟩ = some (.slice (some ⟨D, o, none⟩) 40 c)
  bs : Bs w (some ⟨D, o, none⟩) l
theorem Bs.chg {w w' : World} {a : Option Addr} {l : List UInt8} (h : Bs w a l) (hc : Chg [] w w') : Bs w' a l := h.below hc.below0 (Nat.le_refl _)
theorem Wr.keep {w w' : World} {K W rw E eo D o c : Nat} {b : Int} {L : List (Int × Value)} {l : List UInt8} (h : Wr w K W rw E eo D o c b L l) (hc : Chg [] w w') : Wr w' K W rw E eo D o c b L l :=
  ⟨hc.cell h.k (by simp), h.buf.keep hc (by simp) (by simp), hc.cell h.e0 (by simp), hc.cell h.e1 (by simp), h.bs.chg hc⟩
theorem Wr.c1 {w : World} {K W rw E eo D o c : Nat} {b : Int} {L : List (Int × Value)} {l : List UInt8} (h : Wr w K W rw E eo D o c b L l) : w.cell? ⟨W, 1, none⟩ = some (.int .i64 16) := cell_is h.buf.1 1 rfl
theorem Wr.c2 {w : World} {K W rw E eo D o c : Nat} {b : Int} {L : List (Int × Value)} {l : List UInt8} (h : Wr w K W rw E eo D o c b L l) : w.cell? ⟨W, 2, none⟩ = some (.map (some rw)) := cell_is h.buf.1 2 rfl
theorem cell_map {w : World} {a K i : Nat} {v : Value} {L : List (Int × Value)} (h : MapAt w a L) (hc : w.cell? ⟨K, i, none⟩ = some v) : K ≠ a := by
  rintro rfl
  obtain ⟨es, clock, hb, -⟩ := h
  unfold World.cell? at hc
  rw [hb] at hc
  simp at hc
theorem Bs.chgT {w w' : World} {T : List Nat} {g o : Nat} {l : List UInt8} (h : Bs w (some ⟨g, o, none⟩) l) (hc : Chg T w w') (hg : g ∉ T) : Bs w' (some ⟨g, o, none⟩) l := by
  rcases h with h | ⟨b, off, he, hb, hcs⟩
  · exact Or.inl h
  · refine Or.inr ⟨b, off, he, Nat.lt_of_lt_of_le hb hc.size, fun j hj => hc.cell (hcs j hj) ?_⟩
    cases he
    exact hg
set_option maxRecDepth 100000 in
set_option maxHeartbeats 2000000 in
theorem wwrite_one (w : World) {W rw E eo cp D o c : Nat} {b : Int} {L : List (Int × Value)} {l : List UInt8} (h : BufAt w W rw L) (e0 : w.cell? ⟨E, eo, none⟩ = some (.int .i64 b)) (e1 : w.cell? ⟨E, eo + 1, none⟩ = some (.slice (some ⟨D, o, none⟩) 40 c))
    (hb : Bs w (some ⟨D, o, none⟩) l) (hl : l.length = 40) (h0 : 0 ≤ b) (h1 : b < 258) (hroom : L.length ≤ 15) : Calls Tryz.prog 153 #[.pointer (some ⟨W, 0, none⟩), .slice (some ⟨E, eo, none⟩) 1 cp] w fun e w' =>
    ∃ g c', e = .returned (.int .i64 0) ∧ Chg [rw] w w' ∧ BufAt w' W rw (putL L b (.slice (some ⟨g, 0, none⟩) 40 c')) ∧ Bs w' (some ⟨g, 0, none⟩) l ∧ Bt w' g := by
  have k1 : Chg [] w (w.alloc (.cells #[.pointer (some ⟨W, 0, none⟩)] 170)) := Chg.alloc w _
  have H : Wr (w.alloc (.cells #[.pointer (some ⟨W, 0, none⟩)] 170)) w.heap.size W rw E eo D o c b L l :=
    ⟨cell_is (heap_new w _) 0 rfl, h.keep k1 (by simp) (by simp), k1.cell e0 (by simp), k1.cell e1 (by simp), hb.chg k1⟩
  clear h hb e0 e1
  go_enter Tryz.func153, Tryz.ntmps153
  go_wp2_with fail
  generalize w.alloc (.cells #[.pointer (some ⟨W, 0, none⟩)] 170) = w1 at *
  generalize w.heap.size = K at *
  refine (contput_far w1 H.e0 H.e1 (far_one w1 H.buf H.k h0 h1)).mono ?_
  rintro e w2 ⟨rfl, k2⟩
  have H2 := H.keep k2
  have kk2 := k1.then k2
  clear H k1 k2
  go_wp2_with fail
  refine (contput_short w2 H2.e0 H2.e1 (short_one w2)).mono ?_
  rintro e w3 ⟨rfl, k3⟩
  have H3 := H2.keep k3
  have kk3 := kk2.then k3
  clear H2 kk2 k3
  go_wp2_with fail
  refine (twice_one w3 H3.e0 H3.e1).mono ?_
  rintro e w4 ⟨rfl, k4⟩
  have H4 := H3.keep k4
  have kk4 := kk3.then k4
  clear H3 kk3 k4
  have c1 := H4.c1
  have c2 := H4.c2
  have c0 := H4.k
  have hlen : (Builtin.len_ #[151] 3 #[.map (some rw)]).run Tryz.prog w4 = .ok (.int .i64 L.length) w4 := run_len_im ty151 H4.buf.2 3
  go_wp2_with fail
  have k5 : Chg [] w4 (w4.alloc (.cells #[.int .i64 b, .slice (some ⟨D, o, none⟩) 40 c] 92)) := Chg.alloc w4 _
  have g5 : (w4.alloc (.cells #[.int .i64 b, .slice (some ⟨D, o, none⟩) 40 c] 92)).cell? ⟨w4.heap.size, 0, none⟩ = some (.int .i64 b) := cell_is (heap_new w4 _) 0 rfl
  have H5 := H4.keep k5
  have d0 := H5.k
  have d2 := H5.c2
  have hlk : (Instr.lookup 151 (.map (some rw)) (.int .i64 b) true).run Tryz.prog (w4.alloc (.cells #[.int .i64 b, .slice (some ⟨D, o, none⟩) 40 c] 92)).drew = .ok (.tuple #[(getL L b).getD (.slice none 0 0), .bool (getL L b).isSome]) (w4.alloc (.cells #[.int .i64 b, .slice (some ⟨D, o, none⟩) 40 c] 92)).drew := lookup151 (w := (w4.alloc (.cells #[.int .i64 b, .slice (some ⟨D, o, none⟩) 40 c] 92)).drew) H5.buf.2 b true
  have e0 := H4.e0
  have e1 := H4.e1
  clear c0 c1 c2 hlen
  generalize hgl : getL L b = gl at *
  go_loopw [5, 37] (fun x i wr => (i = .int .i64 0 ∧ x = .int .i64 L.length ∧ wr = w4) ∨ (i = .int .i64 1 ∧ (∃ n : Nat, x = .int .i64 n ∧ n ≤ 16) ∧ Wr wr K W rw E eo D o c b L l ∧ Chg [] w wr)) (fun _ i _ => 1 - (intOf i).toNat)
  case atStart => exact Or.inl ⟨rfl, rfl, rfl⟩
  case round =>
    rcases hrel with ⟨rfl, rfl, rfl⟩ | ⟨rfl, ⟨n, rfl, hn⟩, H6, kk6⟩
    · go_wp2_with fail
      generalize wr.alloc (.cells #[.int .i64 b, .slice (some ⟨D, o, none⟩) 40 c] 92) = w5 at *
      generalize wr.heap.size = z at *
      go_region_held3 (fun wx => wx.cell? ⟨K, 0, none⟩ = some (.pointer (some ⟨W, 0, none⟩)) ∧ wx.cell? ⟨W, 2, none⟩ = some (.map (some rw)) ∧ wx.cell? ⟨z, 0, none⟩ = some (.int .i64 b)) (first | (exact ⟨d0, d2, g5⟩)) (fail)
      cases gl with
      | none =>
        go_wp2_with fail
        go_roundw
        case rel => exact Or.inr ⟨rfl, ⟨L.length + 1, by go_num, by omega⟩, H5.keep (Chg.refl [] w5).drew, kk4.then (k5.then (Chg.refl [] w5).drew)⟩
        case measure => decide
      | some y =>
        go_wp2_with fail
        go_roundw
        case rel => exact Or.inr ⟨rfl, ⟨L.length, rfl, by omega⟩, H5.keep (Chg.refl [] w5).drew, kk4.then (k5.then (Chg.refl [] w5).drew)⟩
        case measure => decide
    · have c0 := H6.k
      have c1 := H6.c1
      have hng : ¬ (16 : Int) < n := by omega
      clear H5 H4 d0 d2 hlk g5 k5 e0 e1 kk4
      go_wp2_with fail
      have k7 : Chg [] wr (wr.alloc (.cells #[.int .i64 b, .slice (some ⟨D, o, none⟩) 40 c] 92)) := Chg.alloc wr _
      have g7 : (wr.alloc (.cells #[.int .i64 b, .slice (some ⟨D, o, none⟩) 40 c] 92)).cell? ⟨wr.heap.size, 0, none⟩ = some (.int .i64 b) := cell_is (heap_new wr _) 0 rfl
      have g8 : (wr.alloc (.cells #[.int .i64 b, .slice (some ⟨D, o, none⟩) 40 c] 92)).cell? ⟨wr.heap.size, 1, none⟩ = some (.slice (some ⟨D, o, none⟩) 40 c) := cell_is (heap_new wr _) 1 rfl
      have H7 := H6.keep k7
      have d0 := H7.k
      have d2 := H7.c2
      have e0 := H6.e0
      have e1 := H6.e1
      generalize hwq : wr = wq at *
      clear c0 c1
      go_loopw [64] (fun i wr => (i = .int .i64 0 ∧ wr = wq) ∨ (i = .int .i64 1 ∧ ∃ g c', Chg [rw] w wr ∧ BufAt wr W rw (putL L b (.slice (some ⟨g, 0, none⟩) 40 c')) ∧ Bs wr (some ⟨g, 0, none⟩) l ∧ Bt wr g)) (fun i _ => 1 - (intOf i).toNat)
      case atStart => exact Or.inl ⟨rfl, rfl⟩
      case round =>
        rcases hrel with ⟨rfl, rfl⟩ | ⟨rfl, g, c', kf, hbf, hbs, hbt⟩
        · go_wp2_with fail
          generalize wr.alloc (.cells #[.int .i64 b, .slice (some ⟨D, o, none⟩) 40 c] 92) = w5 at *
          generalize wr.heap.size = z at *
          have H7d := H7.keep (Chg.refl [] w5).drew
          have hsz := H7.buf.2.lt
          go_region_held3 (fun wx => wx.cell? ⟨K, 0, none⟩ = some (.pointer (some ⟨W, 0, none⟩)) ∧ wx.cell? ⟨W, 2, none⟩ = some (.map (some rw)) ∧ wx.cell? ⟨z, 0, none⟩ = some (.int .i64 b) ∧ wx.cell? ⟨z, 1, none⟩ = some (.slice (some ⟨D, o, none⟩) 40 c))
            (first
              | (exact ⟨d0, d2, g7, g8⟩)
              | (exact ⟨H8.k, H8.c2, q7, q8⟩)
              | (exact ⟨k9.cell H8.k (by simpa using cell_map H8.buf.2 H8.k), k9.cell H8.c2 (by simpa using cell_map H8.buf.2 H8.c2), k9.cell q7 (by simpa using cell_map H8.buf.2 q7), k9.cell q8 (by simpa using cell_map H8.buf.2 q8)⟩))
            (first
              | (go_at_call 113; refine (clone_bt w5.drew (l := l) hl (by decide) (by decide) H7d.bs).mono ?_; rintro e w6 ⟨g, c', rfl, k8, hb8, l8, ht8⟩; have H8 := H7d.keep k8; have q7 : w6.cell? ⟨z, 0, none⟩ = some (.int .i64 b) := k8.cell g7 (by simp); have q8 : w6.cell? ⟨z, 1, none⟩ = some (.slice (some ⟨D, o, none⟩) 40 c) := k8.cell g8 (by simp); obtain ⟨hmu, m8, k9⟩ := upd151 H8.buf.2 b (.slice (some ⟨g, 0, none⟩) 40 c')))
          have hgr : g ≠ rw := by
            have : w5.drew.heap.size = w5.heap.size := rfl
            omega
          have kall : Chg [rw] w w6 := (kk6.then ((k7.then (Chg.refl [] w5).drew).then k8)).mono (fun x hx _ => by cases hx)
          have hbuf : BufAt (updW w6 151 rw b (.slice (some ⟨g, 0, none⟩) 40 c')) W rw (putL L b (.slice (some ⟨g, 0, none⟩) 40 c')) := ⟨k9.heap H8.buf.1 (by simpa using (map_cells H8.buf.2 H8.buf.1).symm), m8⟩
          have hbs9 := hb8.chgT k9 (by simpa using hgr)
          have hbt9 : Bt (updW w6 151 rw b (.slice (some ⟨g, 0, none⟩) 40 c')) g := by obtain ⟨cs, hcs⟩ := ht8; exact ⟨cs, k9.heap hcs (by simpa using hgr)⟩
          clear ht8
          have kf := kall.then k9
          clear hmu
          go_wp2_with fail
          go_roundw
          case rel => exact Or.inr ⟨rfl, g, c', kf, hbuf, hbs9, hbt9⟩
          case measure => decide
        · go_wp2_with fail
          go_ret
          exact ⟨g, c', rfl, kf, hbf, hbs, hbt⟩
end Go.Proofs.YtfodeeejolkkfaaGreat
namespace Go.Proofs.YtfodeeejolkkfaaGreat
open Go.RowKit Go.Lib

set_option maxRecDepth 100000 in
theorem twrite_one (w : World) {M X rx B rb r T W rw Q V E eo cp D o c : Nat} {last : Int} {Lb L : List (Int × Value)} {v s : Value} {b : Int} {l : List UInt8} (h : Mg w M X rx B rb r last Lb [(1, .pointer (some ⟨T, 0, none⟩))]) (hT : Tx w X T W rw Q V L v s)
    (e0 : w.cell? ⟨E, eo, none⟩ = some (.int .i64 b)) (e1 : w.cell? ⟨E, eo + 1, none⟩ = some (.slice (some ⟨D, o, none⟩) 40 c)) (hb : Bs w (some ⟨D, o, none⟩) l) (hl : l.length = 40) (h0 : 0 ≤ b) (h1 : b < 258) (hroom : L.length ≤ 15) :
    Calls Tryz.prog 92 #[.pointer (some ⟨M, 0, none⟩), .int .i64 1, .slice (some ⟨E, eo, none⟩) 1 cp] w fun e w' =>
    ∃ g c', e = .returned (.int .i64 0) ∧ Chg [rw] w w' ∧ BufAt w' W rw (putL L b (.slice (some ⟨g, 0, none⟩) 40 c')) ∧ Bs w' (some ⟨g, 0, none⟩) l ∧ Bt w' g := by
  have t4 : w.cell? ⟨T, 4, none⟩ = some (.pointer (some ⟨W, 0, none⟩)) := cell_is hT.tx 4 rfl
  have HO := Lib.hid (topen_one w h hT.tx)
  have HW := Lib.hid (wwrite_one w (cp := cp) hT.buf e0 e1 hb hl h0 h1 hroom)
  clear h hT e0 e1 hb hl
  go_enter Tryz.func92, Tryz.ntmps92
  go_wp2_with fail
  refine HO.out.mono ?_
  rintro e w1 ⟨rfl, rfl⟩
  go_wp2_with fail
  refine HW.out.mono ?_
  rintro e w1 ⟨g, c', rfl, k, hbf, hbs, hbt⟩
  go_wp2_with fail
  go_ret
  exact ⟨g, c', rfl, k, hbf, hbs, hbt⟩
set_option maxRecDepth 100000 in
theorem swrite_one (w : World) {P N S M X rx B rb r T W rw Q V E eo cp D o c : Nat} {last : Int} {Lb L : List (Int × Value)} {v s : Value} {b : Int} {l : List UInt8} (hP : StoreAt w P N S (some ⟨M, 0, none⟩)) (h : Mg w M X rx B rb r last Lb [(1, .pointer (some ⟨T, 0, none⟩))]) (hT : Tx w X T W rw Q V L v s)
    (e0 : w.cell? ⟨E, eo, none⟩ = some (.int .i64 b)) (e1 : w.cell? ⟨E, eo + 1, none⟩ = some (.slice (some ⟨D, o, none⟩) 40 c)) (hb : Bs w (some ⟨D, o, none⟩) l) (hl : l.length = 40) (h0 : 0 ≤ b) (h1 : b < 258) (hroom : L.length ≤ 15) :
    Calls Tryz.prog 48 #[.pointer (some ⟨P, 0, none⟩), .int .i64 1, .slice (some ⟨E, eo, none⟩) 1 cp] w fun e w' =>
    ∃ g c', e = .returned (.int .i64 0) ∧ Chg [rw] w w' ∧ BufAt w' W rw (putL L b (.slice (some ⟨g, 0, none⟩) 40 c')) ∧ Bs w' (some ⟨g, 0, none⟩) l ∧ Bt w' g := by
  have c5 := (store_cells hP).2.2.2.2.2.1
  have HO := Lib.hid (dead_any w hP)
  have HW := Lib.hid (twrite_one w (cp := cp) h hT e0 e1 hb hl h0 h1 hroom)
  clear h hT e0 e1 hb hl hP
  go_enter Tryz.func48, Tryz.ntmps48
  go_wp2_with fail
  refine HO.out.mono ?_
  rintro e w1 ⟨rfl, rfl⟩
  go_wp2_with fail
  refine HW.out.mono ?_
  rintro e w1 ⟨g, c', rfl, k, hbf, hbs, hbt⟩
  go_wp2_with fail
  go_ret
  exact ⟨g, c', rfl, k, hbf, hbs, hbt⟩
end Go.Proofs.YtfodeeejolkkfaaGreat
namespace Go.Proofs.YtfodeeejolkkfaaGreat
open Go.RowKit Go.Lib

set_option maxRecDepth 100000 in
theorem bget_none (w : World) {W rw : Nat} {L : List (Int × Value)} {b : Int} (h : BufAt w W rw L) (hg : getL L b = none) : Calls Tryz.prog 211 #[.pointer (some ⟨W, 0, none⟩), .int .i64 b] w fun e w' => e = .returned (.tuple #[.slice none 0 0, .bool false]) ∧ w = w' := by
  have c2 : w.cell? ⟨W, 2, none⟩ = some (.map (some rw)) := cell_is h.1 2 rfl
  have hl : (Instr.lookup 151 (.map (some rw)) (.int .i64 b) true).run Tryz.prog w = .ok (.tuple #[.slice none 0 0, .bool false]) w := by
    rw [lookup151 h.2 b true, hg]
    rfl
  clear h
  go_enter Tryz.func211, Tryz.ntmps211
  go_wp2_with fail
  refine (clone_nil w).mono ?_
  rintro e w1 ⟨rfl, rfl⟩
  go_wp2_with fail
  go_ret2
  exact ⟨rfl, rfl⟩
set_option maxRecDepth 100000 in
theorem bget_some (w : World) {W rw g c : Nat} {L : List (Int × Value)} {b : Int} {l : List UInt8} (h : BufAt w W rw L) (hg : getL L b = some (.slice (some ⟨g, 0, none⟩) 40 c)) (hb : Bs w (some ⟨g, 0, none⟩) l) (hl : l.length = 40) : Calls Tryz.prog 211 #[.pointer (some ⟨W, 0, none⟩), .int .i64 b] w fun e w' =>
    ∃ g' c', e = .returned (.tuple #[.slice (some ⟨g', 0, none⟩) 40 c', .bool true]) ∧ Chg [] w w' ∧ Bs w' (some ⟨g', 0, none⟩) l ∧ w.heap.size ≤ g' := by
  have c2 : w.cell? ⟨W, 2, none⟩ = some (.map (some rw)) := cell_is h.1 2 rfl
  have hlk : (Instr.lookup 151 (.map (some rw)) (.int .i64 b) true).run Tryz.prog w = .ok (.tuple #[.slice (some ⟨g, 0, none⟩) 40 c, .bool true]) w := by
    rw [lookup151 h.2 b true, hg]
    rfl
  have HC := Lib.hid (clone_bs w (c := c) hl (by decide) (by decide) hb)
  clear h hb
  go_enter Tryz.func211, Tryz.ntmps211
  go_wp2_with fail
  refine HC.out.mono ?_
  rintro e w1 ⟨g', c', rfl, hc, hb1, l1⟩
  go_wp2_with fail
  go_ret2
  exact ⟨g', c', rfl, hc, hb1, l1⟩
set_option maxRecDepth 100000 in
theorem sblocks_any (w : World) {P N S A c : Nat} {m : Option Addr} {ops : Int} {Z : List Nat} (h : StoreAt w P N S m) (hD : DevAt w N A c ops Z) : Calls Tryz.prog 76 #[.pointer (some ⟨P, 0, none⟩)] w fun e w' => e = .returned (.int .i64 258) ∧ Chg [] w w' := by
  have c0 := (store_cells h).1
  have HG := Lib.hid (geometry_any w hD)
  clear h hD
  go_enter Tryz.func76, Tryz.ntmps76
  go_wp2_with fail
  refine HG.out.mono ?_
  rintro e w1 ⟨rfl, hc1⟩
  go_wp2_with fail
  refine (cap_min w1).mono ?_
  rintro e w2 ⟨rfl, hc2⟩
  go_wp2_with fail
  go_ret
  exact ⟨rfl, hc1.then hc2⟩
set_option maxRecDepth 100000 in
theorem ccount_any (w : World) {P N S A c : Nat} {m : Option Addr} {ops : Int} {Z : List Nat} (h : StoreAt w P N S m) (hD : DevAt w N A c ops Z) : Calls Tryz.prog 36 #[.pointer (some ⟨P, 0, none⟩)] w fun e w' => e = .returned (.int .i64 1290) ∧ Chg [] w w' := by
  have HG := Lib.hid (sblocks_any w h hD)
  clear h hD
  go_enter Tryz.func36, Tryz.ntmps36
  go_wp2_with fail
  refine HG.out.mono ?_
  rintro e w1 ⟨rfl, hc1⟩
  go_wp2_with fail
  go_ret
  exact ⟨rfl, hc1⟩
end Go.Proofs.YtfodeeejolkkfaaGreat
namespace Go.Proofs.YtfodeeejolkkfaaGreat
open Go.RowKit Go.Lib

/-- the row of eight bytes of which j are written. -/
def rowJ (v : Nat) (j : Nat) : Array Value := ((List.range 8).map fun i => Value.int .u8 (if i < j then ((v / 256 ^ (7 - i) % 256 : Nat) : Int) else 0)).toArray
theorem make8 (w : World) : (Instr.makeSlice 23 (.int .i64 8) (.int .i64 8)).run Tryz.prog w = .ok (.slice (some ⟨w.heap.size, 0, none⟩) 8 8) (w.alloc (.cells (rowJ 0 0) 5)) := by kernel_rfl
theorem rowJ_zero (v u : Nat) : rowJ v 0 = rowJ u 0 := by simp [rowJ]
theorem rowJ_set (v j : Nat) (h : j < 8) : (rowJ v j).setIfInBounds j (.int .u8 ((v / 256 ^ (7 - j) % 256 : Nat) : Int)) = rowJ v (j + 1) := by
  obtain rfl | rfl | rfl | rfl | rfl | rfl | rfl | rfl : j = 0 ∨ j = 1 ∨ j = 2 ∨ j = 3 ∨ j = 4 ∨ j = 5 ∨ j = 6 ∨ j = 7 := by omega
  all_goals simp [rowJ, List.range, List.range.loop]
set_option maxRecDepth 100000 in
set_option maxHeartbeats 1000000 in
theorem encode_any (w : World) (x : Nat) (_hx : canB x < 18446744073709551616) : Calls Tryz.prog 37 #[.float .f64 x] w fun e w' => ∃ g, e = .returned (.slice (some ⟨g, 0, none⟩) 8 8) ∧ Chg [] w w' ∧ w'.heap[g]? = some (.cells (rowJ (canB x) 8) 5 (0, 0)) ∧ w.heap.size ≤ g := by
  have hmk := make8
  generalize hv : canB x = v at *
  go_enter Tryz.func37, Tryz.ntmps37
  go_wp2_with fail
  go_region_held3 (fun wx => wx.heap.size = wx.heap.size) (first | (exact rfl)) (first | (go_at_call 50; refine (fbits_any x _).mono ?_; rintro e w1 ⟨rfl, rfl⟩))
  all_goals
    have g0 : (w.alloc (.cells (rowJ 0 0) 5)).drew.heap[w.heap.size]? = some (.cells (rowJ v 0) 5 (0, 0)) := by
      rw [rowJ_zero v 0]
      exact heap_new w _
    have k0 : Chg [] w (w.alloc (.cells (rowJ 0 0) 5)).drew := (Chg.alloc w _).drew
    generalize (w.alloc (.cells (rowJ 0 0) 5)).drew = w1 at *
    generalize hz : w.heap.size = z at *
    go_wp2_with fail
    go_loopw [11] (fun i wr => ∃ j : Nat, j ≤ 8 ∧ i = .int .i64 j ∧ Chg [] w wr ∧ wr.heap[z]? = some (.cells (rowJ v j) 5 (0, 0))) (fun i _ => 8 - (intOf i).toNat)
    case atStart => exact ⟨0, by omega, rfl, k0, g0⟩
    case round =>
      obtain ⟨j, hj, rfl, kc, gj⟩ := hrel
      by_cases hlt : j < 8
      · have cj : wr.cell? ⟨z, j, none⟩ = some (.int .u8 0) := by
          refine cell_is gj j ?_
          obtain rfl | rfl | rfl | rfl | rfl | rfl | rfl | rfl : j = 0 ∨ j = 1 ∨ j = 2 ∨ j = 3 ∨ j = 4 ∨ j = 5 ∨ j = 6 ∨ j = 7 := by omega
          all_goals simp [rowJ, List.range, List.range.loop]
        have fj := unfrozen gj j
        clear g0 k0
        go_wp2_with fail
        have e : (v : Int) / 2 ^ (8 * (7 - j)) % 256 = ((v / 256 ^ (7 - j) % 256 : Nat) : Int) := by
          have h2 : (2 : Int) ^ (8 * (7 - j)) = ((256 ^ (7 - j) : Nat) : Int) := by
            rw [Int.pow_mul, Int.natCast_pow]
            rfl
          rw [h2]
          rfl
        refine ⟨⟨j + 1, by omega, by simp, kc.new_set (by omega) j _, ?_⟩, by simp [intOf]; omega⟩
        rw [e]
        exact heap_set gj j _ (rowJ_set v j hlt)
      · obtain rfl : j = 8 := by omega
        go_wp2_with fail
        go_ret
        exact ⟨z, rfl, kc, gj, by omega⟩
theorem rowJ_full (v : Nat) : rowJ v 8 = (Lib.byteCells (be8 v)).toArray := by
  simp [rowJ, List.range, List.range.loop, Lib.byteCells, be8]
theorem encode_bs (w : World) (x : Nat) (hx : canB x < 18446744073709551616) : Calls Tryz.prog 37 #[.float .f64 x] w fun e w' => ∃ g, e = .returned (.slice (some ⟨g, 0, none⟩) 8 8) ∧ Chg [] w w' ∧ Bs w' (some ⟨g, 0, none⟩) (encB x) ∧ w.heap.size ≤ g := by
  refine (encode_any w x hx).mono ?_
  rintro e w' ⟨g, rfl, hc, hg, hl⟩
  refine ⟨g, rfl, hc, ?_, hl⟩
  rw [rowJ_full] at hg
  exact Bs.row hg
/-- the doubles of a list lie here. -/
def Fl (w : World) (pa : Option Addr) (l : List Nat) : Prop := l = [] ∨ ∃ b o, pa = some ⟨b, o, none⟩ ∧ ∀ j (h : j < l.length), w.cell? ⟨b, o + j, none⟩ = some (.float .f64 l[j])
theorem Fl.keep {w w' : World} {pa : Option Addr} {l : List Nat} (h : Fl w pa l) (hc : Chg [] w w') : Fl w' pa l := by
  rcases h with h | ⟨b, o, e, h⟩
  · exact Or.inl h
  · exact Or.inr ⟨b, o, e, fun j hj => hc.cell (h j hj) (by simp)⟩
set_option maxRecDepth 100000 in
set_option maxHeartbeats 1000000 in
theorem pack_any (w : World) {pa : Option Addr} {m c : Nat} {l : List Nat} (hl : l.length = m) (hm : m ≤ 1000000) (hF : Fl w pa l) (hx : ∀ x ∈ l, canB x < 18446744073709551616) : Calls Tryz.prog 10 #[.slice pa m c] w fun e w' =>
    ∃ v, e = .returned (.tuple #[v, .int .i64 (if m = 5 then 0 else 3)]) ∧ Chg [] w w' ∧ (m ≠ 5 → v = .slice none 0 0) ∧ (m = 5 → ∃ g c', v = .slice (some ⟨g, 0, none⟩) 40 c' ∧ Bs w' (some ⟨g, 0, none⟩) (packB l) ∧ w.heap.size ≤ g ∧ 40 ≤ c') := by
  by_cases h5 : m = 5
  · subst h5
    go_enter Tryz.func10, Tryz.ntmps10
    go_wp2_with fail
    go_loopw [2, 11] (fun v i wr => ∃ j : Nat, j ≤ 5 ∧ i = .int .i64 j ∧ Chg [] w wr ∧ wr.ownsRow w.heap.size 5 1 v (8 * j) (Lib.byteCells (packB (l.take j)))) (fun _ i _ => 5 - (intOf i).toNat)
    case atStart => exact ⟨0, by omega, rfl, Chg.refl _ _, World.ownsRow_nil _ _ _ _⟩
    case round =>
      obtain ⟨j, hj, rfl, kc, ho⟩ := hrel
      by_cases hlt : j < 5
      · have cj : ∃ b o, pa = some ⟨b, o, none⟩ ∧ wr.cell? ⟨b, o + j, none⟩ = some (.float .f64 l[j]) := by
          rcases hF.keep kc with h | ⟨b, o, e, h⟩
          · rw [h] at hl; simp at hl
          · exact ⟨b, o, e, h j (by omega)⟩
        obtain ⟨b, o, rfl, cj⟩ := cj
        have hxj : canB l[j] < 18446744073709551616 := hx _ (List.getElem_mem _)
        have htk : l.take (j + 1) = l.take j ++ [l[j]] := by rw [List.take_succ_eq_append_getElem]
        have HO := Lib.hid ho
        have HF := Lib.hid hF
        have HX := Lib.hid hx
        clear ho hF hx
        generalize hxe : l[j] = x at *
        have hs0 := kc.size
        go_wp2_with fail
        refine (encode_bs wr x hxj).mono ?_
        rintro e w1 ⟨g, rfl, k1, hb1, l1⟩
        have ho1 := own_keep HO.out k1.below0
        have hs1 : w.heap.size ≤ w1.heap.size := Nat.le_trans hs0 k1.size
        have HB1 := Lib.hid hb1
        clear hb1
        go_wp2_with (first | (at_builtin; refine wpList_append_bs rfl (.tmp 15) (.tmp 17) 23 5 rfl ty23 inf5c w.heap.size _ (8 * j) (packB (l.take j)) rfl ho1 _ 8 8 (encB x) rfl rfl HB1.out (by omega) hs1 ?_; intro v1 w2 h2))
        go_roundw
        case rel => exact ⟨j + 1, by omega, by simp, Chg.of_below ((kc.then k1).below0.trans h2.2.1), by rw [htk, packB_snoc]; exact h2.1⟩
        case measure => simp [intOf]; omega
      · obtain rfl : j = 5 := by omega
        go_wp2_with fail
        go_ret2
        rcases ho.2 with ⟨e, h0⟩ | ⟨g, cap, cur, e, hA, hgt, hcap, -⟩
        · omega
        · rw [e] at ho
          refine ⟨_, rfl, kc, g, cap, e, ?_, hA, by omega⟩
          have := Bs.own ho
          rwa [List.take_of_length_le (by omega)] at this
  · have hm5 : ¬ (m : Int) = 5 := by omega
    go_enter Tryz.func10, Tryz.ntmps10
    go_wp2_with fail
    go_ret2
    first | exact ⟨rfl, Chg.refl _ _⟩ | exact ⟨_, rfl, Chg.refl _ _, by simp⟩
end Go.Proofs.YtfodeeejolkkfaaGreat
namespace Go.Proofs.YtfodeeejolkkfaaGreat
open Go.RowKit Go.Lib

theorem de_take (l : List UInt8) (j : Nat) (h : j < l.length) : de 0 (l.take (j + 1)) = de 0 (l.take j) * 256 + l[j].toNat := by
  have key : ∀ (a : List UInt8) (v : Nat) (b : UInt8), de v (a ++ [b]) = de v a * 256 + b.toNat := by
    intro a
    induction a with
    | nil => intro v b; rfl
    | cons x a ih => intro v b; exact ih _ _
  rw [List.take_succ_eq_append_getElem h, key]
theorem or_byte (v c : Nat) (hv : v < 72057594037927936) (hc : c < 256) : bits .or .u64 ((v : Int) * 256) (IntKind.u64.wrap (c : Int)) = ((v * 256 + c : Nat) : Int) := by
  have e1 : ((v : Int) * 256) = ((v * 256 : Nat) : Int) := by omega
  have e2 : IntKind.u64.wrap (c : Int) = (c : Int) := by rw [IntKind.wrap_u64]; omega
  rw [e1, e2, u64_or_nat _ _ (by omega) (by omega)]
  have := Nat.shiftLeft_add_eq_or_of_lt (b := c) (i := 8) hc v
  rw [Nat.shiftLeft_eq] at this
  rw [this]
/-- what Decode hands back. -/
def decR (l : List UInt8) : Value := match decB l with | some x => .tuple #[.float .f64 x, .int .i64 0] | none => .tuple #[.float .f64 0, .int .i64 13]
set_option maxRecDepth 100000 in
set_option maxHeartbeats 1000000 in
theorem decode_any (w : World) {pa : Option Addr} {m c : Nat} {l : List UInt8} (hl : l.length = m) (hm : m ≤ 1000000) (hB : Bs w pa l) : Calls Tryz.prog 39 #[.slice pa m c] w fun e w' =>
    e = .returned (decR l) ∧ w = w' := by
  by_cases h8 : m = 8
  · subst h8
    rcases hB with h | ⟨b, o, rfl, hb, hc⟩
    · rw [h] at hl; simp at hl
    go_enter Tryz.func39, Tryz.ntmps39
    go_wp2_with fail
    go_loop [4, 13] (fun v i => ∃ j : Nat, j ≤ 8 ∧ i = .int .i64 j ∧ v = .int .u64 (de 0 (l.take j))) (fun _ i => 8 - (intOf i).toNat)
    case atStart => exact ⟨0, by omega, rfl, rfl⟩
    case round =>
      obtain ⟨j, hj, rfl, rfl⟩ := hrel
      by_cases hlt : j < 8
      · have cj := hc j (by omega)
        have hde := de_lt (l.take j) 0
        have hv : de 0 (l.take j) < 72057594037927936 := by
          rw [List.length_take, Nat.min_eq_left (by omega)] at hde
          have := Nat.pow_le_pow_right (n := 256) (by decide) (show j ≤ 7 by omega)
          have e7 : (256 : Nat) ^ 7 = 72057594037927936 := by decide
          omega
        have hdt := de_take l j (by omega)
        generalize de 0 (l.take j) = v at *
        go_wp2_with fail
        refine ⟨⟨j + 1, by omega, by simp, ?_⟩, by simp [intOf]; omega⟩
        rw [or_byte v _ hv (UInt8.toNat_lt _), hdt]
      · obtain rfl : j = 8 := by omega
        rw [List.take_of_length_le (by omega)]
        have h64 := de8_lt hl
        go_wp2_with fail
        refine (fromBits_any _ w).mono ?_
        rintro e w1 ⟨rfl, rfl⟩
        go_wp2_with fail
        refine (fbits_any _ w).mono ?_
        rintro e w1 ⟨rfl, rfl⟩
        have hcc : canB (canB (de 0 l)) = canB (de 0 l) := by
          unfold canB
          split <;> rename_i h
          · rfl
          · first | rfl | rw [if_neg h]
        rw [hcc]
        by_cases hq : canB (de 0 l) = de 0 l
        · have hR : decR l = .tuple #[.float .f64 (de 0 l), .int .i64 0] := by
            unfold decR decB
            rw [if_pos ⟨hl, hq⟩]
          have hq2 : ((canB (de 0 l) : Nat) : Int) = (de 0 l : Nat) := by rw [hq]
          generalize canB (de 0 l) = y at *
          go_wp2_with fail
          go_ret2
          exact ⟨by rw [hR]; rfl, rfl⟩
        · have hR : decR l = .tuple #[.float .f64 0, .int .i64 13] := by
            unfold decR decB
            rw [if_neg (fun h => hq h.2)]
          have hq2 : ¬ ((canB (de 0 l) : Nat) : Int) = (de 0 l : Nat) := by omega
          generalize canB (de 0 l) = y at *
          go_wp2_with fail
          go_ret2
          exact ⟨by rw [hR]; rfl, rfl⟩
  · have hm8 : ¬ (m : Int) = 8 := by omega
    have hd : decR l = .tuple #[.float .f64 0, .int .i64 13] := by unfold decR decB; rw [if_neg (by omega)]
    go_enter Tryz.func39, Tryz.ntmps39
    go_wp2_with fail
    go_ret2
    exact ⟨by rw [hd]; rfl, rfl⟩
end Go.Proofs.YtfodeeejolkkfaaGreat
namespace Go.Proofs.YtfodeeejolkkfaaGreat
open Go.RowKit Go.Lib

theorem ty22 : Tryz.prog.underlying 22 = some (.slice 42) := by kernel_rfl
theorem inf42 : (Tryz.prog.info? 42).map (fun i => (i.zero, i.size, i.bytes)) = some (some (.float .f64 0), 1, 8) := by kernel_rfl
def flCells (l : List Nat) : List Value := l.map fun x => .float .f64 x
theorem flCells_one (l : List Nat) : ∀ u ∈ flCells l, u.oneCell' = true := by
  intro u hu
  simp only [flCells, List.mem_map] at hu
  obtain ⟨x, _, rfl⟩ := hu
  rfl
/-- what Unpack of forty bytes leaves. -/
def UnR (w : World) (l : List UInt8) (e : Ending) (w' : World) : Prop :=
  (∃ v xs, unpackB l = some xs ∧ e = .returned (.tuple #[v, .int .i64 0]) ∧ Chg [] w w' ∧ w'.ownsRow w.heap.size 42 1 v 5 (flCells xs)) ∨ (unpackB l = none ∧ e = .returned (.tuple #[.slice none 0 0, .int .i64 13]) ∧ Chg [] w w')
theorem Bs.sub {w : World} {b o : Nat} {l : List UInt8} (h : Bs w (some ⟨b, o, none⟩) l) (i n : Nat) : Bs w (some ⟨b, o + i, none⟩) ((l.drop i).take n) := by
  rcases h with h | ⟨b', o', e, hb, h⟩
  · rw [h]; exact Or.inl (by simp)
  · cases e
    refine Or.inr ⟨b, o + i, rfl, hb, fun j hj => ?_⟩
    have hj2 : i + j < l.length := by simp at hj; omega
    rw [Nat.add_assoc, h (i + j) hj2]
    simp
set_option maxRecDepth 100000 in
set_option maxHeartbeats 1000000 in
theorem unpack_forty (w : World) {b o c : Nat} {l : List UInt8} (hl : l.length = 40) (hc : 40 ≤ c) (hB : Bs w (some ⟨b, o, none⟩) l) : Calls Tryz.prog 12 #[.slice (some ⟨b, o, none⟩) 40 c] w (UnR w l) := by
  go_enter Tryz.func12, Tryz.ntmps12
  go_wp2_with fail
  go_loopw [2, 4] (fun v i wr => ∃ j : Nat, j ≤ 5 ∧ i = .int .i64 (8 * j : Nat) ∧ ∃ xs, unpackN j l = some xs ∧ xs.length = j ∧ Chg [] w wr ∧ wr.ownsRow w.heap.size 42 1 v j (flCells xs)) (fun _ i _ => 40 - (intOf i).toNat)
  case atStart => exact ⟨0, by omega, rfl, [], rfl, rfl, Chg.refl _ _, World.ownsRow_nil _ _ _ _⟩
  case round =>
    obtain ⟨j, hj, rfl, xs, hu, hxl, kc, ho⟩ := hrel
    by_cases hlt : j < 5
    · have hB1 := (hB.chg kc).sub (8 * j) 8
      have hs0 := kc.size
      have hsl : ((l.drop (8 * j)).take 8).length = 8 := by simp; omega
      have HD := Lib.hid (decode_any wr (c := c - 8 * j) hsl (by decide) hB1)
      have hsn := unpackN_snoc j l xs hu
      have f1 : ((8 * j : Nat) : Int) < 40 := by omega
      have HO := Lib.hid ho
      clear hB hB1 ho
      go_wp2_with fail
      refine HD.out.mono ?_
      rintro e w1 ⟨rfl, rfl⟩
      clear HD
      generalize (l.drop (8 * j)).take 8 = sub at *
      cases hd : decB sub with
      | none =>
        rw [hd] at hsn
        have hR : decR sub = .tuple #[.float .f64 0, .int .i64 13] := by unfold decR; rw [hd]
        rw [hR]
        have hno : unpackB l = none := by
          unfold unpackB
          rw [if_pos hl]
          have := unpackN_no (j + 1) (4 - j) l hsn
          rwa [show j + 1 + (4 - j) = 5 by omega] at this
        go_wp2_with fail
        go_ret2
        exact Or.inr ⟨hno, rfl, kc⟩
      | some x =>
        rw [hd] at hsn
        have hR : decR sub = .tuple #[.float .f64 x, .int .i64 0] := by unfold decR; rw [hd]
        rw [hR]
        go_wp2_with (at_builtin; refine wpList_append_lit rfl (.tmp 27) (.tmp 29) 22 42 rfl ty22 inf42 rfl (by decide) w.heap.size wr (flCells [x]) 1 rfl _ j (flCells xs) rfl HO.out (by omega) (by decide) hs0 (k := 0) rfl (flCells_one _) rfl 1 rfl ?_; intro v' w' hap)
        go_roundw
        case rel => exact ⟨j + 1, by omega, by congr 1, xs ++ [x], hsn, by simp [hxl], Chg.of_below (kc.below0.trans hap.2.1), by have := hap.1; unfold flCells at *; simpa using this⟩
        case measure => simp [intOf]; omega
    · obtain rfl : j = 5 := by omega
      go_wp2_with fail
      go_ret2
      refine Or.inl ⟨_, xs, ?_, rfl, kc, ho⟩
      unfold unpackB
      rw [if_pos hl, hu]
set_option maxRecDepth 100000 in
theorem unpack_other (w : World) {pa : Option Addr} {m c : Nat} (hm : m ≠ 40) (_hm1 : m ≤ 1000000) : Calls Tryz.prog 12 #[.slice pa m c] w fun e w' => e = .returned (.tuple #[.slice none 0 0, .int .i64 3]) ∧ w = w' := by
  have h : ¬ (m : Int) = 40 := by omega
  go_enter Tryz.func12, Tryz.ntmps12
  go_wp2_with fail
  go_ret2
  exact ⟨rfl, rfl⟩
end Go.Proofs.YtfodeeejolkkfaaGreat
namespace Go.Proofs.YtfodeeejolkkfaaGreat
open Go.RowKit Go.Lib

theorem be8_at (v j : Nat) (h : j < 8) : Lib.byteCells ((be8 v).take (j + 1)) = Lib.byteCells ((be8 v).take j) ++ [.int .u8 ((v / 256 ^ (7 - j) % 256 : Nat) : Int)] := by
  obtain rfl | rfl | rfl | rfl | rfl | rfl | rfl | rfl : j = 0 ∨ j = 1 ∨ j = 2 ∨ j = 3 ∨ j = 4 ∨ j = 5 ∨ j = 6 ∨ j = 7 := by omega
  all_goals simp [be8, Lib.byteCells]
set_option maxRecDepth 100000 in
set_option maxHeartbeats 1000000 in
theorem rencode_any (w : World) (x : Nat) (_hx : canB x < 18446744073709551616) : Calls Tryz.prog 38 #[.float .f64 x] w fun e w' => ∃ g c', e = .returned (.slice (some ⟨g, 0, none⟩) 8 c') ∧ Chg [] w w' ∧ Bs w' (some ⟨g, 0, none⟩) (encB x) ∧ w.heap.size ≤ g := by
  have hE : encB x = be8 (canB x) := rfl
  rw [hE]
  generalize hv : canB x = v at *
  go_enter Tryz.func38, Tryz.ntmps38
  go_wp2_with fail
  refine (rbits_any x w).mono ?_
  rintro e w1 ⟨rfl, rfl⟩
  rw [hv]
  go_wp2_with fail
  go_loopw [4, 5] (fun u i wr => ∃ j : Nat, j ≤ 8 ∧ i = .int .i64 (56 - 8 * (j : Int)) ∧ Chg [] w wr ∧ wr.ownsRow w.heap.size 5 1 u j (Lib.byteCells ((be8 v).take j))) (fun _ i _ => (intOf i + 8).toNat)
  case atStart => exact ⟨0, by omega, rfl, Chg.refl _ _, World.ownsRow_nil _ _ _ _⟩
  case round =>
    obtain ⟨j, hj, rfl, kc, ho⟩ := hrel
    by_cases hlt : j < 8
    · have f1 : ¬ (56 : Int) - 8 * (j : Int) < 0 := by omega
      have f2 : (0 : Int) ≤ 56 - 8 * (j : Int) := by omega
      have hs0 := kc.size
      have HO := Lib.hid ho
      have e : (v : Int) / 2 ^ (56 - 8 * j) % 256 = ((v / 256 ^ (7 - j) % 256 : Nat) : Int) := by
        have h2 : (2 : Int) ^ (56 - 8 * j) = ((256 ^ (7 - j) : Nat) : Int) := by
          rw [show 56 - 8 * j = 8 * (7 - j) by omega, Int.pow_mul, Int.natCast_pow]
          rfl
        rw [h2]
        rfl
      have hat := be8_at v j hlt
      have f3 : (56 : Int) - 8 * (j : Int) - 8 = 56 - 8 * ((j + 1 : Nat) : Int) := by omega
      clear ho
      go_wp2_with (at_builtin; refine wpList_append_lit rfl (.tmp 12) (.tmp 17) 23 5 rfl ty23 inf5c rfl (by decide) w.heap.size wr [.int .u8 ((v / 256 ^ (7 - j) % 256 : Nat) : Int)] 1 rfl _ j (Lib.byteCells ((be8 v).take j)) rfl HO.out (by omega) (by decide) hs0 (k := 0) (by first | rfl | rw [e]) (by intro u hu; simp at hu; subst hu; rfl) rfl 1 rfl ?_; intro v' w' hap)
      go_roundw
      case rel => exact ⟨j + 1, by omega, by simp, Chg.of_below (kc.below0.trans hap.2.1), by rw [hat]; exact hap.1⟩
      case measure => simp [intOf]; omega
    · obtain rfl : j = 8 := by omega
      go_wp2_with fail
      go_ret
      rcases ho.2 with ⟨e, h0⟩ | ⟨g, cap, cur, e, hA, -⟩
      · omega
      · rw [e] at ho
        refine ⟨g, cap, by rw [← e]; rfl, kc, ?_, hA⟩
        exact Bs.own ho
end Go.Proofs.YtfodeeejolkkfaaGreat
namespace Go.Proofs.YtfodeeejolkkfaaGreat
open Go.RowKit Go.Lib

set_option maxRecDepth 100000 in
set_option maxHeartbeats 1000000 in
theorem rdecode_any (w : World) {pa : Option Addr} {m c : Nat} {l : List UInt8} (hl : l.length = m) (hm : m ≤ 1000000) (hB : Bs w pa l) : Calls Tryz.prog 40 #[.slice pa m c] w fun e w' =>
    e = .returned (decR l) ∧ w = w' := by
  by_cases h8 : m = 8
  · subst h8
    rcases hB with h | ⟨b, o, rfl, hb, hc⟩
    · rw [h] at hl; simp at hl
    go_enter Tryz.func40, Tryz.ntmps40
    go_wp2_with fail
    go_loop [4, 5] (fun v i => ∃ j : Nat, j ≤ 8 ∧ i = .int .i64 j ∧ v = .int .u64 (de 0 (l.take j))) (fun _ i => 8 - (intOf i).toNat)
    case atStart => exact ⟨0, by omega, rfl, rfl⟩
    case round =>
      obtain ⟨j, hj, rfl, rfl⟩ := hrel
      by_cases hlt : j < 8
      · have cj := hc j (by omega)
        have hde := de_lt (l.take j) 0
        have hv : de 0 (l.take j) < 72057594037927936 := by
          rw [List.length_take, Nat.min_eq_left (by omega)] at hde
          have := Nat.pow_le_pow_right (n := 256) (by decide) (show j ≤ 7 by omega)
          have e7 : (256 : Nat) ^ 7 = 72057594037927936 := by decide
          omega
        have hdt := de_take l j (by omega)
        generalize de 0 (l.take j) = v at *
        go_wp2_with fail
        refine ⟨⟨j + 1, by omega, by simp, ?_⟩, by simp [intOf]; omega⟩
        rw [or_byte v _ hv (UInt8.toNat_lt _), hdt]
      · obtain rfl : j = 8 := by omega
        rw [List.take_of_length_le (by omega)]
        have h64 := de8_lt hl
        by_cases hq : canB (de 0 l) = de 0 l
        · have hR : decR l = .tuple #[.float .f64 (de 0 l), .int .i64 0] := by
            unfold decR decB
            rw [if_pos ⟨hl, hq⟩]
          have HF := Lib.hid (rfrom_any (de 0 l) w h64)
          rw [hq] at HF
          by_cases hn : 9218868437227405312 < bits .andNot .u64 ((de 0 l : Nat) : Int) 9223372036854775808
          · have hv0 := can_nan h64 hn
            rw [hq] at hv0
            have hv : (((de 0 l : Nat) : Int) != 9221120237041090560) = false := by
              have h : ((de 0 l : Nat) : Int) = 9221120237041090560 := congrArg Int.ofNat hv0
              rw [h]
              decide
            clear hv0 hq
            generalize de 0 l = y at *
            go_wp2_with fail
            refine HF.out.mono ?_
            rintro e w1 ⟨rfl, rfl⟩
            go_wp2_with fail
            go_ret2
            exact ⟨by rw [hR]; rfl, rfl⟩
          · generalize de 0 l = y at *
            go_wp2_with fail
            refine HF.out.mono ?_
            rintro e w1 ⟨rfl, rfl⟩
            go_wp2_with fail
            go_ret2
            exact ⟨by rw [hR]; rfl, rfl⟩
        · have hR : decR l = .tuple #[.float .f64 0, .int .i64 13] := by
            unfold decR decB
            rw [if_neg (fun h => hq h.2)]
          have hn : 9218868437227405312 < bits .andNot .u64 ((de 0 l : Nat) : Int) 9223372036854775808 := by
            by_cases h : 9218868437227405312 < bits .andNot .u64 ((de 0 l : Nat) : Int) 9223372036854775808
            · exact h
            · exact absurd (can_not h64 (by omega)) hq
          have hv : ¬ ((de 0 l : Nat) : Int) = 9221120237041090560 := by
            intro h
            apply hq
            rw [can_nan h64 hn]
            unfold nanB
            omega
          generalize de 0 l = y at *
          go_wp2_with fail
          go_ret2
          first | exact ⟨by rw [hR]; rfl, rfl⟩ | exact ⟨rfl, rfl⟩
  · have hm8 : ¬ (m : Int) = 8 := by omega
    have hd : decR l = .tuple #[.float .f64 0, .int .i64 13] := by unfold decR decB; rw [if_neg (by omega)]
    go_enter Tryz.func40, Tryz.ntmps40
    go_wp2_with fail
    go_ret2
    exact ⟨by rw [hd]; rfl, rfl⟩
end Go.Proofs.YtfodeeejolkkfaaGreat
namespace Go.Proofs.YtfodeeejolkkfaaGreat
open Go.RowKit Go.Lib

set_option maxRecDepth 100000 in
set_option maxHeartbeats 1000000 in
theorem rpack_any (w : World) {pa : Option Addr} {m c : Nat} {l : List Nat} (hl : l.length = m) (hm : m ≤ 1000000) (hF : Fl w pa l) (hx : ∀ x ∈ l, canB x < 18446744073709551616) : Calls Tryz.prog 11 #[.slice pa m c] w fun e w' =>
    ∃ v, e = .returned (.tuple #[v, .int .i64 (if m = 5 then 0 else 3)]) ∧ Chg [] w w' ∧ (m ≠ 5 → v = .slice none 0 0) ∧ (m = 5 → ∃ g c', v = .slice (some ⟨g, 0, none⟩) 40 c' ∧ Bs w' (some ⟨g, 0, none⟩) (packB l) ∧ w.heap.size ≤ g ∧ 40 ≤ c') := by
  by_cases h5 : m = 5
  · subst h5
    go_enter Tryz.func11, Tryz.ntmps11
    go_wp2_with fail
    go_loopw [4, 5] (fun v i wr => ∃ j : Nat, j ≤ 5 ∧ i = .int .i64 j ∧ Chg [] w wr ∧ wr.ownsRow w.heap.size 5 1 v (8 * j) (Lib.byteCells (packB (l.take j)))) (fun _ i _ => 5 - (intOf i).toNat)
    case atStart => exact ⟨0, by omega, rfl, Chg.refl _ _, World.ownsRow_nil _ _ _ _⟩
    case round =>
      obtain ⟨j, hj, rfl, kc, ho⟩ := hrel
      by_cases hlt : j < 5
      · have cj : ∃ b o, pa = some ⟨b, o, none⟩ ∧ wr.cell? ⟨b, o + j, none⟩ = some (.float .f64 l[j]) := by
          rcases hF.keep kc with h | ⟨b, o, e, h⟩
          · rw [h] at hl; simp at hl
          · exact ⟨b, o, e, h j (by omega)⟩
        obtain ⟨b, o, rfl, cj⟩ := cj
        have hxj : canB l[j] < 18446744073709551616 := hx _ (List.getElem_mem _)
        have htk : l.take (j + 1) = l.take j ++ [l[j]] := by rw [List.take_succ_eq_append_getElem]
        have HO := Lib.hid ho
        have HF := Lib.hid hF
        have HX := Lib.hid hx
        clear ho hF hx
        generalize hxe : l[j] = x at *
        have hs0 := kc.size
        go_wp2_with fail
        refine (rencode_any wr x hxj).mono ?_
        rintro e w1 ⟨g, c8, rfl, k1, hb1, l1⟩
        have ho1 := own_keep HO.out k1.below0
        have hs1 : w.heap.size ≤ w1.heap.size := Nat.le_trans hs0 k1.size
        have HB1 := Lib.hid hb1
        clear hb1
        go_wp2_with (first | (at_builtin; refine wpList_append_bs rfl (.tmp 15) (.tmp 20) 23 5 rfl ty23 inf5c w.heap.size _ (8 * j) (packB (l.take j)) rfl ho1 _ 8 c8 (encB x) rfl rfl HB1.out (by omega) hs1 ?_; intro v1 w2 h2))
        go_roundw
        case rel => exact ⟨j + 1, by omega, by simp, Chg.of_below ((kc.then k1).below0.trans h2.2.1), by rw [htk, packB_snoc]; exact h2.1⟩
        case measure => simp [intOf]; omega
      · obtain rfl : j = 5 := by omega
        go_wp2_with fail
        go_ret2
        rcases ho.2 with ⟨e, h0⟩ | ⟨g, cap, cur, e, hA, hgt, hcap, -⟩
        · omega
        · rw [e] at ho
          refine ⟨_, rfl, kc, g, cap, e, ?_, hA, by omega⟩
          have := Bs.own ho
          rwa [List.take_of_length_le (by omega)] at this
  · have hm5 : ¬ (m : Int) = 5 := by omega
    go_enter Tryz.func11, Tryz.ntmps11
    go_wp2_with fail
    go_ret2
    first | exact ⟨rfl, Chg.refl _ _⟩ | exact ⟨_, rfl, Chg.refl _ _, by simp⟩
set_option maxRecDepth 100000 in
set_option maxHeartbeats 1000000 in
theorem runpack_forty (w : World) {b o c : Nat} {l : List UInt8} (hl : l.length = 40) (hc : 40 ≤ c) (hB : Bs w (some ⟨b, o, none⟩) l) : Calls Tryz.prog 13 #[.slice (some ⟨b, o, none⟩) 40 c] w (UnR w l) := by
  go_enter Tryz.func13, Tryz.ntmps13
  go_wp2_with fail
  go_loopw [4, 5] (fun v i wr => ∃ j : Nat, j ≤ 5 ∧ i = .int .i64 (j : Nat) ∧ ∃ xs, unpackN j l = some xs ∧ xs.length = j ∧ Chg [] w wr ∧ wr.ownsRow w.heap.size 42 1 v j (flCells xs)) (fun _ i _ => 5 - (intOf i).toNat)
  case atStart => exact ⟨0, by omega, rfl, [], rfl, rfl, Chg.refl _ _, World.ownsRow_nil _ _ _ _⟩
  case round =>
    obtain ⟨j, hj, rfl, xs, hu, hxl, kc, ho⟩ := hrel
    by_cases hlt : j < 5
    · have hB1 := (hB.chg kc).sub (8 * j) 8
      have hs0 := kc.size
      have hsl : ((l.drop (8 * j)).take 8).length = 8 := by simp; omega
      have HD := Lib.hid (rdecode_any wr (c := c - 8 * j) hsl (by decide) hB1)
      have hsn := unpackN_snoc j l xs hu
      have f1 : (j : Int) < 5 := by omega
      have HO := Lib.hid ho
      clear hB hB1 ho
      go_wp2_with fail
      refine HD.out.mono ?_
      rintro e w1 ⟨rfl, rfl⟩
      clear HD
      generalize (l.drop (8 * j)).take 8 = sub at *
      cases hd : decB sub with
      | none =>
        rw [hd] at hsn
        have hR : decR sub = .tuple #[.float .f64 0, .int .i64 13] := by unfold decR; rw [hd]
        rw [hR]
        have hno : unpackB l = none := by
          unfold unpackB
          rw [if_pos hl]
          have := unpackN_no (j + 1) (4 - j) l hsn
          rwa [show j + 1 + (4 - j) = 5 by omega] at this
        go_wp2_with fail
        go_ret2
        exact Or.inr ⟨hno, rfl, kc⟩
      | some x =>
        rw [hd] at hsn
        have hR : decR sub = .tuple #[.float .f64 x, .int .i64 0] := by unfold decR; rw [hd]
        rw [hR]
        go_wp2_with (at_builtin; refine wpList_append_lit rfl (.tmp 28) (.tmp 30) 22 42 rfl ty22 inf42 rfl (by decide) w.heap.size wr (flCells [x]) 1 rfl _ j (flCells xs) rfl HO.out (by omega) (by decide) hs0 (k := 0) rfl (flCells_one _) rfl 1 rfl ?_; intro v' w' hap)
        go_roundw
        case rel => exact ⟨j + 1, by omega, by congr 1, xs ++ [x], hsn, by simp [hxl], Chg.of_below (kc.below0.trans hap.2.1), by have := hap.1; unfold flCells at *; simpa using this⟩
        case measure => simp [intOf]; omega
    · obtain rfl : j = 5 := by omega
      go_wp2_with fail
      go_ret2
      refine Or.inl ⟨_, xs, ?_, rfl, kc, ho⟩
      unfold unpackB
      rw [if_pos hl, hu]
set_option maxRecDepth 100000 in
theorem runpack_other (w : World) {pa : Option Addr} {m c : Nat} (hm : m ≠ 40) (_hm1 : m ≤ 1000000) : Calls Tryz.prog 13 #[.slice pa m c] w fun e w' => e = .returned (.tuple #[.slice none 0 0, .int .i64 3]) ∧ w = w' := by
  have h : ¬ (m : Int) = 40 := by omega
  go_enter Tryz.func13, Tryz.ntmps13
  go_wp2_with fail
  go_ret2
  exact ⟨rfl, rfl⟩
end Go.Proofs.YtfodeeejolkkfaaGreat
namespace Go.Proofs.YtfodeeejolkkfaaGreat
open Go.RowKit Go.Lib

set_option maxRecDepth 100000 in
set_option maxHeartbeats 1000000 in
theorem nums_same (w : World) {pa pb : Option Addr} {m ca cb : Nat} {a b : List Nat} (hm : m ≤ 1000000) (ha : a.length = m) (hb : b.length = m) (_hca : m ≤ ca) (_hcb : m ≤ cb) (hab : a.map canB = b.map canB) (hA : Fl w pa a) (hB : Fl w pb b) :
    Calls Tryz.prog 15 #[.slice pa m ca, .slice pb m cb] w fun e w' => e = .returned (.bool true) ∧ Chg [] w w' := by
  go_enter Tryz.func15, Tryz.ntmps15
  go_wp2_with fail
  go_loopw [5] (fun i wr => ∃ j : Nat, j ≤ m ∧ i = .int .i64 j ∧ Chg [] w wr) (fun i _ => m - (intOf i).toNat)
  case atStart => exact ⟨0, by omega, rfl, Chg.refl _ _⟩
  case round =>
    obtain ⟨j, hj, rfl, kc⟩ := hrel
    by_cases hlt : j < m
    · have cA : ∃ x o, pa = some ⟨x, o, none⟩ ∧ wr.cell? ⟨x, o + j, none⟩ = some (.float .f64 (a[j]'(by omega))) := by
        rcases hA.keep kc with h | ⟨x, o, e, h⟩
        · rw [h] at ha; simp at ha; omega
        · exact ⟨x, o, e, h j (by omega)⟩
      have cB : ∃ x o, pb = some ⟨x, o, none⟩ ∧ wr.cell? ⟨x, o + j, none⟩ = some (.float .f64 (b[j]'(by omega))) := by
        rcases hB.keep kc with h | ⟨x, o, e, h⟩
        · rw [h] at hb; simp at hb; omega
        · exact ⟨x, o, e, h j (by omega)⟩
      have hx : canB (a[j]'(by omega)) = canB (b[j]'(by omega)) := by
        have h1 : (a.map canB)[j]? = (b.map canB)[j]? := by rw [hab]
        simpa [show j < a.length by omega, show j < b.length by omega] using h1
      obtain ⟨xa, oa, rfl, cA⟩ := cA
      obtain ⟨xb, ob, rfl, cB⟩ := cB
      generalize a[j]'(by omega) = p at *
      generalize b[j]'(by omega) = q at *
      clear hA hB hab
      have hs : ((canB p : Int) == (canB q : Int)) = true := by rw [hx]; simp
      go_wp2_with fail
      go_region_held3 (fun wx => wx.cell? ⟨xa, oa + j, none⟩ = some (.float .f64 p) ∧ wx.cell? ⟨xb, ob + j, none⟩ = some (.float .f64 q)) (first | (exact ⟨cA, cB⟩))
        (first | (go_at_call 22; refine (same_any' p q _).mono ?_; rintro e w2 ⟨rfl, rfl⟩; rw [hs]))
      go_wp2_with fail
      go_roundw
      case rel => exact ⟨j + 1, by omega, by go_num, kc.drew⟩
      case measure => simp [intOf]; omega
    · go_wp2_with fail
      go_ret
      exact ⟨rfl, kc⟩
end Go.Proofs.YtfodeeejolkkfaaGreat
namespace Go.Proofs.YtfodeeejolkkfaaGreat
open Go.RowKit Go.Lib

set_option maxRecDepth 100000 in
theorem xblock_any (w : World) {X rx : Nat} {b : Int} (h : VerAt w X rx) (h0 : 0 ≤ b) (h1 : b < 258) : Calls Tryz.prog 162 #[.pointer (some ⟨X, 0, none⟩), .int .i64 b] w fun e w' => e = .returned (.bool true) ∧ w = w' := by
  have HB := Lib.hid (blocks_any w h)
  clear h
  go_enter Tryz.func162, Tryz.ntmps162
  go_wp2_with fail
  refine HB.out.mono ?_
  rintro e w1 ⟨rfl, rfl⟩
  go_wp2_with fail
  go_ret
  exact ⟨by simp, rfl⟩
set_option maxRecDepth 100000 in
set_option maxHeartbeats 1000000 in
theorem within_one (w : World) {X rx : Nat} {b : Int} (h : VerAt w X rx) (h0 : 0 ≤ b) (h1 : b < 258) : Calls Tryz.prog 229 #[.pointer (some ⟨X, 0, none⟩), .agg #[.int .i64 b, .int .i64 1]] w fun e w' => e = .returned (.bool true) ∧ Chg [] w w' := by
  have kc : Chg [] w (w.alloc (.cells #[.int .i64 b, .int .i64 1] 117)) := Chg.alloc w _
  have h2 : VerAt (w.alloc (.cells #[.int .i64 b, .int .i64 1] 117)) X rx := ⟨kc.heap h.1 (by simp), h.2.keep kc (by simp)⟩
  have a0 : (w.alloc (.cells #[.int .i64 b, .int .i64 1] 117)).cell? ⟨w.heap.size, 0, none⟩ = some (.int .i64 b) := cell_is (heap_new w _) 0 rfl
  have a1 : (w.alloc (.cells #[.int .i64 b, .int .i64 1] 117)).cell? ⟨w.heap.size, 1, none⟩ = some (.int .i64 1) := cell_is (heap_new w _) 1 rfl
  have n0 : decide (0 ≤ b) = true := decide_eq_true h0
  clear h
  go_enter Tryz.func229, Tryz.ntmps229
  go_wp2_with fail
  generalize w.alloc (.cells #[.int .i64 b, .int .i64 1] 117) = w1 at *
  generalize w.heap.size = z at *
  have h3 : VerAt w1.drew X rx := h2
  go_region_held3 (fun wx => wx.cell? ⟨z, 0, none⟩ = some (.int .i64 b) ∧ wx.cell? ⟨z, 1, none⟩ = some (.int .i64 1)) (first | (exact ⟨a0, a1⟩))
    (first | (go_at_call 108; refine (blocks_any w1.drew h3).mono ?_; rintro e w2 ⟨rfl, rfl⟩))
  all_goals
    go_wp2_with fail
    go_ret
    exact ⟨by simp [show IntKind.i64.wrap 257 = 257 by decide]; omega, kc.drew⟩
end Go.Proofs.YtfodeeejolkkfaaGreat
namespace Go.Proofs.YtfodeeejolkkfaaGreat
open Go.RowKit Go.Lib

theorem lookup258 {w : World} {r : Nat} {L : List (Int × Value)} (hM : MapAt w r L) (k : Int) (c : Bool) :
    (Instr.lookup 258 (.map (some r)) (.int .i64 k) c).run Tryz.prog w = .ok (if c then .tuple #[(getL L k).getD (.slice none 0 0), .bool (getL L k).isSome] else (getL L k).getD (.slice none 0 0)) w :=
  run_lookup_im (mty := 258) (kt := 3) (et := 265) (by kernel_rfl) (by kernel_rfl) (by kernel_rfl) hM k c
set_option maxRecDepth 100000 in
theorem xat_none (w : World) {X rx : Nat} {b : Int} (h : VerAt w X rx) : Calls Tryz.prog 251 #[.pointer (some ⟨X, 0, none⟩), .int .i64 b, .int .i64 0] w fun e w' => e = .returned (.int .i64 (-1)) ∧ w = w' := by
  have c1 : w.cell? ⟨X, 1, none⟩ = some (.map (some rx)) := cell_is h.1 1 rfl
  have hl : (Instr.lookup 258 (.map (some rx)) (.int .i64 b) false).run Tryz.prog w = .ok (.slice none 0 0) w := lookup258 h.2 b false
  clear h
  go_enter Tryz.func251, Tryz.ntmps251
  go_wp2_with fail
  go_step3
  go_wp2_with fail
  go_step3
  go_wp2_with fail
  go_loop [8] (fun i => i = .int .i64 (-1)) (fun _ => 0)
  case atStart => rfl
  case round =>
    subst hrel
    go_wp2_with fail
    go_ret
    exact ⟨rfl, rfl⟩
def zero40 : Array Value := (List.replicate 40 (Value.int .u8 0)).toArray
theorem make40 (w : World) : (Instr.makeSlice 23 (.int .i64 40) (.int .i64 40)).run Tryz.prog w = .ok (.slice (some ⟨w.heap.size, 0, none⟩) 40 40) (w.alloc (.cells zero40 5)) := by kernel_rfl
theorem zero40_is : zero40 = (Lib.byteCells zeroB).toArray := by kernel_rfl
set_option maxRecDepth 100000 in
theorem xget_none (w : World) {X rx : Nat} {b : Int} (h : VerAt w X rx) (h0 : 0 ≤ b) (h1 : b < 258) : Calls Tryz.prog 230 #[.pointer (some ⟨X, 0, none⟩), .int .i64 b, .int .i64 0] w fun e w' => ∃ g, e = .returned (.tuple #[.slice (some ⟨g, 0, none⟩) 40 40, .int .i64 0]) ∧ Chg [] w w' ∧ Bs w' (some ⟨g, 0, none⟩) zeroB ∧ w.heap.size ≤ g := by
  have hmk := make40
  have HB := Lib.hid (xblock_any w h h0 h1)
  have HA := Lib.hid (xat_none w (b := b) h)
  have kc : Chg [] w (w.alloc (.cells zero40 5)) := Chg.alloc w _
  have hz : Bs (w.alloc (.cells zero40 5)) (some ⟨w.heap.size, 0, none⟩) zeroB := by
    rw [zero40_is]
    exact Bs.row (heap_new w _)
  clear h
  go_enter Tryz.func230, Tryz.ntmps230
  go_wp2_with fail
  refine HB.out.mono ?_
  rintro e w1 ⟨rfl, rfl⟩
  go_wp2_with fail
  refine HA.out.mono ?_
  rintro e w1 ⟨rfl, rfl⟩
  go_wp2_with fail
  go_ret2
  exact ⟨_, rfl, kc, hz, Nat.le_refl _⟩
end Go.Proofs.YtfodeeejolkkfaaGreat
namespace Go.Proofs.YtfodeeejolkkfaaGreat
open Go.RowKit Go.Lib

set_option maxRecDepth 100000 in
set_option maxHeartbeats 1000000 in
theorem range_one (w : World) {X rx : Nat} {b : Int} (h : VerAt w X rx) (h0 : 0 ≤ b) (h1 : b < 258) : Calls Tryz.prog 210 #[.pointer (some ⟨X, 0, none⟩), .agg #[.int .i64 b, .int .i64 1], .int .i64 0] w fun e w' =>
    ∃ g c', e = .returned (.tuple #[.slice (some ⟨g, 0, none⟩) 40 c', .int .i64 0]) ∧ 40 ≤ c' ∧ Chg [] w w' ∧ w'.ownsRow w.heap.size 5 1 (.slice (some ⟨g, 0, none⟩) 40 c') 40 (Lib.byteCells zeroB) := by
  have kc : Chg [] w (w.alloc (.cells #[.int .i64 b, .int .i64 1] 117)) := Chg.alloc w _
  have h2 : VerAt (w.alloc (.cells #[.int .i64 b, .int .i64 1] 117)) X rx := ⟨kc.heap h.1 (by simp), h.2.keep kc (by simp)⟩
  have a0 : (w.alloc (.cells #[.int .i64 b, .int .i64 1] 117)).cell? ⟨w.heap.size, 0, none⟩ = some (.int .i64 b) := cell_is (heap_new w _) 0 rfl
  have a1 : (w.alloc (.cells #[.int .i64 b, .int .i64 1] 117)).cell? ⟨w.heap.size, 1, none⟩ = some (.int .i64 1) := cell_is (heap_new w _) 1 rfl
  clear h
  go_enter Tryz.func210, Tryz.ntmps210
  go_wp2_with fail
  generalize w.alloc (.cells #[.int .i64 b, .int .i64 1] 117) = w1 at *
  generalize hz : w.heap.size = z at *
  refine (within_one w1 h2 h0 h1).mono ?_
  rintro e w2 ⟨rfl, k2⟩
  have h3 : VerAt w2 X rx := ⟨k2.heap h2.1 (by simp), h2.2.keep k2 (by simp)⟩
  have b0 := k2.cell a0 (by simp)
  have b1 := k2.cell a1 (by simp)
  have kk := kc.then k2
  have hs2 := kk.size
  clear h2 a0 a1 kc k2
  go_wp2_with fail
  go_loopw [6, 17] (fun v i wr => (i = .int .i64 0 ∧ v = .slice none 0 0 ∧ wr = w2) ∨ (i = .int .i64 1 ∧ Chg [] w wr ∧ wr.ownsRow z 5 1 v 40 (Lib.byteCells zeroB))) (fun _ i _ => 1 - (intOf i).toNat)
  case atStart => exact Or.inl ⟨rfl, rfl, rfl⟩
  case round =>
    rcases hrel with ⟨rfl, rfl, rfl⟩ | ⟨rfl, k5, ho⟩
    · go_wp2_with fail
      refine (xget_none wr h3 h0 h1).mono ?_
      rintro e w3 ⟨g, rfl, k3, hb3, l3⟩
      have hs3 : z ≤ w3.heap.size := Nat.le_trans (by omega) k3.size
      have HB3 := Lib.hid hb3
      clear hb3
      go_wp2_with (at_builtin; refine wpList_append_bs rfl (.tmp 30) (.tmp 31) 23 5 rfl ty23 inf5c z _ 0 [] rfl (World.ownsRow_nil _ _ _ _) _ 40 40 zeroB rfl rfl HB3.out (by omega) hs3 ?_; intro v1 w4 h4)
      go_roundw
      case rel => exact Or.inr ⟨rfl, Chg.of_below ((kk.then k3).below0.trans (by rw [hz]; exact h4.2.1)), by simpa using h4.1⟩
      case measure => decide
    · go_wp2_with fail
      go_ret2
      rcases ho.2 with ⟨e, h0⟩ | ⟨g, cap, cur, e, hA, hr⟩
      · cases h0
      · subst hz
        refine ⟨g, cap, by rw [e]; rfl, ?_, k5, by rw [← e]; exact ho⟩
        have := own_form ho
        obtain ⟨pa, c, h5, h6⟩ := this
        rw [e] at h5
        cases h5
        exact h6
end Go.Proofs.YtfodeeejolkkfaaGreat
namespace Go.Proofs.YtfodeeejolkkfaaGreat
open Go.RowKit Go.Lib

set_option maxRecDepth 100000 in
set_option maxHeartbeats 1000000 in
/-- IndexFunc over one put, by a function that says no. -/
theorem idxspan_one (w : World) {E eo cp : Nat} {b : Int} {n : Int}  (e0 : w.cell? ⟨E, eo, none⟩ = some (.int .i64 b)) (e1 : w.cell? ⟨E, eo + 1, none⟩ = some (.int .i64 n))
    (hg : Calls Tryz.prog 244 #[.agg #[.int .i64 b, .int .i64 n]] w fun e w' => e = .returned (.bool false) ∧ Chg [] w w') : Calls Tryz.prog 260 #[.slice (some ⟨E, eo, none⟩) 1 cp, .func (.func 244) #[] #[]] w fun e w' => e = .returned (.int .i64 (-1)) ∧ Chg [] w w' := by
  go_enter Tryz.func260, Tryz.ntmps260
  go_wp2_with fail
  go_loopw [8] (fun i wr => (i = .int .i64 0 ∧ wr = w) ∨ (i = .int .i64 1 ∧ Chg [] w wr)) (fun i _ => 1 - (intOf i).toNat)
  case atStart => exact Or.inl ⟨rfl, rfl⟩
  case round =>
    rcases hrel with ⟨rfl, rfl⟩ | ⟨rfl, hc⟩
    · go_wp2_with fail
      refine hg.mono ?_
      rintro e w2 ⟨rfl, hc⟩
      go_wp2_with fail
      go_round
      case rel => exact Or.inr ⟨rfl, hc⟩
      case measure => decide
    · go_wp2_with fail
      go_ret
      exact ⟨rfl, hc⟩
set_option maxRecDepth 100000 in
theorem contspan_one (w : World) {E eo cp : Nat} {b : Int} {n : Int}  (e0 : w.cell? ⟨E, eo, none⟩ = some (.int .i64 b)) (e1 : w.cell? ⟨E, eo + 1, none⟩ = some (.int .i64 n))
    (hg : Calls Tryz.prog 244 #[.agg #[.int .i64 b, .int .i64 n]] w fun e w' => e = .returned (.bool false) ∧ Chg [] w w') : Calls Tryz.prog 243 #[.slice (some ⟨E, eo, none⟩) 1 cp, .func (.func 244) #[] #[]] w fun e w' => e = .returned (.bool false) ∧ Chg [] w w' := by
  go_enter Tryz.func243, Tryz.ntmps243
  go_wp2_with fail
  refine (idxspan_one w e0 e1 hg).mono ?_
  rintro e w2 ⟨rfl, hc⟩
  go_wp2_with fail
  go_ret
  exact ⟨rfl, hc⟩
set_option maxRecDepth 100000 in
theorem imay_one (w : World) {b : Int} (h0 : 0 ≤ b) (h1 : b < 258) : Calls Tryz.prog 245 #[.agg #[.int .i64 b, .int .i64 1]] w fun e w' => e = .returned (.bool true) ∧ Chg [] w w' := by
  have kc : Chg [] w (w.alloc (.cells #[.int .i64 b, .int .i64 1] 117)) := Chg.alloc w _
  have n0 : decide (0 ≤ b) = true := decide_eq_true h0
  have n1 : decide (b ≤ 1048576) = true := decide_eq_true (by omega)
  have n2 : decide (b + 1 ≤ 1048576) = true := decide_eq_true (by omega)
  go_enter Tryz.func245, Tryz.ntmps245
  go_wp2_with fail
  go_ret
  exact ⟨by first | rfl | (simp; omega), kc⟩
set_option maxRecDepth 100000 in
theorem inot_one (w : World) {b : Int} (h0 : 0 ≤ b) (h1 : b < 258) : Calls Tryz.prog 244 #[.agg #[.int .i64 b, .int .i64 1]] w fun e w' => e = .returned (.bool false) ∧ Chg [] w w' := by
  have kc : Chg [] w (w.alloc (.cells #[.int .i64 b, .int .i64 1] 117)) := Chg.alloc w _
  go_enter Tryz.func244, Tryz.ntmps244
  go_wp2_with fail
  refine (imay_one _ h0 h1).mono ?_
  rintro e w2 ⟨rfl, k2⟩
  go_wp2_with fail
  go_ret
  exact ⟨rfl, kc.then k2⟩
set_option maxRecDepth 100000 in
theorem iall_one (w : World) {E eo cp : Nat} {b : Int} (h0 : 0 ≤ b) (h1 : b < 258) (e0 : w.cell? ⟨E, eo, none⟩ = some (.int .i64 b)) (e1 : w.cell? ⟨E, eo + 1, none⟩ = some (.int .i64 1)) : Calls Tryz.prog 220 #[.slice (some ⟨E, eo, none⟩) 1 cp] w fun e w' => e = .returned (.bool true) ∧ Chg [] w w' := by
  go_enter Tryz.func220, Tryz.ntmps220
  go_wp2_with fail
  refine (contspan_one w e0 e1 (inot_one w h0 h1)).mono ?_
  rintro e w2 ⟨rfl, k2⟩
  go_wp2_with fail
  go_ret
  exact ⟨rfl, k2⟩
end Go.Proofs.YtfodeeejolkkfaaGreat
namespace Go.Proofs.YtfodeeejolkkfaaGreat
open Go.RowKit Go.Lib

/-- the cells of spans. -/
def spCells (l : List (Int × Int)) : List Value := l.flatMap fun p => [.int .i64 p.1, .int .i64 p.2]
theorem spCells_len (l : List (Int × Int)) : (spCells l).length = l.length * 2 := by
  induction l with
  | nil => rfl
  | cons p l ih => simp only [spCells, List.flatMap_cons, List.length_append, List.length_cons, List.length_nil] at ih ⊢; omega
theorem spCells_one (l : List (Int × Int)) : ∀ u ∈ spCells l, u.oneCell' = true := by
  intro u hu
  simp only [spCells, List.mem_flatMap, List.mem_cons, List.not_mem_nil, or_false] at hu
  obtain ⟨p, _, rfl | rfl⟩ := hu <;> rfl
/-- spans lie here. -/
def Sp (w : World) (b o : Nat) (l : List (Int × Int)) : Prop := ∀ j u, (spCells l)[j]? = some u → w.cell? ⟨b, o + j, none⟩ = some u
theorem Sp.keep {w w' : World} {b o : Nat} {l : List (Int × Int)} (h : Sp w b o l) (hc : Chg [] w w') : Sp w' b o l := fun j u hu => hc.cell (h j u hu) (by simp)
theorem ty217 : Tryz.prog.underlying 217 = some (.slice 117) := by kernel_rfl
theorem inf117 : (Tryz.prog.info? 117).map (fun i => (i.zero, i.size, i.bytes)) = some (some (.agg #[.int .i64 0, .int .i64 0]), 2, 16) := by kernel_rfl
/-- spans are put behind spans of an own row. -/
theorem append_sp_own (w : World) (ty base : Nat) (v : Value) (n : Nat) (xs l : List (Int × Int)) (hown : w.ownsRow base 117 2 v n (spCells xs)) (b o m c : Nat) (hl : l.length = m) (hs : Sp w b o l) (hn : n + m ≤ 1000000) (hbase : base ≤ w.heap.size) :
    ∃ v' w', (Builtin.append_ #[217, 217] ty #[v, .slice (some ⟨b, o, none⟩) m c]).run Tryz.prog w = .ok v' w' ∧ AppendedV base 117 2 w v (n + m) (spCells (xs ++ l)) v' w' := by
  obtain ⟨i, hi0, hz, hz1, hz2⟩ := info_parts inf117
  obtain ⟨v', w', h2, h3, h4, _⟩ := run_append_own (P := Tryz.prog) w base 217 ty 117 i (.agg #[.int .i64 0, .int .i64 0]) 2 16 ty217 hi0 hz hz1 hz2 rfl (by decide) v n (spCells xs) hown ⟨b, o, none⟩ m c (spCells l) (by rw [spCells_len, hl])
    (fun j u hu => by
      have ha : (⟨b, o, none⟩ : Addr).add j = ⟨b, o + j, none⟩ := by unfold Addr.add; split <;> simp_all
      rw [ha]; exact hs j u hu) (spCells_one l) (by unfold maxLen; omega) (by omega) hbase
  exact ⟨v', w', h2, by rw [show spCells (xs ++ l) = spCells xs ++ spCells l by simp [spCells]]; exact h3, below_grown hown h4 hbase, h4⟩
theorem wpList_append_sp {ops : Array Oper} {rest : List Oper} {o : Oper} {a : Act} {w : World} {Q : Exit → Act → World → Prop} (hg : o.guard = none) (s x : Operand)
    (ho : o.op = .call { callee := .builtin .append, args := #[s, x], argTypes := #[217, 217] }) (base : Nat) (v : Value) (n : Nat) (xs l : List (Int × Int)) (hs : a.eval s = v) (hown : w.ownsRow base 117 2 v n (spCells xs))
    (b eo m c : Nat) (hx : a.eval x = .slice (some ⟨b, eo, none⟩) m c) (hl : l.length = m) (hr : Sp w b eo l) (hn : n + m ≤ 1000000) (hbase : base ≤ w.heap.size)
    (h : ∀ v' w', AppendedV base 117 2 w v (n + m) (spCells (xs ++ l)) v' w' → wpList Tryz.prog ops Q rest (a.put o.dst v') w') : wpList Tryz.prog ops Q (o :: rest) a w := by
  obtain ⟨v', w', h1, h2⟩ := append_sp_own w o.type base v n xs l hown b eo m c hl hr hn hbase
  exact Lib.wpList_append_run w hg s x 217 217 ho v (.slice (some ⟨b, eo, none⟩) m c) hs hx v' w' h1 (h v' w' h2)
theorem own_empty2 (w : World) : (w.alloc (.cells #[] 117)).ownsRow w.heap.size 117 2 (.slice (some ⟨w.heap.size, 0, none⟩) 0 0) 0 (spCells []) := by
  refine ⟨rfl, Or.inr ⟨w.heap.size, 0, #[], rfl, Nat.le_refl _, ?_⟩⟩
  simp
  exact ⟨(Array.getElem?_eq_some_iff.1 (heap_new w (.cells #[] 117))).2, rfl⟩
set_option maxRecDepth 100000 in
set_option maxHeartbeats 1000000 in
theorem clone_sp (w : World) {D o c m : Nat} {l : List (Int × Int)} (hl : l.length = m) (hm0 : 0 < m) (hm1 : m ≤ 1000) (hb : Sp w D o l) : Calls Tryz.prog 217 #[.slice (some ⟨D, o, none⟩) m c] w fun e w' =>
    ∃ v, e = .returned v ∧ Chg [] w w' ∧ w'.ownsRow w.heap.size 117 2 v m (spCells l) := by
  have hn : ∀ w, (binOp .eql 217 (.slice (some ⟨D, o, none⟩) m c) (.slice none 0 0)).run Tryz.prog w = .ok (.bool false) w := fun w => Lib.run_eql_slice_nil w 217 117 _ _ _ 0 0 ty217
  have HB := Lib.hid hb
  have HL := Lib.hid hl
  clear hb hl
  go_enter Tryz.func217, Tryz.ntmps217
  go_wp2_with (first | (at_builtin; refine wpList_append_sp rfl (.tmp 5) (.tmp 6) rfl w.heap.size _ 0 [] l rfl (own_empty2 w) D o m c rfl HL.out (HB.out.keep (Chg.alloc w _)) (by omega) (by simp) ?_; intro v1 w1 h1))
  go_ret
  exact ⟨v1, rfl, Chg.of_below ((Below.of_alloc w _).trans h1.2.1), by simpa using h1.1⟩
end Go.Proofs.YtfodeeejolkkfaaGreat
namespace Go.Proofs.YtfodeeejolkkfaaGreat
open Go.RowKit Go.Lib

/-- spans lie here, or there are none. -/
def SpQ (w : World) (pa : Option Addr) (l : List (Int × Int)) : Prop := (l = [] ∧ pa = none) ∨ ∃ b o, pa = some ⟨b, o, none⟩ ∧ Sp w b o l
theorem SpQ.keep {w w' : World} {pa : Option Addr} {l : List (Int × Int)} (h : SpQ w pa l) (hc : Chg [] w w') : SpQ w' pa l := by
  rcases h with h | ⟨b, o, h1, h2⟩
  · exact Or.inl h
  · exact Or.inr ⟨b, o, h1, h2.keep hc⟩
set_option maxRecDepth 100000 in
set_option maxHeartbeats 1000000 in
theorem grow_nil (w : World) {k : Nat} (h0 : 0 < k) (h1 : k ≤ 1000) : Calls Tryz.prog 249 #[.slice none 0 0, .int .i64 k] w fun e w' => ∃ v, e = .returned v ∧ Chg [] w w' ∧ w'.ownsRow w.heap.size 117 2 v 0 (spCells []) := by
  obtain ⟨i, hi0, hz, hz1, hz2⟩ := info_parts inf117
  have hr := fun ty => run_append_nil_zeros (P := Tryz.prog) w 217 3 ty 117 i (.agg #[.int .i64 0, .int .i64 0]) .i64 .i64 ty217 (by kernel_rfl) hi0 hz k h0 (by omega) (by omega) (by rw [hz2]; omega)
  have hge := grownCap_ge w k 0 117
  have hle := grownCap_le_maxLen w k 0 117 (by unfold maxLen; omega)
  have hsz : (Builtin.zeroCells (Value.agg #[.int .i64 0, .int .i64 0]).cells k ++ Builtin.zeroCells (Value.agg #[.int .i64 0, .int .i64 0]).cells (grownCap w k 0 117 - k)).size = grownCap w k 0 117 * 2 := by
    simp only [Array.size_append, size_zeroCells, Value.cells]
    simp
    omega
  generalize (Builtin.zeroCells (Value.agg #[.int .i64 0, .int .i64 0]).cells k ++ Builtin.zeroCells (Value.agg #[.int .i64 0, .int .i64 0]).cells (grownCap w k 0 117 - k)) = Z at *
  generalize grownCap w k 0 117 = G at *
  clear hi0 hz hz1 hz2
  have hk : ¬ ((k : Int) < 0) := by omega
  have hk2 : (k : Int) > 0 := by omega
  have hG63 : G ≤ 9223372036854775807 := by unfold maxLen at hle; omega
  have hf : (w.drew.alloc (.cells Z 117)).ownsRow w.heap.size 117 2 (.slice (some ⟨w.heap.size, 0, none⟩) 0 G) 0 (spCells []) := by
    refine ⟨rfl, Or.inr ⟨w.heap.size, G, Z, rfl, Nat.le_refl _, heap_new w.drew _, Nat.zero_le _, hle, hsz, by simp [spCells]⟩⟩
  have kc : Chg [] w (w.drew.alloc (.cells Z 117)) := (Chg.refl [] w).drew.then_alloc _
  go_enter Tryz.func249, Tryz.ntmps249
  go_wp2_with (at_builtin; refine Lib.wpList_append_run (w := w) rfl (.tmp 20) (.tmp 21) 217 3 rfl (.slice none 0 0) (.int .i64 k) rfl rfl _ _ (hr _) ?_)
  go_ret
  exact ⟨_, rfl, kc, hf⟩
theorem append_sp_q (w : World) (ty base : Nat) (v : Value) (n : Nat) (xs l : List (Int × Int)) (hown : w.ownsRow base 117 2 v n (spCells xs)) (pa : Option Addr) (m c : Nat) (hl : l.length = m) (hs : SpQ w pa l) (hn : n + m ≤ 1000000) (hbase : base ≤ w.heap.size) :
    ∃ v' w', (Builtin.append_ #[217, 217] ty #[v, .slice pa m c]).run Tryz.prog w = .ok v' w' ∧ AppendedV base 117 2 w v (n + m) (spCells (xs ++ l)) v' w' := by
  rcases hs with ⟨rfl, rfl⟩ | ⟨b, o, rfl, hs⟩
  · obtain rfl : 0 = m := hl
    obtain ⟨i, hi0, hz, hz1, hz2⟩ := info_parts inf117
    refine ⟨v, w, ?_, by simpa using hown, Below.refl _ _, World.grownBy.refl w _⟩
    rcases hown.2 with ⟨rfl, rfl⟩ | ⟨g, cap, cur, rfl, _, _, hnc, _⟩
    · simp [Builtin.append_, run_underlying ty217, sizeOf, typeInfo, hi0, Builtin.lenOf, Builtin.firstCells]
    · simp [Builtin.append_, run_underlying ty217, sizeOf, typeInfo, hi0, Builtin.lenOf, Builtin.firstCells, hnc, storeCells]
  · exact append_sp_own w ty base v n xs l hown b o m c hl hs hn hbase
theorem wpList_append_spq {ops : Array Oper} {rest : List Oper} {o : Oper} {a : Act} {w : World} {Q : Exit → Act → World → Prop} (hg : o.guard = none) (s x : Operand)
    (ho : o.op = .call { callee := .builtin .append, args := #[s, x], argTypes := #[217, 217] }) (base : Nat) (v : Value) (n : Nat) (xs l : List (Int × Int)) (hs : a.eval s = v) (hown : w.ownsRow base 117 2 v n (spCells xs))
    (pa : Option Addr) (m c : Nat) (hx : a.eval x = .slice pa m c) (hl : l.length = m) (hr : SpQ w pa l) (hn : n + m ≤ 1000000) (hbase : base ≤ w.heap.size)
    (h : ∀ v' w', AppendedV base 117 2 w v (n + m) (spCells (xs ++ l)) v' w' → wpList Tryz.prog ops Q rest (a.put o.dst v') w') : wpList Tryz.prog ops Q (o :: rest) a w := by
  obtain ⟨v', w', h1, h2⟩ := append_sp_q w o.type base v n xs l hown pa m c hl hr hn hbase
  exact Lib.wpList_append_run w hg s x 217 217 ho v (.slice pa m c) hs hx v' w' h1 (h v' w' h2)
set_option maxRecDepth 100000 in
set_option maxHeartbeats 2000000 in
theorem concat_two (w : World) {E cp m c m2 c2 : Nat} {pa pb : Option Addr} {l l2 : List (Int × Int)} (e0 : w.cell? ⟨E, 0, none⟩ = some (.slice pa m c)) (e1 : w.cell? ⟨E, 1, none⟩ = some (.slice pb m2 c2)) (hl : l.length = m) (hl2 : l2.length = m2) (hm : m ≤ 100) (hm2 : m2 ≤ 100) (hm0 : 0 < m + m2)
    (hs : SpQ w pa l) (hs2 : SpQ w pb l2) : Calls Tryz.prog 222 #[.slice (some ⟨E, 0, none⟩) 2 cp] w fun e w' => ∃ v, e = .returned v ∧ Chg [] w w' ∧ w'.ownsRow w.heap.size 117 2 v (m + m2) (spCells (l ++ l2)) := by
  have HS := Lib.hid hs
  have HS2 := Lib.hid hs2
  have HL := Lib.hid hl
  have HL2 := Lib.hid hl2
  clear hs hs2 hl hl2
  go_enter Tryz.func222, Tryz.ntmps222
  go_wp2_with fail
  go_loop [3, 11] (fun s i => (i = .int .i64 0 ∧ s = .int .i64 0) ∨ (i = .int .i64 1 ∧ s = .int .i64 m) ∨ (i = .int .i64 2 ∧ s = .int .i64 ((m + m2 : Nat) : Int))) (fun _ i => 2 - (intOf i).toNat)
  case atStart => exact Or.inl ⟨rfl, rfl⟩
  case round =>
    rcases hrel with ⟨rfl, rfl⟩ | ⟨rfl, rfl⟩ | ⟨rfl, rfl⟩
    · go_wp2_with fail
      go_round
      case rel => exact Or.inr (Or.inl ⟨rfl, by go_num⟩)
      case measure => decide
    · go_wp2_with fail
      go_round
      case rel => exact Or.inr (Or.inr ⟨rfl, by go_num⟩)
      case measure => decide
    · go_wp2_with fail
      refine (grow_nil w hm0 (by omega)).mono ?_
      rintro e w1 ⟨v0, rfl, kc, ho0⟩
      have E0 := Lib.hid e0
      have E1 := Lib.hid e1
      have f0 := kc.cell e0 (by simp)
      have HA := Lib.hid (HS.out.keep kc)
      have hsz := kc.size
      clear e0 e1
      go_wp2_with fail
      go_loopw [6, 27] (fun v i wr => (i = .int .i64 0 ∧ v = v0 ∧ wr = w1) ∨ (i = .int .i64 1 ∧ Chg [] w wr ∧ wr.ownsRow w.heap.size 117 2 v m (spCells l)) ∨ (i = .int .i64 2 ∧ Chg [] w wr ∧ wr.ownsRow w.heap.size 117 2 v (m + m2) (spCells (l ++ l2)))) (fun _ i _ => 2 - (intOf i).toNat)
      case atStart => exact Or.inl ⟨rfl, rfl, rfl⟩
      case round =>
        rcases hrel with ⟨rfl, rfl, rfl⟩ | ⟨rfl, k1, o1⟩ | ⟨rfl, k1, o1⟩
        · go_wp2_with (at_builtin; refine wpList_append_spq rfl (.tmp 31) (.tmp 32) rfl w.heap.size _ 0 [] l rfl ho0 pa m c rfl HL.out HA.out (by omega) hsz ?_; intro v1 w2 h1)
          go_roundw
          case rel => exact Or.inr (Or.inl ⟨rfl, Chg.of_below (kc.below0.trans h1.2.1), by simpa using h1.1⟩)
          case measure => decide
        · have f1 := k1.cell E1.out (by simp)
          have HB := Lib.hid (HS2.out.keep k1)
          have hsz1 := k1.size
          clear f0
          go_wp2_with (at_builtin; refine wpList_append_spq rfl (.tmp 31) (.tmp 32) rfl w.heap.size _ m l l2 rfl o1 pb m2 c2 rfl HL2.out HB.out (by omega) hsz1 ?_; intro v1 w2 h1)
          go_roundw
          case rel => exact Or.inr (Or.inr ⟨rfl, Chg.of_below (k1.below0.trans h1.2.1), h1.1⟩)
          case measure => decide
        · go_wp2_with fail
          go_ret
          exact ⟨_, rfl, k1, o1⟩
end Go.Proofs.YtfodeeejolkkfaaGreat
namespace Go.Proofs.YtfodeeejolkkfaaGreat
open Go.Shelf Go.RowKit Go.Lib Go.Sort

/-- a span's two cells. -/
def encSp (x : Int × Int) : List Value := [.int .i64 x.1, .int .i64 x.2]
set_option maxRecDepth 100000 in
set_option maxHeartbeats 1000000 in
theorem closure247 (x y : Int × Int) (W : World) : Calls Tryz.prog 247 #[.agg #[.int .i64 x.1, .int .i64 x.2], .agg #[.int .i64 y.1, .int .i64 y.2]] W fun e w' => e = .returned (.int .i64 (Lib.compareInt x.1 y.1)) ∧ ∃ q os', w' = grow (W.drewN q) os' := by
  have hcon := fun W' => AnyG.cmp_Compare_int Tryz.cmpInt x.1 y.1 W'
  change ∀ W', Calls Tryz.prog 248 _ _ _ at hcon
  generalize Lib.compareInt x.1 y.1 = r at hcon ⊢
  go_enter Tryz.func247, Tryz.ntmps247
  go_wp2_with (go_at_call 248; refine (hcon _).mono ?_; rintro e w' ⟨rfl, rfl⟩)
  go_ret
  exact ⟨rfl, 0, _, by rw [alloc_eq_grow, alloc_eq_grow, grow_grow]; rfl⟩
theorem cmpLays247 (blk off size : Nat) (w : World) : CmpLays Tryz.prog 247 #[] encSp 2 (fun x y => Lib.compareInt x.1 y.1) blk off size w :=
  fun _ _ _ _ x y => closure247 x y _
theorem hlen2 (n : Nat) (W : World) (h : n ≤ 12) : Calls Tryz.prog 216 #[.int .u64 n] W fun e w' => (∃ l : Int, e = .returned (.int .i64 l)) ∧ w' = W :=
  (Any.bits_Len Tryz.bitsLen2 n W (by omega) (by omega)).mono fun _ _ ⟨he, hw⟩ => ⟨⟨_, he⟩, hw⟩
theorem isAgg117 (w : World) : (isAgg 117).run Tryz.prog w = .ok true w := by kernel_rfl
theorem sizeOf117 (w : World) : (Go.sizeOf 117).run Tryz.prog w = .ok 2 w := by kernel_rfl
theorem spCells_get (l : List (Int × Int)) (j : Nat) (h : j < l.length * 2) : (spCells l)[j]? = some ((encSp l.toArray[j / 2]!)[j % 2]!) := by
  induction l generalizing j with
  | nil => simp at h
  | cons p l ih =>
    have e : spCells (p :: l) = .int .i64 p.1 :: .int .i64 p.2 :: spCells l := rfl
    rw [e]
    match j with
    | 0 => simp [encSp]
    | 1 => simp [encSp]
    | j + 2 =>
      have := ih j (by simp only [List.length_cons] at h; omega)
      rw [List.getElem?_cons_succ, List.getElem?_cons_succ, this]
      have e1 : (j + 2) / 2 = j / 2 + 1 := by omega
      have e2 : (j + 2) % 2 = j % 2 := by omega
      rw [e1, e2]
      simp
theorem chg_mapBlock (w : World) (g : Nat) (f : Array Value → Array Value) : Chg [g] w (mapBlock w g f) :=
  ⟨rfl, rfl, rfl, by simp [mapBlock], fun k _ hs => by
    have : g ≠ k := by intro e; exact hs (by rw [e]; simp)
    simp [mapBlock, Array.getElem?_modify, this]⟩
theorem chg_grow {S : List Nat} (w : World) (os : Array Obj) : Chg S w (grow w os) :=
  ⟨rfl, rfl, rfl, by simp, fun k hk _ => heap_grow_old w os hk⟩
theorem chg_ahead {S : List Nat} (w : World) (n : Nat) : Chg S w (Sort.ahead w n) := ⟨rfl, rfl, rfl, Nat.le_refl _, fun _ _ _ => rfl⟩
theorem size_insInner {α : Type} [Inhabited α] (lt : α → α → Bool) (a : Nat) : ∀ (j : Nat) (d : Array α), (insInner lt a j d).size = d.size := by
  intro j
  induction j with
  | zero => intro d; rfl
  | succ j ih =>
    intro d
    simp only [insInner]
    split
    · rw [ih]; simp [swp]
    · rfl
theorem size_insOuter {α : Type} [Inhabited α] (lt : α → α → Bool) (a b : Nat) : ∀ (n i : Nat) (d : Array α), b - i ≤ n → (insOuter lt a b i d).size = d.size := by
  intro n
  induction n with
  | zero =>
    intro i d h
    rw [insOuter, if_neg (by omega)]
  | succ n ih =>
    intro i d h
    rw [insOuter]
    split
    · rw [ih _ _ (by omega), size_insInner]
    · rfl
set_option maxRecDepth 100000 in
theorem sort_sp (w : World) {g n cap : Nat} {cur : Array Value} {l : List (Int × Int)} (hb : w.heap[g]? = some (.cells cur 117 (0, 0))) (hs : Sp w g 0 l) (hl : l.length = n) (hn : n ≤ 12) :
    Calls Tryz.prog 246 #[.slice (some ⟨g, 0, none⟩) n cap, .func (.func 247) #[] #[]] w fun e w' => e = .returned (.tuple #[]) ∧ Chg [g] w w' ∧ ∃ l', l'.length = n ∧ Sp w' g 0 l' := by
  have eg : ∀ args w, (callFunc 247 args).run Tryz.prog w = .ok (.enter 247 args) w := enters_of Tryz.func247 (by kernel_rfl) rfl
  have hH : HoldsK encSp 2 w g 0 l.toArray := by
    intro j hj
    rw [size_flatK] at hj
    rw [get_flatK encSp 2 l.toArray j hj]
    exact ⟨hs j _ (spCells_get l j (by simpa using hj)), unfrozen hb _⟩
  have hcon := AnyQ.slices_SortFunc_small Tryz.sortSp 2 isAgg117 sizeOf117 encSp (fun _ => rfl) (fun x v hv => by simp [encSp] at hv; rcases hv with rfl | rfl <;> rfl) (fun x y => Lib.compareInt x.1 y.1) 247 #[] g 0 cap l.toArray w eg (cmpLays247 g 0 l.toArray.size w) hH (heap_lt hb) (by simpa [hl] using hn) hlen2
  change Calls Tryz.prog 246 _ _ _ at hcon
  have hz : l.toArray.size = n := by simpa using hl
  rw [hz] at hcon
  refine hcon.mono ?_
  rintro e w' ⟨rfl, m, os, rfl⟩
  have hsz : (Sort.insertionSort (ltOf fun x y : Int × Int => Lib.compareInt x.1 y.1) l.toArray 0 n).size = l.toArray.size := size_insOuter _ _ _ n _ _ (by omega)
  have hH2 := holdsK_sortWorldK_c encSp 2 w g 0 l.toArray _ m os hH (heap_lt hb) hsz
  refine ⟨rfl, ?_, (Sort.insertionSort (ltOf fun x y : Int × Int => Lib.compareInt x.1 y.1) l.toArray 0 n).toList, by simpa [hl] using hsz, ?_⟩
  · exact ((chg_ahead w m).then (chg_mapBlock _ g _)).then (chg_grow _ os)
  · intro j u hu
    have hj : j < (Sort.insertionSort (ltOf fun x y : Int × Int => Lib.compareInt x.1 y.1) l.toArray 0 n).size * 2 := by
      rcases Nat.lt_or_ge j ((Sort.insertionSort (ltOf fun x y : Int × Int => Lib.compareInt x.1 y.1) l.toArray 0 n).size * 2) with h | h
      · exact h
      · rw [List.getElem?_eq_none (by rw [spCells_len]; simpa using h)] at hu; cases hu
    rw [spCells_get _ j (by simpa using hj)] at hu
    have h2 := (hH2 j (by rw [size_flatK]; exact hj)).1
    rw [get_flatK encSp 2 _ j hj] at h2
    rw [h2]
    simpa using hu
end Go.Proofs.YtfodeeejolkkfaaGreat
namespace Go.Proofs.YtfodeeejolkkfaaGreat
open Go.RowKit Go.Lib

theorem add_lit (b o j : Nat) : (⟨b, o, none⟩ : Addr).add j = ⟨b, o + j, none⟩ := by unfold Addr.add; split <;> simp_all
theorem own_sp {w : World} {base n : Nat} {v : Value} {xs : List (Int × Int)} (h : w.ownsRow base 117 2 v n (spCells xs)) (hn : 0 < n) :
    ∃ g cap cur, v = .slice (some ⟨g, 0, none⟩) n cap ∧ base ≤ g ∧ w.heap[g]? = some (.cells cur 117 (0, 0)) ∧ Sp w g 0 xs ∧ n ≤ cap ∧ xs.length = n := by
  have hl := h.1
  rw [spCells_len] at hl
  rcases h.2 with ⟨rfl, h0⟩ | ⟨g, cap, cur, hv, hb, hg, hc, hm, hs, ht⟩
  · omega
  · subst hv
    exact ⟨g, cap, cur, rfl, hb, hg, fun j u hu => by have := h.cells (g := g) rfl j u hu; rw [add_lit] at this; exact this, hc, by omega⟩
theorem sp_at {w : World} {b o : Nat} {l : List (Int × Int)} (h : Sp w b o l) (i : Nat) (hi : i < l.length) : w.cell? ⟨b, o + i * 2, none⟩ = some (.int .i64 l[i].1) ∧ w.cell? ⟨b, o + (i * 2 + 1), none⟩ = some (.int .i64 l[i].2) := by
  have e1 : (i * 2) / 2 = i := by omega
  have e2 : (i * 2) % 2 = 0 := by omega
  have e3 : (i * 2 + 1) / 2 = i := by omega
  have e4 : (i * 2 + 1) % 2 = 1 := by omega
  have h1 := h (i * 2) _ (spCells_get l (i * 2) (by omega))
  have h2 := h (i * 2 + 1) _ (spCells_get l (i * 2 + 1) (by omega))
  rw [e1, e2] at h1
  rw [e3, e4] at h2
  simp [hi, encSp] at h1 h2
  exact ⟨h1, h2⟩
theorem spCells_set (xs : List (Int × Int)) (j : Nat) (h : j < xs.length) (z : Int) : (spCells xs).set (j * 2 + 1) (.int .i64 z) = spCells (xs.set j (xs[j].1, z)) := by
  induction xs generalizing j with
  | nil => simp at h
  | cons p l ih =>
    cases j with
    | zero => rfl
    | succ j =>
      have h' : j < l.length := by simpa using h
      have := ih j h'
      have e : ∀ q : Int × Int, ∀ m, spCells (q :: m) = .int .i64 q.1 :: .int .i64 q.2 :: spCells m := fun _ _ => rfl
      rw [List.set_cons_succ, e, e, show (j + 1) * 2 + 1 = (j * 2 + 1) + 1 + 1 by omega, List.set_cons_succ, List.set_cons_succ, this]
      rfl
theorem own_set {w : World} {base n g cap : Nat} {xs : List (Int × Int)} (h : w.ownsRow base 117 2 (.slice (some ⟨g, 0, none⟩) n cap) n (spCells xs)) (j : Nat) (hj : j < xs.length) (z : Int) :
    (w.setCell ⟨g, j * 2 + 1, none⟩ (.int .i64 z)).ownsRow base 117 2 (.slice (some ⟨g, 0, none⟩) n cap) n (spCells (xs.set j (xs[j].1, z))) := by
  have hl := h.1
  rw [spCells_len] at hl
  rcases h.2 with ⟨e, h0⟩ | ⟨g', cap', cur, hv, hb, hg, hc, hm, hs, ht⟩
  · cases e
  · cases hv
    refine ⟨by rw [spCells_len, List.length_set]; exact hl, Or.inr ⟨g, cap, cur.setIfInBounds (j * 2 + 1) (.int .i64 z), rfl, hb, heap_set hg _ _ rfl, hc, hm, by simpa using hs, ?_⟩⟩
    rw [← spCells_set xs j hj z, ← ht, Array.toList_setIfInBounds, List.take_set]
theorem ownsRow_chg {w w' : World} {S : List Nat} {base n e size : Nat} {v : Value} {xs : List Value} (h : w.ownsRow base e size v n xs) (hc : Chg S w w') (hS : ∀ x ∈ S, x < base := by simp) : w'.ownsRow base e size v n xs := by
  refine ⟨h.1, ?_⟩
  rcases h.2 with hn | ⟨g, cap, cur, hv, hb, hg, rest⟩
  · exact Or.inl hn
  · exact Or.inr ⟨g, cap, cur, hv, hb, hc.heap hg (fun hm => by have := hS g hm; omega), rest⟩
theorem ownsRow_base {w : World} {b base n e size : Nat} {v : Value} {xs : List Value} (h : w.ownsRow base e size v n xs) (hb : b ≤ base) : w.ownsRow b e size v n xs := by
  refine ⟨h.1, ?_⟩
  rcases h.2 with hn | ⟨g, cap, cur, hv, h1, hg, rest⟩
  · exact Or.inl hn
  · exact Or.inr ⟨g, cap, cur, hv, Nat.le_trans hb h1, hg, rest⟩
theorem sp_new (w : World) (a b : Int) : Sp (w.alloc (.cells #[.int .i64 a, .int .i64 b] 117)) w.heap.size 0 [(a, b)] := by
  have h := heap_new w (.cells #[.int .i64 a, .int .i64 b] 117)
  intro j u hu
  rw [Nat.zero_add]
  match j with
  | 0 => cases hu; exact cell_is h 0 rfl
  | 1 => cases hu; exact cell_is h 1 rfl
  | j + 2 => simp [spCells] at hu
set_option maxRecDepth 100000 in
set_option maxHeartbeats 2000000 in
theorem joined_any (w : World) {g0 o0 n cp : Nat} {l : List (Int × Int)} (hl : l.length = n) (h0 : 0 < n) (h1 : n ≤ 12) (hs : Sp w g0 o0 l) : Calls Tryz.prog 221 #[.slice (some ⟨g0, o0, none⟩) n cp] w fun e w' =>
    ∃ v k l', e = .returned v ∧ Chg [] w w' ∧ k ≤ n ∧ l'.length = k ∧ w'.ownsRow w.heap.size 117 2 v k (spCells l') := by
  go_enter Tryz.func221, Tryz.ntmps221
  go_wp2_with fail
  go_step3
  go_wp2_with fail
  refine (clone_sp w hl h0 (by omega) hs).mono ?_
  rintro e w1 ⟨v, rfl, k1, o1⟩
  obtain ⟨g, cap, cur, rfl, hg0, hb1, hs1, hcap, -⟩ := own_sp o1 h0
  clear o1
  go_wp2_with fail
  refine (sort_sp w1 (cap := cap) hb1 hs1 hl h1).mono ?_
  rintro e w2 ⟨rfl, k2, l2, hl2, hs2⟩
  have k3 : Chg [] w w2 := k1.trans k2 (fun x hx hlt => by simp at hx; omega)
  have hw := k3.size
  have HL2 := Lib.hid hl2
  clear hb1 hs1 hl hs k1 k2 hl2
  go_wp2_with fail
  go_step3
  go_wp2_with fail
  go_loopw [2, 12] (fun v i wr => ∃ iq k xs, i = .int .i64 ((iq : Nat) : Int) ∧ iq ≤ n ∧ k ≤ iq ∧ Chg [] w2 wr ∧ ((v = .slice none 0 0 ∧ k = 0 ∧ xs = []) ∨ (0 < k ∧ wr.ownsRow w2.heap.size 117 2 v k (spCells xs)))) (fun _ i _ => n - (intOf i).toNat)
  case atStart => exact ⟨0, 0, [], rfl, Nat.zero_le _, Nat.le_refl _, Chg.refl _ _, Or.inl ⟨rfl, rfl, rfl⟩⟩
  case round =>
    obtain ⟨iq, k, xs, rfl, hi, hk, kr, hv⟩ := hrel
    rcases Nat.lt_or_ge iq n with hlt | hge
    · have hS := hs2.keep kr
      obtain ⟨c0, c1⟩ := sp_at hS iq (by have := HL2.out; omega)
      generalize (l2[iq]'(by have := HL2.out; omega)).1 = a at *
      generalize (l2[iq]'(by have := HL2.out; omega)).2 = b at *
      simp only [Nat.zero_add] at c0 c1
      have hlt' : (iq : Int) < n := by omega
      rcases hv with ⟨rfl, rfl, rfl⟩ | ⟨hk0, ho⟩
      · go_wp2_with fail
        have kz : Chg [] wr (wr.alloc (.cells #[.int .i64 a, .int .i64 b] 117)) := Chg.alloc wr _
        have z0 := heap_new wr (.cells #[.int .i64 a, .int .i64 b] 117)
        generalize hw5 : wr.alloc (.cells #[.int .i64 a, .int .i64 b] 117) = w5 at *
        generalize wr.heap.size = z at *
        have d0 : w5.cell? ⟨z, 0, none⟩ = some (.int .i64 a) := cell_is z0 0 rfl
        have d1 : w5.cell? ⟨z, 1, none⟩ = some (.int .i64 b) := cell_is z0 1 rfl
        go_quiet (fail)
        have kw : Chg [] w2 ((w5.drewN nq).alloc (.cells #[.int .i64 a, .int .i64 b] 117)) := ((kr.then kz).drewN nq).then_alloc _
        have hsz := kw.size
        have hnw := Lib.hid (sp_new (w5.drewN nq) a b)
        go_wp2_with (at_builtin; refine wpList_append_sp rfl (.tmp 58) (.tmp 60) rfl w2.heap.size _ 0 [] [(a, b)] rfl (World.ownsRow_nil _ _ _ _) (w5.drewN nq).heap.size 0 1 1 rfl rfl hnw.out (by omega) hsz ?_; intro v1 w6 h6)
        go_roundw
        case rel => exact ⟨iq + 1, 1, _, by go_num, hlt, by omega, Chg.of_below (kw.below0.trans h6.2.1), Or.inr ⟨by omega, h6.1⟩⟩
        case measure => simp [intOf]; omega
      · obtain ⟨hb, cap', cur', rfl, hhb, hhc, hhs, hcc, hxl⟩ := own_sp ho hk0
        obtain ⟨k', rfl⟩ : ∃ k', k = k' + 1 := ⟨k - 1, by omega⟩
        obtain ⟨p0, q0⟩ := sp_at hhs k' (by omega)
        simp only [Nat.zero_add] at p0 q0
        obtain ⟨p, hp⟩ : ∃ p, p = (xs[k']'(by omega)).1 := ⟨_, rfl⟩
        obtain ⟨q, hq⟩ : ∃ q, q = (xs[k']'(by omega)).2 := ⟨_, rfl⟩
        rw [← hp] at p0
        rw [← hq] at q0
        clear hp hq
        go_wp2_with fail
        have kz : Chg [] wr (wr.alloc (.cells #[.int .i64 a, .int .i64 b] 117)) := Chg.alloc wr _
        have z0 := heap_new wr (.cells #[.int .i64 a, .int .i64 b] 117)
        generalize hw5 : wr.alloc (.cells #[.int .i64 a, .int .i64 b] 117) = w5 at *
        generalize wr.heap.size = z at *
        have d0 : w5.cell? ⟨z, 0, none⟩ = some (.int .i64 a) := cell_is z0 0 rfl
        have d1 : w5.cell? ⟨z, 1, none⟩ = some (.int .i64 b) := cell_is z0 1 rfl
        have p1 := kz.cell p0 (by simp)
        have q1 := kz.cell q0 (by simp)
        go_quiet (fail)
        by_cases hle : a ≤ wrap64 (p + q)
        · go_wp2_with fail
          have p2 : (w5.drewN nq).cell? ⟨hb, k' * 2, none⟩ = some (.int .i64 p) := p1
          have q2 : (w5.drewN nq).cell? ⟨hb, k' * 2 + 1, none⟩ = some (.int .i64 q) := q1
          have f2 : (w5.drewN nq).frozen? ⟨hb, k' * 2 + 1, none⟩ = false := unfrozen (kz.heap hhc (by simp)) _
          have d2 : (w5.drewN nq).cell? ⟨z, 0, none⟩ = some (.int .i64 a) := d0
          have d3 : (w5.drewN nq).cell? ⟨z, 1, none⟩ = some (.int .i64 b) := d1
          have hkk : (k' : Int) < k' + 1 := by omega
          have k6 : Chg [] w2 (w5.drewN nq) := (kr.then kz).drewN nq
          have hd6 : (w5.drewN nq).drew.ownsRow w2.heap.size 117 2 (.slice (some ⟨hb, 0, none⟩) (k' + 1) cap') (k' + 1) (spCells xs) := ownsRow_chg ho ((kz.drewN nq).drew)
          clear d0 d1 p1 q1
          generalize w5.drewN nq = w6 at *
          go_still_tail 21, (by kernel_rfl)
          change wpList _ _ _ _ _ w6.drew
          have HS := Lib.hid (fun z => own_set hd6 k' (by omega) z)
          have k7 : Chg [] w2 w6.drew := k6.drew
          have q7 : w6.drew.cell? ⟨hb, k' * 2 + 1, none⟩ = some (.int .i64 q) := q2
          have f7 : w6.drew.frozen? ⟨hb, k' * 2 + 1, none⟩ = false := f2
          generalize w6.drew = w7 at *
          go_wp2_with fail
          go_roundw
          case rel => exact ⟨iq + 1, k' + 1, _, by go_num, hlt, by omega, k7.new_set hhb _ _, Or.inr ⟨by omega, HS.out _⟩⟩
          case measure => simp [intOf]; omega
        · have kw : Chg [] w2 ((w5.drewN nq).alloc (.cells #[.int .i64 a, .int .i64 b] 117)) := ((kr.then kz).drewN nq).then_alloc _
          have ow : ((w5.drewN nq).alloc (.cells #[.int .i64 a, .int .i64 b] 117)).ownsRow w2.heap.size 117 2 (.slice (some ⟨hb, 0, none⟩) (k' + 1) cap') (k' + 1) (spCells xs) := ownsRow_chg ho ((kz.drewN nq).then_alloc _)
          have hsz := kw.size
          have hnw := Lib.hid (sp_new (w5.drewN nq) a b)
          go_wp2_with (at_builtin; refine wpList_append_sp rfl (.tmp 58) (.tmp 60) rfl w2.heap.size _ (k' + 1) xs [(a, b)] rfl ow (w5.drewN nq).heap.size 0 1 1 rfl rfl hnw.out (by omega) hsz ?_; intro v1 w6 h6)
          go_roundw
          case rel => exact ⟨iq + 1, k' + 2, _, by go_num, hlt, by omega, Chg.of_below (kw.below0.trans h6.2.1), Or.inr ⟨by omega, h6.1⟩⟩
          case measure => simp [intOf]; omega
    · obtain rfl : iq = n := by omega
      have hnl : ¬ ((iq : Int) < iq) := by omega
      rcases hv with ⟨rfl, rfl, rfl⟩ | ⟨hk0, ho⟩
      · go_wp2_with fail
        go_ret
        exact ⟨_, 0, [], rfl, k3.then kr, Nat.zero_le _, rfl, World.ownsRow_nil _ _ _ _⟩
      · go_wp2_with fail
        go_ret
        exact ⟨_, k, xs, rfl, k3.then kr, hk, by have := ho.1; rw [spCells_len] at this; omega, ownsRow_base ho hw⟩
end Go.Proofs.YtfodeeejolkkfaaGreat
namespace Go.Proofs.YtfodeeejolkkfaaGreat
open Go.RowKit Go.Lib

/-- a set of at most n spans, whatever they are; its row lies behind base. -/
def SpV (w : World) (base V n : Nat) : Prop := ∃ v l, SpansAt w V v ∧ l.length ≤ n ∧ w.ownsRow base 117 2 v l.length (spCells l)
/-- the blocks of S bear none of these types. -/
def Av (w : World) (S ts : List Nat) : Prop := ∀ x ∈ S, ∀ cs t fr, w.heap[x]? = some (.cells cs t fr) → t ∉ ts
theorem Av.ne {w : World} {S ts : List Nat} (h : Av w S ts) {g : Nat} {cs : Array Value} {t : TypeId} {fr : Nat × Nat} (hg : w.heap[g]? = some (.cells cs t fr)) (ht : t ∈ ts) : g ∉ S := fun hm => h g hm cs t fr hg ht
theorem Av.nil (w : World) (ts : List Nat) : Av w [] ts := fun x hx => by cases hx
theorem SpV.keep {w w' : World} {S : List Nat} {base V n : Nat} (h : SpV w base V n) (hc : Chg S w w') (hS : Av w S [117, 312]) : SpV w' base V n := by
  obtain ⟨v, l, h1, h2, h3⟩ := h
  refine ⟨v, l, hc.heap h1 (hS.ne h1 (by simp)), h2, h3.1, ?_⟩
  rcases h3.2 with hn | ⟨g, cap, cur, hv, hb, hg, rest⟩
  · exact Or.inl hn
  · exact Or.inr ⟨g, cap, cur, hv, hb, hc.heap hg (hS.ne hg (by simp)), rest⟩
theorem SpV.keep0 {w w' : World} {base V n : Nat} (h : SpV w base V n) (hc : Chg [] w w') : SpV w' base V n := h.keep hc (Av.nil _ _)
theorem own_spq {w : World} {base : Nat} {v : Value} {l : List (Int × Int)} (h : w.ownsRow base 117 2 v l.length (spCells l)) : ∃ pa c, v = .slice pa l.length c ∧ SpQ w pa l := by
  cases l with
  | nil =>
    rcases h.2 with ⟨rfl, h0⟩ | ⟨g, cap, cur, rfl, _⟩
    · exact ⟨none, 0, rfl, Or.inl ⟨rfl, rfl⟩⟩
    · exact ⟨_, cap, rfl, Or.inr ⟨g, 0, rfl, fun j u hu => by simp [spCells] at hu⟩⟩
  | cons p l =>
    obtain ⟨g, cap, cur, hv, _, _, hs, _, _⟩ := own_sp h (by simp)
    exact ⟨_, cap, hv, Or.inr ⟨g, 0, rfl, hs⟩⟩
set_option maxRecDepth 100000 in
set_option maxHeartbeats 2000000 in
theorem iadd_one (w : World) {base V n E cp : Nat} {b : Int} (h : SpV w base V n) (hn : n ≤ 11) (hbase : base ≤ w.heap.size) (h0 : 0 ≤ b) (h1 : b < 258) (e0 : w.cell? ⟨E, 0, none⟩ = some (.int .i64 b)) (e1 : w.cell? ⟨E, 1, none⟩ = some (.int .i64 1)) :
    Calls Tryz.prog 197 #[.pointer (some ⟨V, 0, none⟩), .slice (some ⟨E, 0, none⟩) 1 cp] w fun e w' => e = .returned (.int .i64 0) ∧ Chg [V] w w' ∧ SpV w' base V (n + 1) := by
  obtain ⟨v, l, hV, hl, ho⟩ := h
  obtain ⟨pa, c, rfl, hq⟩ := own_spq ho
  have hE : SpQ w (some ⟨E, 0, none⟩) [(b, 1)] := Or.inr ⟨E, 0, rfl, fun j u hu => by
    rw [Nat.zero_add]
    match j with
    | 0 => cases hu; exact e0
    | 1 => cases hu; exact e1
    | j + 2 => simp [spCells] at hu⟩
  have v1 : w.cell? ⟨V, 1, none⟩ = some (.slice pa l.length c) := cell_is hV 1 rfl
  go_enter Tryz.func197, Tryz.ntmps197
  go_wp2_with fail
  refine (iall_one w (cp := cp) h0 h1 e0 e1).mono ?_
  rintro e w1 ⟨rfl, k1⟩
  have v2 := k1.cell v1 (by simp)
  have hq2 := hq.keep k1
  have hE2 := hE.keep k1
  have hV2 := k1.heap hV (by simp)
  have ho2 := ownsRow_chg ho k1
  clear e0 e1 v1 hV hq hE ho
  go_wp2_with fail
  have kx : Chg [] w1 (w1.alloc (.cells #[.slice pa l.length c, .slice (some ⟨E, 0, none⟩) 1 cp] 217)) := Chg.alloc _ _
  have x0 : (w1.alloc (.cells #[.slice pa l.length c, .slice (some ⟨E, 0, none⟩) 1 cp] 217)).cell? ⟨w1.heap.size, 0, none⟩ = some (.slice pa l.length c) := cell_is (heap_new w1 _) 0 rfl
  have x1 : (w1.alloc (.cells #[.slice pa l.length c, .slice (some ⟨E, 0, none⟩) 1 cp] 217)).cell? ⟨w1.heap.size, 1, none⟩ = some (.slice (some ⟨E, 0, none⟩) 1 cp) := cell_is (heap_new w1 _) 1 rfl
  refine (concat_two _ x0 x1 rfl rfl (by omega) (by omega) (by omega) (hq2.keep kx) (hE2.keep kx)).mono ?_
  rintro e w2 ⟨v', rfl, k2, o2⟩
  obtain ⟨g, cap, cur, rfl, hgb, hgc, hgs, _, hgl⟩ := own_sp o2 (by simp)
  have k3 := (k1.then kx).then k2
  go_wp2_with fail
  refine (joined_any w2 hgl (by omega) (by omega) hgs).mono ?_
  rintro e w3 ⟨v3, k, l3, rfl, k4, hk, hl3, o3⟩
  have k5 := k3.then k4
  have hV3 : SpansAt w3 V (.slice pa l.length c) := ((kx.then k2).then k4).heap hV2 (by simp)
  have c0 : w3.cell? ⟨V, 0, none⟩ = some (.int .i64 64) := cell_is hV3 0 rfl
  have c1 : w3.cell? ⟨V, 1, none⟩ = some (.slice pa l.length c) := cell_is hV3 1 rfl
  have f1 := unfrozen hV3 1
  obtain ⟨pq, cq, hv3, hcq⟩ := own_form o3
  subst hv3
  have hsz := k3.size
  have HF := Lib.hid (show SpV (w3.setCell ⟨V, 1, none⟩ (.slice pq k cq)) base V (n + 1) from by
    refine ⟨_, l3, heap_set hV3 1 _ rfl, by omega, ?_⟩
    have kk := Chg.set w3 V 1 (.slice pq k cq)
    refine ownsRow_base (base := w2.heap.size) ?_ (by omega)
    rw [hl3]
    refine ownsRow_chg o3 kk ?_
    intro x hx
    have := heap_lt hV2
    have := (kx.then k2).size
    simp at hx
    omega)
  clear k3 k4 o3 hV3 hV2 x0 x1 hgs hgc o2 hq2 hE2
  have hcmp : ¬ ((k : Int) > 64) := by omega
  go_wp2_with fail
  go_ret
  exact ⟨rfl, (k5.mono (T := [V]) (fun x hx _ => by cases hx)).then (Chg.set w3 V 1 _), HF.out⟩
end Go.Proofs.YtfodeeejolkkfaaGreat
namespace Go.Proofs.YtfodeeejolkkfaaGreat
open Go.Shelf Go.RowKit Go.Lib Go.Sort

/-- spans, sorted as the program sorts them. -/
def sortedOf (l : List (Int × Int)) : List (Int × Int) := (Sort.insertionSort (ltOf fun x y : Int × Int => Lib.compareInt x.1 y.1) l.toArray 0 l.length).toList
set_option maxRecDepth 100000 in
theorem sort_spx (w : World) {g n cap : Nat} {cur : Array Value} {l : List (Int × Int)} (hb : w.heap[g]? = some (.cells cur 117 (0, 0))) (hs : Sp w g 0 l) (hl : l.length = n) (hn : n ≤ 12) :
    Calls Tryz.prog 246 #[.slice (some ⟨g, 0, none⟩) n cap, .func (.func 247) #[] #[]] w fun e w' => e = .returned (.tuple #[]) ∧ Chg [g] w w' ∧ (sortedOf l).length = n ∧ Sp w' g 0 (sortedOf l) := by
  subst hl
  have hl : l.length = l.length := rfl
  have eg : ∀ args w, (callFunc 247 args).run Tryz.prog w = .ok (.enter 247 args) w := enters_of Tryz.func247 (by kernel_rfl) rfl
  have hH : HoldsK encSp 2 w g 0 l.toArray := by
    intro j hj
    rw [size_flatK] at hj
    rw [get_flatK encSp 2 l.toArray j hj]
    exact ⟨hs j _ (spCells_get l j (by simpa using hj)), unfrozen hb _⟩
  have hcon := AnyQ.slices_SortFunc_small Tryz.sortSp 2 isAgg117 sizeOf117 encSp (fun _ => rfl) (fun x v hv => by simp [encSp] at hv; rcases hv with rfl | rfl <;> rfl) (fun x y => Lib.compareInt x.1 y.1) 247 #[] g 0 cap l.toArray w eg (cmpLays247 g 0 l.toArray.size w) hH (heap_lt hb) (by simpa [hl] using hn) hlen2
  change Calls Tryz.prog 246 _ _ _ at hcon
  have hz : l.toArray.size = l.length := by simp
  rw [hz] at hcon
  refine hcon.mono ?_
  rintro e w' ⟨rfl, m, os, rfl⟩
  have hsz : (Sort.insertionSort (ltOf fun x y : Int × Int => Lib.compareInt x.1 y.1) l.toArray 0 l.length).size = l.toArray.size := size_insOuter _ _ _ l.length _ _ (by omega)
  have hH2 := holdsK_sortWorldK_c encSp 2 w g 0 l.toArray _ m os hH (heap_lt hb) hsz
  refine ⟨rfl, ?_, by unfold sortedOf; simpa using hsz, ?_⟩
  · exact ((chg_ahead w m).then (chg_mapBlock _ g _)).then (chg_grow _ os)
  · unfold sortedOf
    intro j u hu
    have hj : j < (Sort.insertionSort (ltOf fun x y : Int × Int => Lib.compareInt x.1 y.1) l.toArray 0 l.length).size * 2 := by
      rcases Nat.lt_or_ge j ((Sort.insertionSort (ltOf fun x y : Int × Int => Lib.compareInt x.1 y.1) l.toArray 0 l.length).size * 2) with h | h
      · exact h
      · rw [List.getElem?_eq_none (by rw [spCells_len]; simpa using h)] at hu; cases hu
    rw [spCells_get _ j (by simpa using hj)] at hu
    have h2 := (hH2 j (by rw [size_flatK]; exact hj)).1
    rw [get_flatK encSp 2 _ j hj] at h2
    rw [h2]
    simpa using hu
/-- one span more, behind joined ones. -/
def jstep (xs : List (Int × Int)) (e : Int × Int) : List (Int × Int) :=
  if h : 0 < xs.length then
    (if e.1 ≤ wrap64 ((xs[xs.length - 1]'(by omega)).1 + (xs[xs.length - 1]'(by omega)).2) then xs.set (xs.length - 1) ((xs[xs.length - 1]'(by omega)).1, max (xs[xs.length - 1]'(by omega)).2 (wrap64 (wrap64 (e.1 + e.2) - (xs[xs.length - 1]'(by omega)).1))) else xs ++ [e])
  else [e]
theorem jstep_join {xs : List (Int × Int)} {e : Int × Int} {k : Nat} {p q : Int} (hk : xs.length = k + 1) (hp : p = (xs[k]'(by omega)).1) (hq : q = (xs[k]'(by omega)).2) (h : e.1 ≤ wrap64 (p + q)) : jstep xs e = xs.set k (p, max q (wrap64 (wrap64 (e.1 + e.2) - p))) := by
  have e1 : xs.length - 1 = k := by omega
  unfold jstep
  rw [dif_pos (by omega)]
  simp only [e1, ← hp, ← hq]
  rw [if_pos h]
theorem jstep_push {xs : List (Int × Int)} {e : Int × Int} {k : Nat} {p q : Int} (hk : xs.length = k + 1) (hp : p = (xs[k]'(by omega)).1) (hq : q = (xs[k]'(by omega)).2) (h : ¬ e.1 ≤ wrap64 (p + q)) : jstep xs e = xs ++ [e] := by
  have e1 : xs.length - 1 = k := by omega
  unfold jstep
  rw [dif_pos (by omega)]
  simp only [e1, ← hp, ← hq]
  rw [if_neg h]
set_option maxRecDepth 100000 in
set_option maxHeartbeats 2000000 in
theorem joined_fold (w : World) {g0 o0 n cp : Nat} {l : List (Int × Int)} (hl : l.length = n) (h0 : 0 < n) (h1 : n ≤ 12) (hs : Sp w g0 o0 l) : Calls Tryz.prog 221 #[.slice (some ⟨g0, o0, none⟩) n cp] w fun e w' =>
    ∃ v l', e = .returned v ∧ Chg [] w w' ∧ l' = (sortedOf l).foldl jstep [] ∧ w'.ownsRow w.heap.size 117 2 v l'.length (spCells l') := by
  go_enter Tryz.func221, Tryz.ntmps221
  go_wp2_with fail
  go_step3
  go_wp2_with fail
  refine (clone_sp w hl h0 (by omega) hs).mono ?_
  rintro e w1 ⟨v, rfl, k1, o1⟩
  obtain ⟨g, cap, cur, rfl, hg0, hb1, hs1, hcap, -⟩ := own_sp o1 h0
  clear o1
  go_wp2_with fail
  refine (sort_spx w1 (cap := cap) hb1 hs1 hl h1).mono ?_
  rintro e w2 ⟨rfl, k2, hl2, hs2⟩
  generalize hL : sortedOf l = l2 at *
  have k3 : Chg [] w w2 := k1.trans k2 (fun x hx hlt => by simp at hx; omega)
  have hw := k3.size
  have HL2 := Lib.hid hl2
  clear hb1 hs1 hl hs k1 k2 hl2
  go_wp2_with fail
  go_step3
  go_wp2_with fail
  go_loopw [2, 12] (fun v i wr => ∃ iq k xs, i = .int .i64 ((iq : Nat) : Int) ∧ iq ≤ n ∧ k ≤ iq ∧ Chg [] w2 wr ∧ xs = (l2.take iq).foldl jstep [] ∧ ((v = .slice none 0 0 ∧ k = 0 ∧ xs = []) ∨ (0 < k ∧ wr.ownsRow w2.heap.size 117 2 v k (spCells xs)))) (fun _ i _ => n - (intOf i).toNat)
  case atStart => exact ⟨0, 0, [], rfl, Nat.zero_le _, Nat.le_refl _, Chg.refl _ _, rfl, Or.inl ⟨rfl, rfl, rfl⟩⟩
  case round =>
    obtain ⟨iq, k, xs, rfl, hi, hk, kr, hxs, hv⟩ := hrel
    rcases Nat.lt_or_ge iq n with hlt | hge
    · have hS := hs2.keep kr
      obtain ⟨c0, c1⟩ := sp_at hS iq (by have := HL2.out; omega)
      have hnx : (l2.take (iq + 1)).foldl jstep [] = jstep xs (l2[iq]'(by have := HL2.out; omega)) := by rw [← List.take_append_getElem (by have := HL2.out; omega), List.foldl_append, hxs]; rfl
      generalize hE : (l2[iq]'(by have := HL2.out; omega)) = E0 at *
      obtain ⟨a, b⟩ := E0
      have HN := Lib.hid hnx
      clear hnx
      simp only [Nat.zero_add] at c0 c1
      have hlt' : (iq : Int) < n := by omega
      rcases hv with ⟨rfl, rfl, hx0⟩ | ⟨hk0, ho⟩
      · subst hx0
        go_wp2_with fail
        have kz : Chg [] wr (wr.alloc (.cells #[.int .i64 a, .int .i64 b] 117)) := Chg.alloc wr _
        have z0 := heap_new wr (.cells #[.int .i64 a, .int .i64 b] 117)
        generalize hw5 : wr.alloc (.cells #[.int .i64 a, .int .i64 b] 117) = w5 at *
        generalize wr.heap.size = z at *
        have d0 : w5.cell? ⟨z, 0, none⟩ = some (.int .i64 a) := cell_is z0 0 rfl
        have d1 : w5.cell? ⟨z, 1, none⟩ = some (.int .i64 b) := cell_is z0 1 rfl
        go_quiet (fail)
        have kw : Chg [] w2 ((w5.drewN nq).alloc (.cells #[.int .i64 a, .int .i64 b] 117)) := ((kr.then kz).drewN nq).then_alloc _
        have hsz := kw.size
        have hnw := Lib.hid (sp_new (w5.drewN nq) a b)
        go_wp2_with (at_builtin; refine wpList_append_sp rfl (.tmp 58) (.tmp 60) rfl w2.heap.size _ 0 [] [(a, b)] rfl (World.ownsRow_nil _ _ _ _) (w5.drewN nq).heap.size 0 1 1 rfl rfl hnw.out (by omega) hsz ?_; intro v1 w6 h6)
        go_roundw
        case rel => exact ⟨iq + 1, 1, _, by go_num, hlt, by omega, Chg.of_below (kw.below0.trans h6.2.1), by rw [HN.out]; rfl, Or.inr ⟨by omega, h6.1⟩⟩
        case measure => simp [intOf]; omega
      · obtain ⟨hb, cap', cur', rfl, hhb, hhc, hhs, hcc, hxl⟩ := own_sp ho hk0
        obtain ⟨k', rfl⟩ : ∃ k', k = k' + 1 := ⟨k - 1, by omega⟩
        obtain ⟨p0, q0⟩ := sp_at hhs k' (by omega)
        simp only [Nat.zero_add] at p0 q0
        obtain ⟨p, hp⟩ : ∃ p, p = (xs[k']'(by omega)).1 := ⟨_, rfl⟩
        obtain ⟨q, hq⟩ : ∃ q, q = (xs[k']'(by omega)).2 := ⟨_, rfl⟩
        rw [← hp] at p0
        rw [← hq] at q0
        have HJ := Lib.hid (fun hle => jstep_join (e := (a, b)) hxl hp hq hle)
        have HP := Lib.hid (fun hle => jstep_push (e := (a, b)) hxl hp hq hle)
        have HQ := Lib.hid hp
        clear hp hq
        go_wp2_with fail
        have kz : Chg [] wr (wr.alloc (.cells #[.int .i64 a, .int .i64 b] 117)) := Chg.alloc wr _
        have z0 := heap_new wr (.cells #[.int .i64 a, .int .i64 b] 117)
        generalize hw5 : wr.alloc (.cells #[.int .i64 a, .int .i64 b] 117) = w5 at *
        generalize wr.heap.size = z at *
        have d0 : w5.cell? ⟨z, 0, none⟩ = some (.int .i64 a) := cell_is z0 0 rfl
        have d1 : w5.cell? ⟨z, 1, none⟩ = some (.int .i64 b) := cell_is z0 1 rfl
        have p1 := kz.cell p0 (by simp)
        have q1 := kz.cell q0 (by simp)
        go_quiet (fail)
        by_cases hle : a ≤ wrap64 (p + q)
        · go_wp2_with fail
          have p2 : (w5.drewN nq).cell? ⟨hb, k' * 2, none⟩ = some (.int .i64 p) := p1
          have q2 : (w5.drewN nq).cell? ⟨hb, k' * 2 + 1, none⟩ = some (.int .i64 q) := q1
          have f2 : (w5.drewN nq).frozen? ⟨hb, k' * 2 + 1, none⟩ = false := unfrozen (kz.heap hhc (by simp)) _
          have d2 : (w5.drewN nq).cell? ⟨z, 0, none⟩ = some (.int .i64 a) := d0
          have d3 : (w5.drewN nq).cell? ⟨z, 1, none⟩ = some (.int .i64 b) := d1
          have hkk : (k' : Int) < k' + 1 := by omega
          have k6 : Chg [] w2 (w5.drewN nq) := (kr.then kz).drewN nq
          have hd6 : (w5.drewN nq).drew.ownsRow w2.heap.size 117 2 (.slice (some ⟨hb, 0, none⟩) (k' + 1) cap') (k' + 1) (spCells xs) := ownsRow_chg ho ((kz.drewN nq).drew)
          clear d0 d1 p1 q1
          generalize w5.drewN nq = w6 at *
          go_still_tail 21, (by kernel_rfl)
          change wpList _ _ _ _ _ w6.drew
          have HS := Lib.hid (fun z => own_set hd6 k' (by omega) z)
          have k7 : Chg [] w2 w6.drew := k6.drew
          have q7 : w6.drew.cell? ⟨hb, k' * 2 + 1, none⟩ = some (.int .i64 q) := q2
          have f7 : w6.drew.frozen? ⟨hb, k' * 2 + 1, none⟩ = false := f2
          generalize w6.drew = w7 at *
          go_wp2_with fail
          go_roundw
          case rel => exact ⟨iq + 1, k' + 1, _, by go_num, hlt, by omega, k7.new_set hhb _ _, by rw [HN.out, HJ.out hle, ← HQ.out], Or.inr ⟨by omega, HS.out _⟩⟩
          case measure => simp [intOf]; omega
        · have kw : Chg [] w2 ((w5.drewN nq).alloc (.cells #[.int .i64 a, .int .i64 b] 117)) := ((kr.then kz).drewN nq).then_alloc _
          have ow : ((w5.drewN nq).alloc (.cells #[.int .i64 a, .int .i64 b] 117)).ownsRow w2.heap.size 117 2 (.slice (some ⟨hb, 0, none⟩) (k' + 1) cap') (k' + 1) (spCells xs) := ownsRow_chg ho ((kz.drewN nq).then_alloc _)
          have hsz := kw.size
          have hnw := Lib.hid (sp_new (w5.drewN nq) a b)
          go_wp2_with (at_builtin; refine wpList_append_sp rfl (.tmp 58) (.tmp 60) rfl w2.heap.size _ (k' + 1) xs [(a, b)] rfl ow (w5.drewN nq).heap.size 0 1 1 rfl rfl hnw.out (by omega) hsz ?_; intro v1 w6 h6)
          go_roundw
          case rel => exact ⟨iq + 1, k' + 2, _, by go_num, hlt, by omega, Chg.of_below (kw.below0.trans h6.2.1), by rw [HN.out, HP.out (by omega)], Or.inr ⟨by omega, h6.1⟩⟩
          case measure => simp [intOf]; omega
    · obtain rfl : iq = n := by omega
      have hnl : ¬ ((iq : Int) < iq) := by omega
      have hxs2 : xs = l2.foldl jstep [] := by rw [hxs, List.take_of_length_le (by have := HL2.out; omega)]
      rcases hv with ⟨rfl, rfl, hx0⟩ | ⟨hk0, ho⟩
      · go_wp2_with fail
        go_ret
        exact ⟨_, _, rfl, k3.then kr, rfl, by rw [hL, ← hxs2, hx0]; exact World.ownsRow_nil _ _ _ _⟩
      · go_wp2_with fail
        go_ret
        have hlx : xs.length = k := by have := ho.1; rw [spCells_len] at this; omega
        exact ⟨_, _, rfl, k3.then kr, rfl, by rw [hL, ← hxs2, hlx]; exact ownsRow_base ho hw⟩
end Go.Proofs.YtfodeeejolkkfaaGreat
namespace Go.Proofs.YtfodeeejolkkfaaGreat
open Go.RowKit Go.Lib

/-- a set of just these spans. -/
def SpX (w : World) (base V : Nat) (l : List (Int × Int)) : Prop := ∃ v, SpansAt w V v ∧ w.ownsRow base 117 2 v l.length (spCells l)
theorem SpX.keep {w w' : World} {S : List Nat} {base V : Nat} {l : List (Int × Int)} (h : SpX w base V l) (hc : Chg S w w') (hS : Av w S [117, 312]) : SpX w' base V l := by
  obtain ⟨v, h1, h3⟩ := h
  refine ⟨v, hc.heap h1 (hS.ne h1 (by simp)), h3.1, ?_⟩
  rcases h3.2 with hn | ⟨g, cap, cur, hv, hb, hg, rest⟩
  · exact Or.inl hn
  · exact Or.inr ⟨g, cap, cur, hv, hb, hc.heap hg (hS.ne hg (by simp)), rest⟩
theorem SpX.keep0 {w w' : World} {base V : Nat} {l : List (Int × Int)} (h : SpX w base V l) (hc : Chg [] w w') : SpX w' base V l := h.keep hc (Av.nil _ _)
/-- no span, or one that a new one meets from within or at its end. -/
def Ext (l : List (Int × Int)) (b _n : Int) : Prop := l = [] ∨ ∃ a k, l = [(a, k)] ∧ 0 ≤ a ∧ a ≤ b ∧ b ≤ a + k ∧ a + k ≤ 258
def addSp (l : List (Int × Int)) (b n : Int) : List (Int × Int) :=
  match l with
  | [] => [(b, n)]
  | (a, k) :: _ => [(a, max k (b + n - a))]
theorem addSp_len (l : List (Int × Int)) (b n : Int) : (addSp l b n).length = 1 := by
  unfold addSp
  split <;> rfl
theorem Ext.len {l : List (Int × Int)} {b n : Int} (h : Ext l b n) : l.length ≤ 1 := by
  rcases h with rfl | ⟨a, k, rfl, _⟩ <;> simp
theorem sorted_one (p : Int × Int) : sortedOf [p] = [p] := by
  unfold sortedOf Sort.insertionSort
  rw [Sort.insOuter, if_neg (by simp)]
theorem sorted_two {p q : Int × Int} (h : p.1 ≤ q.1) : sortedOf [p, q] = [p, q] := by
  have hc : ltOf (fun x y : Int × Int => Lib.compareInt x.1 y.1) q p = false := by
    unfold ltOf Lib.compareInt
    simp only [decide_eq_false_iff_not]
    split
    · omega
    · split <;> omega
  unfold sortedOf Sort.insertionSort
  rw [Sort.insOuter, if_pos (by simp), Sort.insOuter, if_neg (by simp)]
  simp [Sort.insInner, hc]
theorem join_ext {l : List (Int × Int)} {b n : Int} (hx : Ext l b n) (h0 : 0 ≤ b) (hn : 1 ≤ n) (h1 : b + n ≤ 258) : (sortedOf (l ++ [(b, n)])).foldl jstep [] = addSp l b n := by
  rcases hx with rfl | ⟨a, k, rfl, ha, hab, hbk, hk⟩
  · rw [List.nil_append, sorted_one]; rfl
  · rw [List.singleton_append, sorted_two (by exact hab)]
    show jstep [(a, k)] (b, n) = _
    rw [jstep_join (k := 0) (p := a) (q := k) rfl rfl rfl (by unfold wrap64; omega)]
    have e1 : wrap64 (b + n) = b + n := by unfold wrap64; omega
    have e2 : wrap64 (b + n - a) = b + n - a := by unfold wrap64; omega
    simp only [e1, e2, addSp, List.set_cons_zero]
set_option maxRecDepth 100000 in
theorem imay_nv (w : World) {b n : Int} (h0 : 0 ≤ b) (hn : 1 ≤ n) (h1 : b + n ≤ 258) : Calls Tryz.prog 245 #[.agg #[.int .i64 b, .int .i64 n]] w fun e w' => e = .returned (.bool true) ∧ Chg [] w w' := by
  have kc : Chg [] w (w.alloc (.cells #[.int .i64 b, .int .i64 n] 117)) := Chg.alloc w _
  have n0 : decide (0 ≤ b) = true := decide_eq_true h0
  have n1 : decide (b ≤ 1048576) = true := decide_eq_true (by omega)
  have n2 : decide (1 ≤ n) = true := decide_eq_true hn
  have n3 : decide (n ≤ 1048576) = true := decide_eq_true (by omega)
  have hw : IntKind.i64.wrap (b + n) = b + n := by rw [IntKind.wrap_i64]; omega
  have n4 : decide (b + n ≤ 1048577) = true := decide_eq_true (by omega)
  go_enter Tryz.func245, Tryz.ntmps245
  go_wp2_with fail
  go_ret
  exact ⟨by first | rfl | (simp; omega), kc⟩
set_option maxRecDepth 100000 in
theorem inot_nv (w : World) {b n : Int} (h0 : 0 ≤ b) (hn : 1 ≤ n) (h1 : b + n ≤ 258) : Calls Tryz.prog 244 #[.agg #[.int .i64 b, .int .i64 n]] w fun e w' => e = .returned (.bool false) ∧ Chg [] w w' := by
  have kc : Chg [] w (w.alloc (.cells #[.int .i64 b, .int .i64 n] 117)) := Chg.alloc w _
  go_enter Tryz.func244, Tryz.ntmps244
  go_wp2_with fail
  refine (imay_nv _ h0 hn h1).mono ?_
  rintro e w2 ⟨rfl, k2⟩
  go_wp2_with fail
  go_ret
  exact ⟨rfl, kc.then k2⟩
set_option maxRecDepth 100000 in
theorem iall_nv (w : World) {E eo cp : Nat} {b n : Int} (h0 : 0 ≤ b) (hn : 1 ≤ n) (h1 : b + n ≤ 258) (e0 : w.cell? ⟨E, eo, none⟩ = some (.int .i64 b)) (e1 : w.cell? ⟨E, eo + 1, none⟩ = some (.int .i64 n)) : Calls Tryz.prog 220 #[.slice (some ⟨E, eo, none⟩) 1 cp] w fun e w' => e = .returned (.bool true) ∧ Chg [] w w' := by
  go_enter Tryz.func220, Tryz.ntmps220
  go_wp2_with fail
  refine (contspan_one w e0 e1 (inot_nv w h0 hn h1)).mono ?_
  rintro e w2 ⟨rfl, k2⟩
  go_wp2_with fail
  go_ret
  exact ⟨rfl, k2⟩
set_option maxRecDepth 100000 in
set_option maxHeartbeats 2000000 in
theorem iadd_ext (w : World) {base V E cp : Nat} {b n : Int} {l : List (Int × Int)} (h : SpX w base V l) (hx : Ext l b n) (hbase : base ≤ w.heap.size) (h0 : 0 ≤ b) (hn : 1 ≤ n) (h1 : b + n ≤ 258) (e0 : w.cell? ⟨E, 0, none⟩ = some (.int .i64 b)) (e1 : w.cell? ⟨E, 1, none⟩ = some (.int .i64 n)) :
    Calls Tryz.prog 197 #[.pointer (some ⟨V, 0, none⟩), .slice (some ⟨E, 0, none⟩) 1 cp] w fun e w' => e = .returned (.int .i64 0) ∧ Chg [V] w w' ∧ SpX w' base V (addSp l b n) := by
  have HJ := Lib.hid (join_ext hx h0 hn h1)
  have hl := hx.len
  obtain ⟨v, hV, ho⟩ := h
  obtain ⟨pa, c, rfl, hq⟩ := own_spq ho
  have hE : SpQ w (some ⟨E, 0, none⟩) [(b, n)] := Or.inr ⟨E, 0, rfl, fun j u hu => by
    rw [Nat.zero_add]
    match j with
    | 0 => cases hu; exact e0
    | 1 => cases hu; exact e1
    | j + 2 => simp [spCells] at hu⟩
  have v1 : w.cell? ⟨V, 1, none⟩ = some (.slice pa l.length c) := cell_is hV 1 rfl
  go_enter Tryz.func197, Tryz.ntmps197
  go_wp2_with fail
  refine (iall_nv w (cp := cp) h0 hn h1 e0 e1).mono ?_
  rintro e w1 ⟨rfl, k1⟩
  have v2 := k1.cell v1 (by simp)
  have hq2 := hq.keep k1
  have hE2 := hE.keep k1
  have hV2 := k1.heap hV (by simp)
  have ho2 := ownsRow_chg ho k1
  clear e0 e1 v1 hV hq hE ho
  go_wp2_with fail
  have kx : Chg [] w1 (w1.alloc (.cells #[.slice pa l.length c, .slice (some ⟨E, 0, none⟩) 1 cp] 217)) := Chg.alloc _ _
  have x0 : (w1.alloc (.cells #[.slice pa l.length c, .slice (some ⟨E, 0, none⟩) 1 cp] 217)).cell? ⟨w1.heap.size, 0, none⟩ = some (.slice pa l.length c) := cell_is (heap_new w1 _) 0 rfl
  have x1 : (w1.alloc (.cells #[.slice pa l.length c, .slice (some ⟨E, 0, none⟩) 1 cp] 217)).cell? ⟨w1.heap.size, 1, none⟩ = some (.slice (some ⟨E, 0, none⟩) 1 cp) := cell_is (heap_new w1 _) 1 rfl
  refine (concat_two _ x0 x1 rfl rfl (by omega) (by omega) (by omega) (hq2.keep kx) (hE2.keep kx)).mono ?_
  rintro e w2 ⟨v', rfl, k2, o2⟩
  obtain ⟨g, cap, cur, rfl, hgb, hgc, hgs, _, hgl⟩ := own_sp o2 (by simp)
  have k3 := (k1.then kx).then k2
  go_wp2_with fail
  refine (joined_fold w2 hgl (by omega) (by omega) hgs).mono ?_
  rintro e w3 ⟨v3, l3, rfl, k4, hl3, o3⟩
  rw [HJ.out] at hl3
  rw [hl3, addSp_len] at o3
  clear hl3
  have k5 := k3.then k4
  have hV3 : SpansAt w3 V (.slice pa l.length c) := ((kx.then k2).then k4).heap hV2 (by simp)
  have c0 : w3.cell? ⟨V, 0, none⟩ = some (.int .i64 64) := cell_is hV3 0 rfl
  have c1 : w3.cell? ⟨V, 1, none⟩ = some (.slice pa l.length c) := cell_is hV3 1 rfl
  have f1 := unfrozen hV3 1
  obtain ⟨pq, cq, hv3, hcq⟩ := own_form o3
  subst hv3
  have hsz := k3.size
  have HF := Lib.hid (show SpX (w3.setCell ⟨V, 1, none⟩ (.slice pq 1 cq)) base V (addSp l b n) from by
    refine ⟨_, heap_set hV3 1 _ rfl, ?_⟩
    have kk := Chg.set w3 V 1 (.slice pq 1 cq)
    refine ownsRow_base (base := w2.heap.size) ?_ (by omega)
    rw [addSp_len]
    refine ownsRow_chg o3 kk ?_
    intro x hx
    have := heap_lt hV2
    have := (kx.then k2).size
    simp at hx
    omega)
  clear k3 k4 o3 hV3 hV2 x0 x1 hgs hgc o2 hq2 hE2
  go_wp2_with fail
  go_ret
  exact ⟨rfl, (k5.mono (T := [V]) (fun x hx _ => by cases hx)).then (Chg.set w3 V 1 _), HF.out⟩
end Go.Proofs.YtfodeeejolkkfaaGreat
namespace Go.Proofs.YtfodeeejolkkfaaGreat
open Go.RowKit Go.Lib

/-- spans that are joined with one more. -/
def joinS (l : List (Int × Int)) (b n : Int) : List (Int × Int) := (sortedOf (l ++ [(b, n)])).foldl jstep []
theorem jstep_len (xs : List (Int × Int)) (e : Int × Int) : (jstep xs e).length ≤ xs.length + 1 := by
  unfold jstep
  split
  · split
    · rw [List.length_set]; omega
    · rw [List.length_append]; exact Nat.le_refl _
  · simp
theorem jfold_len (l : List (Int × Int)) : ∀ xs : List (Int × Int), (l.foldl jstep xs).length ≤ xs.length + l.length := by
  induction l with
  | nil => intro xs; exact Nat.le_refl _
  | cons e l ih => intro xs; have h1 := ih (jstep xs e); have h2 := jstep_len xs e; simp only [List.foldl_cons, List.length_cons] at h1 ⊢; omega
theorem sortedOf_len (l : List (Int × Int)) : (sortedOf l).length = l.length := by
  have hsz : (Sort.insertionSort (ltOf fun x y : Int × Int => Lib.compareInt x.1 y.1) l.toArray 0 l.length).size = l.toArray.size := size_insOuter _ _ _ l.length _ _ (by omega)
  unfold sortedOf
  rw [Array.length_toList, hsz, List.size_toArray]
theorem joinS_len (l : List (Int × Int)) (b n : Int) : (joinS l b n).length ≤ l.length + 1 := by
  have := jfold_len (sortedOf (l ++ [(b, n)])) []
  rw [sortedOf_len, List.length_append] at this
  simpa [joinS] using this
theorem joinS_ext {l : List (Int × Int)} {b n : Int} (hx : Ext l b n) (h0 : 0 ≤ b) (hn : 1 ≤ n) (h1 : b + n ≤ 258) : joinS l b n = addSp l b n := join_ext hx h0 hn h1
set_option maxRecDepth 100000 in
set_option maxHeartbeats 2000000 in
theorem iadd_x (w : World) {base V E cp : Nat} {b n : Int} {l : List (Int × Int)} (h : SpX w base V l) (hx : l.length ≤ 11) (hbase : base ≤ w.heap.size) (h0 : 0 ≤ b) (hn : 1 ≤ n) (h1 : b + n ≤ 258) (e0 : w.cell? ⟨E, 0, none⟩ = some (.int .i64 b)) (e1 : w.cell? ⟨E, 1, none⟩ = some (.int .i64 n)) :
    Calls Tryz.prog 197 #[.pointer (some ⟨V, 0, none⟩), .slice (some ⟨E, 0, none⟩) 1 cp] w fun e w' => e = .returned (.int .i64 0) ∧ Chg [V] w w' ∧ SpX w' base V (joinS l b n) := by
  have hl := hx
  have HJ := Lib.hid (joinS_len l b n)
  obtain ⟨v, hV, ho⟩ := h
  obtain ⟨pa, c, rfl, hq⟩ := own_spq ho
  have hE : SpQ w (some ⟨E, 0, none⟩) [(b, n)] := Or.inr ⟨E, 0, rfl, fun j u hu => by
    rw [Nat.zero_add]
    match j with
    | 0 => cases hu; exact e0
    | 1 => cases hu; exact e1
    | j + 2 => simp [spCells] at hu⟩
  have v1 : w.cell? ⟨V, 1, none⟩ = some (.slice pa l.length c) := cell_is hV 1 rfl
  go_enter Tryz.func197, Tryz.ntmps197
  go_wp2_with fail
  refine (iall_nv w (cp := cp) h0 hn h1 e0 e1).mono ?_
  rintro e w1 ⟨rfl, k1⟩
  have v2 := k1.cell v1 (by simp)
  have hq2 := hq.keep k1
  have hE2 := hE.keep k1
  have hV2 := k1.heap hV (by simp)
  have ho2 := ownsRow_chg ho k1
  clear e0 e1 v1 hV hq hE ho
  go_wp2_with fail
  have kx : Chg [] w1 (w1.alloc (.cells #[.slice pa l.length c, .slice (some ⟨E, 0, none⟩) 1 cp] 217)) := Chg.alloc _ _
  have x0 : (w1.alloc (.cells #[.slice pa l.length c, .slice (some ⟨E, 0, none⟩) 1 cp] 217)).cell? ⟨w1.heap.size, 0, none⟩ = some (.slice pa l.length c) := cell_is (heap_new w1 _) 0 rfl
  have x1 : (w1.alloc (.cells #[.slice pa l.length c, .slice (some ⟨E, 0, none⟩) 1 cp] 217)).cell? ⟨w1.heap.size, 1, none⟩ = some (.slice (some ⟨E, 0, none⟩) 1 cp) := cell_is (heap_new w1 _) 1 rfl
  refine (concat_two _ x0 x1 rfl rfl (by omega) (by omega) (by omega) (hq2.keep kx) (hE2.keep kx)).mono ?_
  rintro e w2 ⟨v', rfl, k2, o2⟩
  obtain ⟨g, cap, cur, rfl, hgb, hgc, hgs, _, hgl⟩ := own_sp o2 (by simp)
  have k3 := (k1.then kx).then k2
  go_wp2_with fail
  refine (joined_fold w2 hgl (by omega) (by omega) hgs).mono ?_
  rintro e w3 ⟨v3, l3, rfl, k4, hl3, o3⟩
  have hj3 : l3 = joinS l b n := hl3
  have hl12 : l3.length ≤ 12 := by rw [hj3]; have := HJ.out; omega
  have HJ3 := Lib.hid hj3
  clear hl3 hj3
  have k5 := k3.then k4
  have hV3 : SpansAt w3 V (.slice pa l.length c) := ((kx.then k2).then k4).heap hV2 (by simp)
  have c0 : w3.cell? ⟨V, 0, none⟩ = some (.int .i64 64) := cell_is hV3 0 rfl
  have c1 : w3.cell? ⟨V, 1, none⟩ = some (.slice pa l.length c) := cell_is hV3 1 rfl
  have f1 := unfrozen hV3 1
  obtain ⟨pq, cq, hv3, hcq⟩ := own_form o3
  subst hv3
  have hsz := k3.size
  have HF := Lib.hid (show SpX (w3.setCell ⟨V, 1, none⟩ (.slice pq l3.length cq)) base V l3 from by
    refine ⟨_, heap_set hV3 1 _ rfl, ?_⟩
    have kk := Chg.set w3 V 1 (.slice pq l3.length cq)
    refine ownsRow_base (base := w2.heap.size) ?_ (by omega)
    refine ownsRow_chg o3 kk ?_
    intro x hx
    have := heap_lt hV2
    have := (kx.then k2).size
    simp at hx
    omega)
  clear k3 k4 o3 hV3 hV2 x0 x1 hgs hgc o2 hq2 hE2
  go_wp2_with fail
  go_ret
  exact ⟨rfl, (k5.mono (T := [V]) (fun x hx _ => by cases hx)).then (Chg.set w3 V 1 _), by rw [← HJ3.out]; exact HF.out⟩
end Go.Proofs.YtfodeeejolkkfaaGreat
