/- Lemmas and walks: Walks: one put is written into a buffer. Walks: the store's Write of one put. Walks: what a buffer holds; how many cells there are. Walks: versions without entries are read. Walks: versions without entries are read: forty noughts. Walks: a range of one block, without versions, is forty noughts. Walks: one span is looked at. Walks: spans in memory, a copy of spans. Walks: spans of two rows in one new row. Walks: a few spans are sorted. Walks: spans joined: there are no more of them than before. Walks: a span is added to a set of few spans. Walks: a view reads one block. Walks: the store's Read of one block; what stands of a store with one transaction. Walks: sets of spans, whatever the spans are: nothing panics. Walks: versions of blocks are read. Walks: a view reads one block, versions and its own writes too. Walks: a set's extents, their count; a view's set. Maps with int keys: their keys in order; an entry is taken away. -/
import Derived.Test.YtnelakpdmjfolaaGreatProg
import Derived.Lib.AppendZeros
import Derived.Deep.RegionHeld3
import Derived.Deep.QuietTactic
import Derived.BigQuiet
import Derived.StillTailTactics
import Derived.Deep.AppendLies
import Derived.WideShapes
import Derived.Test.YtnelakpdmjfolaaGreatCa
import Derived.Test.YtnelakpdmjfolaaGreatCb
import Derived.Test.YtnelakpdmjfolaaGreatCc
namespace Go.Proofs.YtnelakpdmjfolaaGreat
open Go.RowKit Go.Lib

theorem ty151 : Tryz.prog.underlying 87 = some (.map 3 38) := by kernel_rfl
theorem upd151 {w : World} {r : Nat} {L : List (Int × Value)} (hM : MapAt w r L) (k : Int) (v : Value) :
    (Instr.mapUpdate 87 (.map (some r)) (.int .i64 k) v).run Tryz.prog w = .ok () (updW w 87 r k v) ∧ MapAt (updW w 87 r k v) r (putL L k v) ∧ Chg [r] w (updW w 87 r k v) :=
  updW_is (kt := 3) (et := 38) (by kernel_rfl) (by kernel_rfl) hM k v
theorem lookup151 {w : World} {r : Nat} {L : List (Int × Value)} (hM : MapAt w r L) (k : Int) (c : Bool) :
    (Instr.lookup 87 (.map (some r)) (.int .i64 k) c).run Tryz.prog w = .ok (if c then .tuple #[(getL L k).getD (.slice none 0 0), .bool (getL L k).isSome] else (getL L k).getD (.slice none 0 0)) w :=
  run_lookup_im (mty := 87) (kt := 3) (et := 38) (by kernel_rfl) (by kernel_rfl) (by kernel_rfl) hM k c
/-- what a write of one put looks at. -/
structure Wr (w : World) (K W rw E eo D o c : Nat) (b : Int) (L : List (Int × Value)) (l : List UInt8) : Prop where
  k : w.cell? ⟨K, 0, none⟩ = some (.pointer (some ⟨W, 0, none⟩))
  buf : BufAt w W rw L
  e0 : w.cell? ⟨E, eo, none⟩ = some (.int .i64 b)
  e1 : w.cell? ⟨E, eo + 1, none⟩ = some (.slice (some ⟨D, o, none⟩) 40 c)
  bs : Bs w (some ⟨D, o, none⟩) l
theorem Bs.chg {w w' : World} {a : Option Addr} {l : List UInt8} (h : Bs w a l) (hc : Chg [] w w') : Bs w' a l := h.below hc.below0 (Nat.le_refl _)
theorem Wr.keep {w w' : World} {K W rw E eo D o c : Nat} {b : Int} {L : List (Int × Value)} {l : List UInt8} (h : Wr w K W rw E eo D o c b L l) (hc : Chg [] w w') : Wr w' K W rw E eo D o c b L l :=
  ⟨hc.cell h.k (by simp), h.buf.keep hc (by simp) (by simp), hc.cell h.e0 (by simp), hc.cell h.e1 (by simp), h.bs.chg hc⟩
theorem Wr.c1 {w : World} {K W rw E eo D o c : Nat} {b : Int} {L : List (Int × Value)} {l : List UInt8} (h : Wr w K W rw E eo D o c b L l) : w.cell? ⟨W, 1, none⟩ = some (.int .i64 16) := cell_is h.buf.1 1 rfl
theorem Wr.c2 {w : World} {K W rw E eo D o c : Nat} {b : Int} {L : List (Int × Value)} {l : List UInt8} (h : Wr w K W rw E eo D o c b L l) : w.cell? ⟨W, 2, none⟩ = some (.map (some rw)) := cell_is h.buf.1 2 rfl
theorem cell_map {w : World} {a K i : Nat} {v : Value} {L : List (Int × Value)} (h : MapAt w a L) (hc : w.cell? ⟨K, i, none⟩ = some v) : K ≠ a := by
  rintro rfl
  obtain ⟨es, clock, hb, -⟩ := h
  unfold World.cell? at hc
  rw [hb] at hc
  simp at hc
theorem Bs.chgT {w w' : World} {T : List Nat} {g o : Nat} {l : List UInt8} (h : Bs w (some ⟨g, o, none⟩) l) (hc : Chg T w w') (hg : g ∉ T) : Bs w' (some ⟨g, o, none⟩) l := by
  rcases h with h | ⟨b, off, he, hb, hcs⟩
  · exact Or.inl h
  · refine Or.inr ⟨b, off, he, Nat.lt_of_lt_of_le hb hc.size, fun j hj => hc.cell (hcs j hj) ?_⟩
    cases he
    exact hg
set_option maxRecDepth 100000 in
set_option maxHeartbeats 2000000 in
theorem wwrite_one (w : World) {W rw E eo cp D o c : Nat} {b : Int} {L : List (Int × Value)} {l : List UInt8} (h : BufAt w W rw L) (e0 : w.cell? ⟨E, eo, none⟩ = some (.int .i64 b)) (e1 : w.cell? ⟨E, eo + 1, none⟩ = some (.slice (some ⟨D, o, none⟩) 40 c))
    (hb : Bs w (some ⟨D, o, none⟩) l) (hl : l.length = 40) (h0 : 0 ≤ b) (h1 : b < 258) (hroom : L.length ≤ 15) : Calls Tryz.prog 83 #[.pointer (some ⟨W, 0, none⟩), .slice (some ⟨E, eo, none⟩) 1 cp] w fun e w' =>
    ∃ g c', e = .returned (.int .i64 0) ∧ Chg [rw] w w' ∧ BufAt w' W rw (putL L b (.slice (some ⟨g, 0, none⟩) 40 c')) ∧ Bs w' (some ⟨g, 0, none⟩) l ∧ Bt w' g := by
  have k1 : Chg [] w (w.alloc (.cells #[.pointer (some ⟨W, 0, none⟩)] 142)) := Chg.alloc w _
  have H : Wr (w.alloc (.cells #[.pointer (some ⟨W, 0, none⟩)] 142)) w.heap.size W rw E eo D o c b L l :=
    ⟨cell_is (heap_new w _) 0 rfl, h.keep k1 (by simp) (by simp), k1.cell e0 (by simp), k1.cell e1 (by simp), hb.chg k1⟩
  clear h hb e0 e1
  go_enter Tryz.func83, Tryz.ntmps83
  go_wp2_with fail
  generalize w.alloc (.cells #[.pointer (some ⟨W, 0, none⟩)] 142) = w1 at *
  generalize w.heap.size = K at *
  refine (contput_far w1 H.e0 H.e1 (far_one w1 H.buf H.k h0 h1)).mono ?_
  rintro e w2 ⟨rfl, k2⟩
  have H2 := H.keep k2
  have kk2 := k1.then k2
  clear H k1 k2
  go_wp2_with fail
  refine (contput_short w2 H2.e0 H2.e1 (short_one w2)).mono ?_
  rintro e w3 ⟨rfl, k3⟩
  have H3 := H2.keep k3
  have kk3 := kk2.then k3
  clear H2 kk2 k3
  go_wp2_with fail
  refine (twice_one w3 H3.e0 H3.e1).mono ?_
  rintro e w4 ⟨rfl, k4⟩
  have H4 := H3.keep k4
  have kk4 := kk3.then k4
  clear H3 kk3 k4
  have c1 := H4.c1
  have c2 := H4.c2
  have c0 := H4.k
  have hlen : (Builtin.len_ #[87] 3 #[.map (some rw)]).run Tryz.prog w4 = .ok (.int .i64 L.length) w4 := run_len_im ty151 H4.buf.2 3
  go_wp2_with fail
  have k5 : Chg [] w4 (w4.alloc (.cells #[.int .i64 b, .slice (some ⟨D, o, none⟩) 40 c] 41)) := Chg.alloc w4 _
  have g5 : (w4.alloc (.cells #[.int .i64 b, .slice (some ⟨D, o, none⟩) 40 c] 41)).cell? ⟨w4.heap.size, 0, none⟩ = some (.int .i64 b) := cell_is (heap_new w4 _) 0 rfl
  have H5 := H4.keep k5
  have d0 := H5.k
  have d2 := H5.c2
  have hlk : (Instr.lookup 87 (.map (some rw)) (.int .i64 b) true).run Tryz.prog (w4.alloc (.cells #[.int .i64 b, .slice (some ⟨D, o, none⟩) 40 c] 41)).drew = .ok (.tuple #[(getL L b).getD (.slice none 0 0), .bool (getL L b).isSome]) (w4.alloc (.cells #[.int .i64 b, .slice (some ⟨D, o, none⟩) 40 c] 41)).drew := lookup151 (w := (w4.alloc (.cells #[.int .i64 b, .slice (some ⟨D, o, none⟩) 40 c] 41)).drew) H5.buf.2 b true
  have e0 := H4.e0
  have e1 := H4.e1
  clear c0 c1 c2 hlen
  generalize hgl : getL L b = gl at *
  go_loopw [5, 37] (fun x i wr => (i = .int .i64 0 ∧ x = .int .i64 L.length ∧ wr = w4) ∨ (i = .int .i64 1 ∧ (∃ n : Nat, x = .int .i64 n ∧ n ≤ 16) ∧ Wr wr K W rw E eo D o c b L l ∧ Chg [] w wr)) (fun _ i _ => 1 - (intOf i).toNat)
  case atStart => exact Or.inl ⟨rfl, rfl, rfl⟩
  case round =>
    rcases hrel with ⟨rfl, rfl, rfl⟩ | ⟨rfl, ⟨n, rfl, hn⟩, H6, kk6⟩
    · go_wp2_with fail
      generalize wr.alloc (.cells #[.int .i64 b, .slice (some ⟨D, o, none⟩) 40 c] 41) = w5 at *
      generalize wr.heap.size = z at *
      go_region_held3 (fun wx => wx.cell? ⟨K, 0, none⟩ = some (.pointer (some ⟨W, 0, none⟩)) ∧ wx.cell? ⟨W, 2, none⟩ = some (.map (some rw)) ∧ wx.cell? ⟨z, 0, none⟩ = some (.int .i64 b)) (first | (exact ⟨d0, d2, g5⟩)) (fail)
      cases gl with
      | none =>
        go_wp2_with fail
        go_roundw
        case rel => exact Or.inr ⟨rfl, ⟨L.length + 1, by go_num, by omega⟩, H5.keep (Chg.refl [] w5).drew, kk4.then (k5.then (Chg.refl [] w5).drew)⟩
        case measure => decide
      | some y =>
        go_wp2_with fail
        go_roundw
        case rel => exact Or.inr ⟨rfl, ⟨L.length, rfl, by omega⟩, H5.keep (Chg.refl [] w5).drew, kk4.then (k5.then (Chg.refl [] w5).drew)⟩
        case measure => decide
    · have c0 := H6.k
      have c1 := H6.c1
      have hng : ¬ (16 : Int) < n := by omega
      clear H5 H4 d0 d2 hlk g5 k5 e0 e1 kk4
      go_wp2_with fail
      have k7 : Chg [] wr (wr.alloc (.cells #[.int .i64 b, .slice (some ⟨D, o, none⟩) 40 c] 41)) := Chg.alloc wr _
      have g7 : (wr.alloc (.cells #[.int .i64 b, .slice (some ⟨D, o, none⟩) 40 c] 41)).cell? ⟨wr.heap.size, 0, none⟩ = some (.int .i64 b) := cell_is (heap_new wr _) 0 rfl
      have g8 : (wr.alloc (.cells #[.int .i64 b, .slice (some ⟨D, o, none⟩) 40 c] 41)).cell? ⟨wr.heap.size, 1, none⟩ = some (.slice (some ⟨D, o, none⟩) 40 c) := cell_is (heap_new wr _) 1 rfl
      have H7 := H6.keep k7
      have d0 := H7.k
      have d2 := H7.c2
      have e0 := H6.e0
      have e1 := H6.e1
      generalize hwq : wr = wq at *
      clear c0 c1
      go_loopw [64] (fun i wr => (i = .int .i64 0 ∧ wr = wq) ∨ (i = .int .i64 1 ∧ ∃ g c', Chg [rw] w wr ∧ BufAt wr W rw (putL L b (.slice (some ⟨g, 0, none⟩) 40 c')) ∧ Bs wr (some ⟨g, 0, none⟩) l ∧ Bt wr g)) (fun i _ => 1 - (intOf i).toNat)
      case atStart => exact Or.inl ⟨rfl, rfl⟩
      case round =>
        rcases hrel with ⟨rfl, rfl⟩ | ⟨rfl, g, c', kf, hbf, hbs, hbt⟩
        · go_wp2_with fail
          generalize wr.alloc (.cells #[.int .i64 b, .slice (some ⟨D, o, none⟩) 40 c] 41) = w5 at *
          generalize wr.heap.size = z at *
          have H7d := H7.keep (Chg.refl [] w5).drew
          have hsz := H7.buf.2.lt
          go_region_held3 (fun wx => wx.cell? ⟨K, 0, none⟩ = some (.pointer (some ⟨W, 0, none⟩)) ∧ wx.cell? ⟨W, 2, none⟩ = some (.map (some rw)) ∧ wx.cell? ⟨z, 0, none⟩ = some (.int .i64 b) ∧ wx.cell? ⟨z, 1, none⟩ = some (.slice (some ⟨D, o, none⟩) 40 c))
            (first
              | (exact ⟨d0, d2, g7, g8⟩)
              | (exact ⟨H8.k, H8.c2, q7, q8⟩)
              | (exact ⟨k9.cell H8.k (by simpa using cell_map H8.buf.2 H8.k), k9.cell H8.c2 (by simpa using cell_map H8.buf.2 H8.c2), k9.cell q7 (by simpa using cell_map H8.buf.2 q7), k9.cell q8 (by simpa using cell_map H8.buf.2 q8)⟩))
            (first
              | (go_at_call 65; refine (clone_bt w5.drew (l := l) hl (by decide) (by decide) H7d.bs).mono ?_; rintro e w6 ⟨g, c', rfl, k8, hb8, l8, ht8⟩; have H8 := H7d.keep k8; have q7 : w6.cell? ⟨z, 0, none⟩ = some (.int .i64 b) := k8.cell g7 (by simp); have q8 : w6.cell? ⟨z, 1, none⟩ = some (.slice (some ⟨D, o, none⟩) 40 c) := k8.cell g8 (by simp); obtain ⟨hmu, m8, k9⟩ := upd151 H8.buf.2 b (.slice (some ⟨g, 0, none⟩) 40 c')))
          have hgr : g ≠ rw := by
            have : w5.drew.heap.size = w5.heap.size := rfl
            omega
          have kall : Chg [rw] w w6 := (kk6.then ((k7.then (Chg.refl [] w5).drew).then k8)).mono (fun x hx _ => by cases hx)
          have hbuf : BufAt (updW w6 87 rw b (.slice (some ⟨g, 0, none⟩) 40 c')) W rw (putL L b (.slice (some ⟨g, 0, none⟩) 40 c')) := ⟨k9.heap H8.buf.1 (by simpa using (map_cells H8.buf.2 H8.buf.1).symm), m8⟩
          have hbs9 := hb8.chgT k9 (by simpa using hgr)
          have hbt9 : Bt (updW w6 87 rw b (.slice (some ⟨g, 0, none⟩) 40 c')) g := by obtain ⟨cs, hcs⟩ := ht8; exact ⟨cs, k9.heap hcs (by simpa using hgr)⟩
          clear ht8
          have kf := kall.then k9
          clear hmu
          go_wp2_with fail
          go_roundw
          case rel => exact Or.inr ⟨rfl, g, c', kf, hbuf, hbs9, hbt9⟩
          case measure => decide
        · go_wp2_with fail
          go_ret
          exact ⟨g, c', rfl, kf, hbf, hbs, hbt⟩
end Go.Proofs.YtnelakpdmjfolaaGreat
namespace Go.Proofs.YtnelakpdmjfolaaGreat
open Go.RowKit Go.Lib

set_option maxRecDepth 100000 in
theorem twrite_one (w : World) {M X rx B rb r T W rw Q V E eo cp D o c : Nat} {last : Int} {Lb L : List (Int × Value)} {v s : Value} {b : Int} {l : List UInt8} (h : Mg w M X rx B rb r last Lb [(1, .pointer (some ⟨T, 0, none⟩))]) (hT : Tx w X T W rw Q V L v s)
    (e0 : w.cell? ⟨E, eo, none⟩ = some (.int .i64 b)) (e1 : w.cell? ⟨E, eo + 1, none⟩ = some (.slice (some ⟨D, o, none⟩) 40 c)) (hb : Bs w (some ⟨D, o, none⟩) l) (hl : l.length = 40) (h0 : 0 ≤ b) (h1 : b < 258) (hroom : L.length ≤ 15) :
    Calls Tryz.prog 39 #[.pointer (some ⟨M, 0, none⟩), .int .i64 1, .slice (some ⟨E, eo, none⟩) 1 cp] w fun e w' =>
    ∃ g c', e = .returned (.int .i64 0) ∧ Chg [rw] w w' ∧ BufAt w' W rw (putL L b (.slice (some ⟨g, 0, none⟩) 40 c')) ∧ Bs w' (some ⟨g, 0, none⟩) l ∧ Bt w' g := by
  have t4 : w.cell? ⟨T, 4, none⟩ = some (.pointer (some ⟨W, 0, none⟩)) := cell_is hT.tx 4 rfl
  have HO := Lib.hid (topen_one w h hT.tx)
  have HW := Lib.hid (wwrite_one w (cp := cp) hT.buf e0 e1 hb hl h0 h1 hroom)
  clear h hT e0 e1 hb hl
  go_enter Tryz.func39, Tryz.ntmps39
  go_wp2_with fail
  refine HO.out.mono ?_
  rintro e w1 ⟨rfl, rfl⟩
  go_wp2_with fail
  refine HW.out.mono ?_
  rintro e w1 ⟨g, c', rfl, k, hbf, hbs, hbt⟩
  go_wp2_with fail
  go_ret
  exact ⟨g, c', rfl, k, hbf, hbs, hbt⟩
set_option maxRecDepth 100000 in
theorem swrite_one (w : World) {P N S M X rx B rb r T W rw Q V E eo cp D o c : Nat} {last : Int} {Lb L : List (Int × Value)} {v s : Value} {b : Int} {l : List UInt8} (hP : StoreAt w P N S (some ⟨M, 0, none⟩)) (h : Mg w M X rx B rb r last Lb [(1, .pointer (some ⟨T, 0, none⟩))]) (hT : Tx w X T W rw Q V L v s)
    (e0 : w.cell? ⟨E, eo, none⟩ = some (.int .i64 b)) (e1 : w.cell? ⟨E, eo + 1, none⟩ = some (.slice (some ⟨D, o, none⟩) 40 c)) (hb : Bs w (some ⟨D, o, none⟩) l) (hl : l.length = 40) (h0 : 0 ≤ b) (h1 : b < 258) (hroom : L.length ≤ 15) :
    Calls Tryz.prog 12 #[.pointer (some ⟨P, 0, none⟩), .int .i64 1, .slice (some ⟨E, eo, none⟩) 1 cp] w fun e w' =>
    ∃ g c', e = .returned (.int .i64 0) ∧ Chg [rw] w w' ∧ BufAt w' W rw (putL L b (.slice (some ⟨g, 0, none⟩) 40 c')) ∧ Bs w' (some ⟨g, 0, none⟩) l ∧ Bt w' g := by
  have c5 := (store_cells hP).2.2.2.2.2.1
  have HO := Lib.hid (dead_any w hP)
  have HW := Lib.hid (twrite_one w (cp := cp) h hT e0 e1 hb hl h0 h1 hroom)
  clear h hT e0 e1 hb hl hP
  go_enter Tryz.func12, Tryz.ntmps12
  go_wp2_with fail
  refine HO.out.mono ?_
  rintro e w1 ⟨rfl, rfl⟩
  go_wp2_with fail
  refine HW.out.mono ?_
  rintro e w1 ⟨g, c', rfl, k, hbf, hbs, hbt⟩
  go_wp2_with fail
  go_ret
  exact ⟨g, c', rfl, k, hbf, hbs, hbt⟩
end Go.Proofs.YtnelakpdmjfolaaGreat
namespace Go.Proofs.YtnelakpdmjfolaaGreat
open Go.RowKit Go.Lib

set_option maxRecDepth 100000 in
theorem sblocks_any (w : World) {P N S A c : Nat} {m : Option Addr} {ops : Int} {Z : List Nat} (h : StoreAt w P N S m) (hD : DevAt w N A c ops Z) : Calls Tryz.prog 10 #[.pointer (some ⟨P, 0, none⟩)] w fun e w' => e = .returned (.int .i64 258) ∧ Chg [] w w' := by
  have c0 := (store_cells h).1
  have HG := Lib.hid (geometry_any w hD)
  clear h hD
  go_enter Tryz.func10, Tryz.ntmps10
  go_wp2_with fail
  refine HG.out.mono ?_
  rintro e w1 ⟨rfl, hc1⟩
  go_wp2_with fail
  refine (cap_min w1).mono ?_
  rintro e w2 ⟨rfl, hc2⟩
  go_wp2_with fail
  go_ret
  exact ⟨rfl, hc1.then hc2⟩
end Go.Proofs.YtnelakpdmjfolaaGreat
namespace Go.Proofs.YtnelakpdmjfolaaGreat
open Go.RowKit Go.Lib

set_option maxRecDepth 100000 in
theorem xblock_any (w : World) {X rx : Nat} {b : Int} (h : VerAt w X rx) (h0 : 0 ≤ b) (h1 : b < 258) : Calls Tryz.prog 112 #[.pointer (some ⟨X, 0, none⟩), .int .i64 b] w fun e w' => e = .returned (.bool true) ∧ w = w' := by
  have HB := Lib.hid (blocks_any w h)
  clear h
  go_enter Tryz.func112, Tryz.ntmps112
  go_wp2_with fail
  refine HB.out.mono ?_
  rintro e w1 ⟨rfl, rfl⟩
  go_wp2_with fail
  go_ret
  exact ⟨by simp, rfl⟩
end Go.Proofs.YtnelakpdmjfolaaGreat
namespace Go.Proofs.YtnelakpdmjfolaaGreat
open Go.RowKit Go.Lib

theorem lookup258 {w : World} {r : Nat} {L : List (Int × Value)} (hM : MapAt w r L) (k : Int) (c : Bool) :
    (Instr.lookup 184 (.map (some r)) (.int .i64 k) c).run Tryz.prog w = .ok (if c then .tuple #[(getL L k).getD (.slice none 0 0), .bool (getL L k).isSome] else (getL L k).getD (.slice none 0 0)) w :=
  run_lookup_im (mty := 184) (kt := 3) (et := 194) (by kernel_rfl) (by kernel_rfl) (by kernel_rfl) hM k c
set_option maxRecDepth 100000 in
theorem xat_none (w : World) {X rx : Nat} {b : Int} (h : VerAt w X rx) : Calls Tryz.prog 132 #[.pointer (some ⟨X, 0, none⟩), .int .i64 b, .int .i64 0] w fun e w' => e = .returned (.int .i64 (-1)) ∧ w = w' := by
  have c1 : w.cell? ⟨X, 1, none⟩ = some (.map (some rx)) := cell_is h.1 1 rfl
  have hl : (Instr.lookup 184 (.map (some rx)) (.int .i64 b) false).run Tryz.prog w = .ok (.slice none 0 0) w := lookup258 h.2 b false
  clear h
  go_enter Tryz.func132, Tryz.ntmps132
  go_wp2_with fail
  go_step3
  go_wp2_with fail
  go_step3
  go_wp2_with fail
  go_loop [8] (fun i => i = .int .i64 (-1)) (fun _ => 0)
  case atStart => rfl
  case round =>
    subst hrel
    go_wp2_with fail
    go_ret
    exact ⟨rfl, rfl⟩
def zero40 : Array Value := (List.replicate 40 (Value.int .u8 0)).toArray
theorem make40 (w : World) : (Instr.makeSlice 38 (.int .i64 40) (.int .i64 40)).run Tryz.prog w = .ok (.slice (some ⟨w.heap.size, 0, none⟩) 40 40) (w.alloc (.cells zero40 5)) := by kernel_rfl
theorem zero40_is : zero40 = (Lib.byteCells zeroB).toArray := by kernel_rfl
end Go.Proofs.YtnelakpdmjfolaaGreat
namespace Go.Proofs.YtnelakpdmjfolaaGreat
open Go.RowKit Go.Lib

end Go.Proofs.YtnelakpdmjfolaaGreat
namespace Go.Proofs.YtnelakpdmjfolaaGreat
open Go.RowKit Go.Lib

set_option maxRecDepth 100000 in
set_option maxHeartbeats 1000000 in
/-- IndexFunc over one put, by a function that says no. -/
theorem idxspan_one (w : World) {E eo cp : Nat} {b : Int} {n : Int}  (e0 : w.cell? ⟨E, eo, none⟩ = some (.int .i64 b)) (e1 : w.cell? ⟨E, eo + 1, none⟩ = some (.int .i64 n))
    (hg : Calls Tryz.prog 185 #[.agg #[.int .i64 b, .int .i64 n]] w fun e w' => e = .returned (.bool false) ∧ Chg [] w w') : Calls Tryz.prog 194 #[.slice (some ⟨E, eo, none⟩) 1 cp, .func (.func 185) #[] #[]] w fun e w' => e = .returned (.int .i64 (-1)) ∧ Chg [] w w' := by
  go_enter Tryz.func194, Tryz.ntmps194
  go_wp2_with fail
  go_loopw [8] (fun i wr => (i = .int .i64 0 ∧ wr = w) ∨ (i = .int .i64 1 ∧ Chg [] w wr)) (fun i _ => 1 - (intOf i).toNat)
  case atStart => exact Or.inl ⟨rfl, rfl⟩
  case round =>
    rcases hrel with ⟨rfl, rfl⟩ | ⟨rfl, hc⟩
    · go_wp2_with fail
      refine hg.mono ?_
      rintro e w2 ⟨rfl, hc⟩
      go_wp2_with fail
      go_round
      case rel => exact Or.inr ⟨rfl, hc⟩
      case measure => decide
    · go_wp2_with fail
      go_ret
      exact ⟨rfl, hc⟩
set_option maxRecDepth 100000 in
theorem contspan_one (w : World) {E eo cp : Nat} {b : Int} {n : Int}  (e0 : w.cell? ⟨E, eo, none⟩ = some (.int .i64 b)) (e1 : w.cell? ⟨E, eo + 1, none⟩ = some (.int .i64 n))
    (hg : Calls Tryz.prog 185 #[.agg #[.int .i64 b, .int .i64 n]] w fun e w' => e = .returned (.bool false) ∧ Chg [] w w') : Calls Tryz.prog 184 #[.slice (some ⟨E, eo, none⟩) 1 cp, .func (.func 185) #[] #[]] w fun e w' => e = .returned (.bool false) ∧ Chg [] w w' := by
  go_enter Tryz.func184, Tryz.ntmps184
  go_wp2_with fail
  refine (idxspan_one w e0 e1 hg).mono ?_
  rintro e w2 ⟨rfl, hc⟩
  go_wp2_with fail
  go_ret
  exact ⟨rfl, hc⟩
set_option maxRecDepth 100000 in
theorem imay_one (w : World) {b : Int} (h0 : 0 ≤ b) (h1 : b < 258) : Calls Tryz.prog 186 #[.agg #[.int .i64 b, .int .i64 1]] w fun e w' => e = .returned (.bool true) ∧ Chg [] w w' := by
  have kc : Chg [] w (w.alloc (.cells #[.int .i64 b, .int .i64 1] 231)) := Chg.alloc w _
  have n0 : decide (0 ≤ b) = true := decide_eq_true h0
  have n1 : decide (b ≤ 1048576) = true := decide_eq_true (by omega)
  have n2 : decide (b + 1 ≤ 1048576) = true := decide_eq_true (by omega)
  go_enter Tryz.func186, Tryz.ntmps186
  go_wp2_with fail
  go_ret
  exact ⟨by first | rfl | (simp; omega), kc⟩
set_option maxRecDepth 100000 in
theorem inot_one (w : World) {b : Int} (h0 : 0 ≤ b) (h1 : b < 258) : Calls Tryz.prog 185 #[.agg #[.int .i64 b, .int .i64 1]] w fun e w' => e = .returned (.bool false) ∧ Chg [] w w' := by
  have kc : Chg [] w (w.alloc (.cells #[.int .i64 b, .int .i64 1] 231)) := Chg.alloc w _
  go_enter Tryz.func185, Tryz.ntmps185
  go_wp2_with fail
  refine (imay_one _ h0 h1).mono ?_
  rintro e w2 ⟨rfl, k2⟩
  go_wp2_with fail
  go_ret
  exact ⟨rfl, kc.then k2⟩
set_option maxRecDepth 100000 in
theorem iall_one (w : World) {E eo cp : Nat} {b : Int} (h0 : 0 ≤ b) (h1 : b < 258) (e0 : w.cell? ⟨E, eo, none⟩ = some (.int .i64 b)) (e1 : w.cell? ⟨E, eo + 1, none⟩ = some (.int .i64 1)) : Calls Tryz.prog 173 #[.slice (some ⟨E, eo, none⟩) 1 cp] w fun e w' => e = .returned (.bool true) ∧ Chg [] w w' := by
  go_enter Tryz.func173, Tryz.ntmps173
  go_wp2_with fail
  refine (contspan_one w e0 e1 (inot_one w h0 h1)).mono ?_
  rintro e w2 ⟨rfl, k2⟩
  go_wp2_with fail
  go_ret
  exact ⟨rfl, k2⟩
end Go.Proofs.YtnelakpdmjfolaaGreat
namespace Go.Proofs.YtnelakpdmjfolaaGreat
open Go.RowKit Go.Lib

/-- the cells of spans. -/
def spCells (l : List (Int × Int)) : List Value := l.flatMap fun p => [.int .i64 p.1, .int .i64 p.2]
theorem spCells_len (l : List (Int × Int)) : (spCells l).length = l.length * 2 := by
  induction l with
  | nil => rfl
  | cons p l ih => simp only [spCells, List.flatMap_cons, List.length_append, List.length_cons, List.length_nil] at ih ⊢; omega
theorem spCells_one (l : List (Int × Int)) : ∀ u ∈ spCells l, u.oneCell' = true := by
  intro u hu
  simp only [spCells, List.mem_flatMap, List.mem_cons, List.not_mem_nil, or_false] at hu
  obtain ⟨p, _, rfl | rfl⟩ := hu <;> rfl
/-- spans lie here. -/
def Sp (w : World) (b o : Nat) (l : List (Int × Int)) : Prop := ∀ j u, (spCells l)[j]? = some u → w.cell? ⟨b, o + j, none⟩ = some u
theorem Sp.keep {w w' : World} {b o : Nat} {l : List (Int × Int)} (h : Sp w b o l) (hc : Chg [] w w') : Sp w' b o l := fun j u hu => hc.cell (h j u hu) (by simp)
theorem ty217 : Tryz.prog.underlying 225 = some (.slice 231) := by kernel_rfl
theorem inf117 : (Tryz.prog.info? 231).map (fun i => (i.zero, i.size, i.bytes)) = some (some (.agg #[.int .i64 0, .int .i64 0]), 2, 16) := by kernel_rfl
/-- spans are put behind spans of an own row. -/
theorem append_sp_own (w : World) (ty base : Nat) (v : Value) (n : Nat) (xs l : List (Int × Int)) (hown : w.ownsRow base 231 2 v n (spCells xs)) (b o m c : Nat) (hl : l.length = m) (hs : Sp w b o l) (hn : n + m ≤ 1000000) (hbase : base ≤ w.heap.size) :
    ∃ v' w', (Builtin.append_ #[225, 225] ty #[v, .slice (some ⟨b, o, none⟩) m c]).run Tryz.prog w = .ok v' w' ∧ AppendedV base 231 2 w v (n + m) (spCells (xs ++ l)) v' w' := by
  obtain ⟨i, hi0, hz, hz1, hz2⟩ := info_parts inf117
  obtain ⟨v', w', h2, h3, h4, _⟩ := run_append_own (P := Tryz.prog) w base 225 ty 231 i (.agg #[.int .i64 0, .int .i64 0]) 2 16 ty217 hi0 hz hz1 hz2 rfl (by decide) v n (spCells xs) hown ⟨b, o, none⟩ m c (spCells l) (by rw [spCells_len, hl])
    (fun j u hu => by
      have ha : (⟨b, o, none⟩ : Addr).add j = ⟨b, o + j, none⟩ := by unfold Addr.add; split <;> simp_all
      rw [ha]; exact hs j u hu) (spCells_one l) (by unfold maxLen; omega) (by omega) hbase
  exact ⟨v', w', h2, by rw [show spCells (xs ++ l) = spCells xs ++ spCells l by simp [spCells]]; exact h3, below_grown hown h4 hbase, h4⟩
theorem wpList_append_sp {ops : Array Oper} {rest : List Oper} {o : Oper} {a : Act} {w : World} {Q : Exit → Act → World → Prop} (hg : o.guard = none) (s x : Operand)
    (ho : o.op = .call { callee := .builtin .append, args := #[s, x], argTypes := #[225, 225] }) (base : Nat) (v : Value) (n : Nat) (xs l : List (Int × Int)) (hs : a.eval s = v) (hown : w.ownsRow base 231 2 v n (spCells xs))
    (b eo m c : Nat) (hx : a.eval x = .slice (some ⟨b, eo, none⟩) m c) (hl : l.length = m) (hr : Sp w b eo l) (hn : n + m ≤ 1000000) (hbase : base ≤ w.heap.size)
    (h : ∀ v' w', AppendedV base 231 2 w v (n + m) (spCells (xs ++ l)) v' w' → wpList Tryz.prog ops Q rest (a.put o.dst v') w') : wpList Tryz.prog ops Q (o :: rest) a w := by
  obtain ⟨v', w', h1, h2⟩ := append_sp_own w o.type base v n xs l hown b eo m c hl hr hn hbase
  exact Lib.wpList_append_run w hg s x 225 225 ho v (.slice (some ⟨b, eo, none⟩) m c) hs hx v' w' h1 (h v' w' h2)
theorem own_empty2 (w : World) : (w.alloc (.cells #[] 231)).ownsRow w.heap.size 231 2 (.slice (some ⟨w.heap.size, 0, none⟩) 0 0) 0 (spCells []) := by
  refine ⟨rfl, Or.inr ⟨w.heap.size, 0, #[], rfl, Nat.le_refl _, ?_⟩⟩
  simp
  exact ⟨(Array.getElem?_eq_some_iff.1 (heap_new w (.cells #[] 231))).2, rfl⟩
set_option maxRecDepth 100000 in
set_option maxHeartbeats 1000000 in
theorem clone_sp (w : World) {D o c m : Nat} {l : List (Int × Int)} (hl : l.length = m) (hm0 : 0 < m) (hm1 : m ≤ 1000) (hb : Sp w D o l) : Calls Tryz.prog 170 #[.slice (some ⟨D, o, none⟩) m c] w fun e w' =>
    ∃ v, e = .returned v ∧ Chg [] w w' ∧ w'.ownsRow w.heap.size 231 2 v m (spCells l) := by
  have hn : ∀ w, (binOp .eql 225 (.slice (some ⟨D, o, none⟩) m c) (.slice none 0 0)).run Tryz.prog w = .ok (.bool false) w := fun w => Lib.run_eql_slice_nil w 225 231 _ _ _ 0 0 ty217
  have HB := Lib.hid hb
  have HL := Lib.hid hl
  clear hb hl
  go_enter Tryz.func170, Tryz.ntmps170
  go_wp2_with (first | (at_builtin; refine wpList_append_sp rfl (.tmp 5) (.tmp 6) rfl w.heap.size _ 0 [] l rfl (own_empty2 w) D o m c rfl HL.out (HB.out.keep (Chg.alloc w _)) (by omega) (by simp) ?_; intro v1 w1 h1))
  go_ret
  exact ⟨v1, rfl, Chg.of_below ((Below.of_alloc w _).trans h1.2.1), by simpa using h1.1⟩
end Go.Proofs.YtnelakpdmjfolaaGreat
namespace Go.Proofs.YtnelakpdmjfolaaGreat
open Go.RowKit Go.Lib

/-- spans lie here, or there are none. -/
def SpQ (w : World) (pa : Option Addr) (l : List (Int × Int)) : Prop := (l = [] ∧ pa = none) ∨ ∃ b o, pa = some ⟨b, o, none⟩ ∧ Sp w b o l
theorem SpQ.keep {w w' : World} {pa : Option Addr} {l : List (Int × Int)} (h : SpQ w pa l) (hc : Chg [] w w') : SpQ w' pa l := by
  rcases h with h | ⟨b, o, h1, h2⟩
  · exact Or.inl h
  · exact Or.inr ⟨b, o, h1, h2.keep hc⟩
set_option maxRecDepth 100000 in
set_option maxHeartbeats 1000000 in
theorem grow_nil (w : World) {k : Nat} (h0 : 0 < k) (h1 : k ≤ 1000) : Calls Tryz.prog 190 #[.slice none 0 0, .int .i64 k] w fun e w' => ∃ v, e = .returned v ∧ Chg [] w w' ∧ w'.ownsRow w.heap.size 231 2 v 0 (spCells []) := by
  obtain ⟨i, hi0, hz, hz1, hz2⟩ := info_parts inf117
  have hr := fun ty => run_append_nil_zeros (P := Tryz.prog) w 225 3 ty 231 i (.agg #[.int .i64 0, .int .i64 0]) .i64 .i64 ty217 (by kernel_rfl) hi0 hz k h0 (by omega) (by omega) (by rw [hz2]; omega)
  have hge := grownCap_ge w k 0 231
  have hle := grownCap_le_maxLen w k 0 231 (by unfold maxLen; omega)
  have hsz : (Builtin.zeroCells (Value.agg #[.int .i64 0, .int .i64 0]).cells k ++ Builtin.zeroCells (Value.agg #[.int .i64 0, .int .i64 0]).cells (grownCap w k 0 231 - k)).size = grownCap w k 0 231 * 2 := by
    simp only [Array.size_append, size_zeroCells, Value.cells]
    simp
    omega
  generalize (Builtin.zeroCells (Value.agg #[.int .i64 0, .int .i64 0]).cells k ++ Builtin.zeroCells (Value.agg #[.int .i64 0, .int .i64 0]).cells (grownCap w k 0 231 - k)) = Z at *
  generalize grownCap w k 0 231 = G at *
  clear hi0 hz hz1 hz2
  have hk : ¬ ((k : Int) < 0) := by omega
  have hk2 : (k : Int) > 0 := by omega
  have hG63 : G ≤ 9223372036854775807 := by unfold maxLen at hle; omega
  have hf : (w.drew.alloc (.cells Z 231)).ownsRow w.heap.size 231 2 (.slice (some ⟨w.heap.size, 0, none⟩) 0 G) 0 (spCells []) := by
    refine ⟨rfl, Or.inr ⟨w.heap.size, G, Z, rfl, Nat.le_refl _, heap_new w.drew _, Nat.zero_le _, hle, hsz, by simp [spCells]⟩⟩
  have kc : Chg [] w (w.drew.alloc (.cells Z 231)) := (Chg.refl [] w).drew.then_alloc _
  go_enter Tryz.func190, Tryz.ntmps190
  go_wp2_with (at_builtin; refine Lib.wpList_append_run (w := w) rfl (.tmp 20) (.tmp 21) 225 3 rfl (.slice none 0 0) (.int .i64 k) rfl rfl _ _ (hr _) ?_)
  go_ret
  exact ⟨_, rfl, kc, hf⟩
theorem append_sp_q (w : World) (ty base : Nat) (v : Value) (n : Nat) (xs l : List (Int × Int)) (hown : w.ownsRow base 231 2 v n (spCells xs)) (pa : Option Addr) (m c : Nat) (hl : l.length = m) (hs : SpQ w pa l) (hn : n + m ≤ 1000000) (hbase : base ≤ w.heap.size) :
    ∃ v' w', (Builtin.append_ #[225, 225] ty #[v, .slice pa m c]).run Tryz.prog w = .ok v' w' ∧ AppendedV base 231 2 w v (n + m) (spCells (xs ++ l)) v' w' := by
  rcases hs with ⟨rfl, rfl⟩ | ⟨b, o, rfl, hs⟩
  · obtain rfl : 0 = m := hl
    obtain ⟨i, hi0, hz, hz1, hz2⟩ := info_parts inf117
    refine ⟨v, w, ?_, by simpa using hown, Below.refl _ _, World.grownBy.refl w _⟩
    rcases hown.2 with ⟨rfl, rfl⟩ | ⟨g, cap, cur, rfl, _, _, hnc, _⟩
    · simp [Builtin.append_, run_underlying ty217, sizeOf, typeInfo, hi0, Builtin.lenOf, Builtin.firstCells]
    · simp [Builtin.append_, run_underlying ty217, sizeOf, typeInfo, hi0, Builtin.lenOf, Builtin.firstCells, hnc, storeCells]
  · exact append_sp_own w ty base v n xs l hown b o m c hl hs hn hbase
theorem wpList_append_spq {ops : Array Oper} {rest : List Oper} {o : Oper} {a : Act} {w : World} {Q : Exit → Act → World → Prop} (hg : o.guard = none) (s x : Operand)
    (ho : o.op = .call { callee := .builtin .append, args := #[s, x], argTypes := #[225, 225] }) (base : Nat) (v : Value) (n : Nat) (xs l : List (Int × Int)) (hs : a.eval s = v) (hown : w.ownsRow base 231 2 v n (spCells xs))
    (pa : Option Addr) (m c : Nat) (hx : a.eval x = .slice pa m c) (hl : l.length = m) (hr : SpQ w pa l) (hn : n + m ≤ 1000000) (hbase : base ≤ w.heap.size)
    (h : ∀ v' w', AppendedV base 231 2 w v (n + m) (spCells (xs ++ l)) v' w' → wpList Tryz.prog ops Q rest (a.put o.dst v') w') : wpList Tryz.prog ops Q (o :: rest) a w := by
  obtain ⟨v', w', h1, h2⟩ := append_sp_q w o.type base v n xs l hown pa m c hl hr hn hbase
  exact Lib.wpList_append_run w hg s x 225 225 ho v (.slice pa m c) hs hx v' w' h1 (h v' w' h2)
set_option maxRecDepth 100000 in
set_option maxHeartbeats 2000000 in
theorem concat_two (w : World) {E cp m c m2 c2 : Nat} {pa pb : Option Addr} {l l2 : List (Int × Int)} (e0 : w.cell? ⟨E, 0, none⟩ = some (.slice pa m c)) (e1 : w.cell? ⟨E, 1, none⟩ = some (.slice pb m2 c2)) (hl : l.length = m) (hl2 : l2.length = m2) (hm : m ≤ 100) (hm2 : m2 ≤ 100) (hm0 : 0 < m + m2)
    (hs : SpQ w pa l) (hs2 : SpQ w pb l2) : Calls Tryz.prog 175 #[.slice (some ⟨E, 0, none⟩) 2 cp] w fun e w' => ∃ v, e = .returned v ∧ Chg [] w w' ∧ w'.ownsRow w.heap.size 231 2 v (m + m2) (spCells (l ++ l2)) := by
  have HS := Lib.hid hs
  have HS2 := Lib.hid hs2
  have HL := Lib.hid hl
  have HL2 := Lib.hid hl2
  clear hs hs2 hl hl2
  go_enter Tryz.func175, Tryz.ntmps175
  go_wp2_with fail
  go_loop [3, 11] (fun s i => (i = .int .i64 0 ∧ s = .int .i64 0) ∨ (i = .int .i64 1 ∧ s = .int .i64 m) ∨ (i = .int .i64 2 ∧ s = .int .i64 ((m + m2 : Nat) : Int))) (fun _ i => 2 - (intOf i).toNat)
  case atStart => exact Or.inl ⟨rfl, rfl⟩
  case round =>
    rcases hrel with ⟨rfl, rfl⟩ | ⟨rfl, rfl⟩ | ⟨rfl, rfl⟩
    · go_wp2_with fail
      go_round
      case rel => exact Or.inr (Or.inl ⟨rfl, by go_num⟩)
      case measure => decide
    · go_wp2_with fail
      go_round
      case rel => exact Or.inr (Or.inr ⟨rfl, by go_num⟩)
      case measure => decide
    · go_wp2_with fail
      refine (grow_nil w hm0 (by omega)).mono ?_
      rintro e w1 ⟨v0, rfl, kc, ho0⟩
      have E0 := Lib.hid e0
      have E1 := Lib.hid e1
      have f0 := kc.cell e0 (by simp)
      have HA := Lib.hid (HS.out.keep kc)
      have hsz := kc.size
      clear e0 e1
      go_wp2_with fail
      go_loopw [6, 27] (fun v i wr => (i = .int .i64 0 ∧ v = v0 ∧ wr = w1) ∨ (i = .int .i64 1 ∧ Chg [] w wr ∧ wr.ownsRow w.heap.size 231 2 v m (spCells l)) ∨ (i = .int .i64 2 ∧ Chg [] w wr ∧ wr.ownsRow w.heap.size 231 2 v (m + m2) (spCells (l ++ l2)))) (fun _ i _ => 2 - (intOf i).toNat)
      case atStart => exact Or.inl ⟨rfl, rfl, rfl⟩
      case round =>
        rcases hrel with ⟨rfl, rfl, rfl⟩ | ⟨rfl, k1, o1⟩ | ⟨rfl, k1, o1⟩
        · go_wp2_with (at_builtin; refine wpList_append_spq rfl (.tmp 31) (.tmp 32) rfl w.heap.size _ 0 [] l rfl ho0 pa m c rfl HL.out HA.out (by omega) hsz ?_; intro v1 w2 h1)
          go_roundw
          case rel => exact Or.inr (Or.inl ⟨rfl, Chg.of_below (kc.below0.trans h1.2.1), by simpa using h1.1⟩)
          case measure => decide
        · have f1 := k1.cell E1.out (by simp)
          have HB := Lib.hid (HS2.out.keep k1)
          have hsz1 := k1.size
          clear f0
          go_wp2_with (at_builtin; refine wpList_append_spq rfl (.tmp 31) (.tmp 32) rfl w.heap.size _ m l l2 rfl o1 pb m2 c2 rfl HL2.out HB.out (by omega) hsz1 ?_; intro v1 w2 h1)
          go_roundw
          case rel => exact Or.inr (Or.inr ⟨rfl, Chg.of_below (k1.below0.trans h1.2.1), h1.1⟩)
          case measure => decide
        · go_wp2_with fail
          go_ret
          exact ⟨_, rfl, k1, o1⟩
end Go.Proofs.YtnelakpdmjfolaaGreat
namespace Go.Proofs.YtnelakpdmjfolaaGreat
open Go.Shelf Go.RowKit Go.Lib Go.Sort

/-- a span's two cells. -/
def encSp (x : Int × Int) : List Value := [.int .i64 x.1, .int .i64 x.2]
set_option maxRecDepth 100000 in
set_option maxHeartbeats 1000000 in
theorem closure247 (x y : Int × Int) (W : World) : Calls Tryz.prog 188 #[.agg #[.int .i64 x.1, .int .i64 x.2], .agg #[.int .i64 y.1, .int .i64 y.2]] W fun e w' => e = .returned (.int .i64 (Lib.compareInt x.1 y.1)) ∧ ∃ q os', w' = grow (W.drewN q) os' := by
  have hcon := fun W' => AnyG.cmp_Compare_int Tryz.cmpInt x.1 y.1 W'
  change ∀ W', Calls Tryz.prog 189 _ _ _ at hcon
  generalize Lib.compareInt x.1 y.1 = r at hcon ⊢
  go_enter Tryz.func188, Tryz.ntmps188
  go_wp2_with (go_at_call 189; refine (hcon _).mono ?_; rintro e w' ⟨rfl, rfl⟩)
  go_ret
  exact ⟨rfl, 0, _, by rw [alloc_eq_grow, alloc_eq_grow, grow_grow]; rfl⟩
theorem cmpLays247 (blk off size : Nat) (w : World) : CmpLays Tryz.prog 188 #[] encSp 2 (fun x y => Lib.compareInt x.1 y.1) blk off size w :=
  fun _ _ _ _ x y => closure247 x y _
theorem isAgg117 (w : World) : (isAgg 231).run Tryz.prog w = .ok true w := by kernel_rfl
theorem sizeOf117 (w : World) : (Go.sizeOf 231).run Tryz.prog w = .ok 2 w := by kernel_rfl
theorem spCells_get (l : List (Int × Int)) (j : Nat) (h : j < l.length * 2) : (spCells l)[j]? = some ((encSp l.toArray[j / 2]!)[j % 2]!) := by
  induction l generalizing j with
  | nil => simp at h
  | cons p l ih =>
    have e : spCells (p :: l) = .int .i64 p.1 :: .int .i64 p.2 :: spCells l := rfl
    rw [e]
    match j with
    | 0 => simp [encSp]
    | 1 => simp [encSp]
    | j + 2 =>
      have := ih j (by simp only [List.length_cons] at h; omega)
      rw [List.getElem?_cons_succ, List.getElem?_cons_succ, this]
      have e1 : (j + 2) / 2 = j / 2 + 1 := by omega
      have e2 : (j + 2) % 2 = j % 2 := by omega
      rw [e1, e2]
      simp
theorem chg_mapBlock (w : World) (g : Nat) (f : Array Value → Array Value) : Chg [g] w (mapBlock w g f) :=
  ⟨rfl, rfl, rfl, by simp [mapBlock], fun k _ hs => by
    have : g ≠ k := by intro e; exact hs (by rw [e]; simp)
    simp [mapBlock, Array.getElem?_modify, this]⟩
theorem chg_grow {S : List Nat} (w : World) (os : Array Obj) : Chg S w (grow w os) :=
  ⟨rfl, rfl, rfl, by simp, fun k hk _ => heap_grow_old w os hk⟩
theorem chg_ahead {S : List Nat} (w : World) (n : Nat) : Chg S w (Sort.ahead w n) := ⟨rfl, rfl, rfl, Nat.le_refl _, fun _ _ _ => rfl⟩
theorem ltSp (x y : Int × Int) : (ltOf fun x y : Int × Int => Lib.compareInt x.1 y.1) x y = decide (x.1 < y.1) := by
  unfold ltOf Lib.compareInt
  by_cases h1 : x.1 < y.1
  · simp [h1]
  · by_cases h2 : y.1 < x.1 <;> simp [h1, h2]
theorem swoSp : SWO (ltOf fun x y : Int × Int => Lib.compareInt x.1 y.1) where
  irrefl x := by rw [ltSp]; simp
  trans x y z h1 h2 := by rw [ltSp] at *; simp at *; omega
  ntrans x y z h1 h2 := by rw [ltSp] at *; simp at *; omega
set_option maxRecDepth 100000 in
theorem sort_sp (w : World) {g n cap : Nat} {cur : Array Value} {l : List (Int × Int)} (hb : w.heap[g]? = some (.cells cur 231 (0, 0))) (hs : Sp w g 0 l) (hl : l.length = n) (hn : n ≤ 1000) :
    Calls Tryz.prog 187 #[.slice (some ⟨g, 0, none⟩) n cap, .func (.func 188) #[] #[]] w fun e w' => e = .returned (.tuple #[]) ∧ Chg [g] w w' ∧ ∃ l', l'.length = n ∧ Sp w' g 0 l' := by
  have eg : ∀ args w, (callFunc 188 args).run Tryz.prog w = .ok (.enter 188 args) w := enters_of Tryz.func188 (by kernel_rfl) rfl
  have hH : HoldsK encSp 2 w g 0 l.toArray := by
    intro j hj
    rw [size_flatK] at hj
    rw [get_flatK encSp 2 l.toArray j hj]
    exact ⟨hs j _ (spCells_get l j (by simpa using hj)), unfrozen hb _⟩
  have hcon := AnyQ.slices_SortFunc Tryz.sortSp 2 isAgg117 sizeOf117 encSp (fun _ => rfl) (fun x v hv => by simp [encSp] at hv; rcases hv with rfl | rfl <;> rfl) (fun x y => Lib.compareInt x.1 y.1) swoSp 188 #[] g 0 cap l.toArray w eg (cmpLays247 g 0 l.toArray.size w) hH (heap_lt hb) (by simp [hl]; omega)
  change Calls Tryz.prog 187 _ _ _ at hcon
  have hz : l.toArray.size = n := by simpa using hl
  rw [hz] at hcon
  refine hcon.mono ?_
  rintro e w' ⟨rfl, d', m, os, hP, -, rfl⟩
  have hsz : d'.size = l.toArray.size := hP.1
  have hH2 := holdsK_sortWorldK_c encSp 2 w g 0 l.toArray _ m os hH (heap_lt hb) hsz
  refine ⟨rfl, ?_, d'.toList, by simpa [hl] using hsz, ?_⟩
  · exact ((chg_ahead w m).then (chg_mapBlock _ g _)).then (chg_grow _ os)
  · intro j u hu
    have hj : j < d'.size * 2 := by
      rcases Nat.lt_or_ge j (d'.size * 2) with h | h
      · exact h
      · rw [List.getElem?_eq_none (by rw [spCells_len]; simpa using h)] at hu; cases hu
    rw [spCells_get _ j (by simpa using hj)] at hu
    have h2 := (hH2 j (by rw [size_flatK]; exact hj)).1
    rw [get_flatK encSp 2 _ j hj] at h2
    rw [h2]
    simpa using hu
end Go.Proofs.YtnelakpdmjfolaaGreat
namespace Go.Proofs.YtnelakpdmjfolaaGreat
open Go.RowKit Go.Lib

theorem add_lit (b o j : Nat) : (⟨b, o, none⟩ : Addr).add j = ⟨b, o + j, none⟩ := by unfold Addr.add; split <;> simp_all
theorem own_sp {w : World} {base n : Nat} {v : Value} {xs : List (Int × Int)} (h : w.ownsRow base 231 2 v n (spCells xs)) (hn : 0 < n) :
    ∃ g cap cur, v = .slice (some ⟨g, 0, none⟩) n cap ∧ base ≤ g ∧ w.heap[g]? = some (.cells cur 231 (0, 0)) ∧ Sp w g 0 xs ∧ n ≤ cap ∧ xs.length = n := by
  have hl := h.1
  rw [spCells_len] at hl
  rcases h.2 with ⟨rfl, h0⟩ | ⟨g, cap, cur, hv, hb, hg, hc, hm, hs, ht⟩
  · omega
  · subst hv
    exact ⟨g, cap, cur, rfl, hb, hg, fun j u hu => by have := h.cells (g := g) rfl j u hu; rw [add_lit] at this; exact this, hc, by omega⟩
theorem sp_at {w : World} {b o : Nat} {l : List (Int × Int)} (h : Sp w b o l) (i : Nat) (hi : i < l.length) : w.cell? ⟨b, o + i * 2, none⟩ = some (.int .i64 l[i].1) ∧ w.cell? ⟨b, o + (i * 2 + 1), none⟩ = some (.int .i64 l[i].2) := by
  have e1 : (i * 2) / 2 = i := by omega
  have e2 : (i * 2) % 2 = 0 := by omega
  have e3 : (i * 2 + 1) / 2 = i := by omega
  have e4 : (i * 2 + 1) % 2 = 1 := by omega
  have h1 := h (i * 2) _ (spCells_get l (i * 2) (by omega))
  have h2 := h (i * 2 + 1) _ (spCells_get l (i * 2 + 1) (by omega))
  rw [e1, e2] at h1
  rw [e3, e4] at h2
  simp [hi, encSp] at h1 h2
  exact ⟨h1, h2⟩
theorem spCells_set (xs : List (Int × Int)) (j : Nat) (h : j < xs.length) (z : Int) : (spCells xs).set (j * 2 + 1) (.int .i64 z) = spCells (xs.set j (xs[j].1, z)) := by
  induction xs generalizing j with
  | nil => simp at h
  | cons p l ih =>
    cases j with
    | zero => rfl
    | succ j =>
      have h' : j < l.length := by simpa using h
      have := ih j h'
      have e : ∀ q : Int × Int, ∀ m, spCells (q :: m) = .int .i64 q.1 :: .int .i64 q.2 :: spCells m := fun _ _ => rfl
      rw [List.set_cons_succ, e, e, show (j + 1) * 2 + 1 = (j * 2 + 1) + 1 + 1 by omega, List.set_cons_succ, List.set_cons_succ, this]
      rfl
theorem own_set {w : World} {base n g cap : Nat} {xs : List (Int × Int)} (h : w.ownsRow base 231 2 (.slice (some ⟨g, 0, none⟩) n cap) n (spCells xs)) (j : Nat) (hj : j < xs.length) (z : Int) :
    (w.setCell ⟨g, j * 2 + 1, none⟩ (.int .i64 z)).ownsRow base 231 2 (.slice (some ⟨g, 0, none⟩) n cap) n (spCells (xs.set j (xs[j].1, z))) := by
  have hl := h.1
  rw [spCells_len] at hl
  rcases h.2 with ⟨e, h0⟩ | ⟨g', cap', cur, hv, hb, hg, hc, hm, hs, ht⟩
  · cases e
  · cases hv
    refine ⟨by rw [spCells_len, List.length_set]; exact hl, Or.inr ⟨g, cap, cur.setIfInBounds (j * 2 + 1) (.int .i64 z), rfl, hb, heap_set hg _ _ rfl, hc, hm, by simpa using hs, ?_⟩⟩
    rw [← spCells_set xs j hj z, ← ht, Array.toList_setIfInBounds, List.take_set]
theorem ownsRow_chg {w w' : World} {S : List Nat} {base n e size : Nat} {v : Value} {xs : List Value} (h : w.ownsRow base e size v n xs) (hc : Chg S w w') (hS : ∀ x ∈ S, x < base := by simp) : w'.ownsRow base e size v n xs := by
  refine ⟨h.1, ?_⟩
  rcases h.2 with hn | ⟨g, cap, cur, hv, hb, hg, rest⟩
  · exact Or.inl hn
  · exact Or.inr ⟨g, cap, cur, hv, hb, hc.heap hg (fun hm => by have := hS g hm; omega), rest⟩
theorem ownsRow_base {w : World} {b base n e size : Nat} {v : Value} {xs : List Value} (h : w.ownsRow base e size v n xs) (hb : b ≤ base) : w.ownsRow b e size v n xs := by
  refine ⟨h.1, ?_⟩
  rcases h.2 with hn | ⟨g, cap, cur, hv, h1, hg, rest⟩
  · exact Or.inl hn
  · exact Or.inr ⟨g, cap, cur, hv, Nat.le_trans hb h1, hg, rest⟩
theorem sp_new (w : World) (a b : Int) : Sp (w.alloc (.cells #[.int .i64 a, .int .i64 b] 231)) w.heap.size 0 [(a, b)] := by
  have h := heap_new w (.cells #[.int .i64 a, .int .i64 b] 231)
  intro j u hu
  rw [Nat.zero_add]
  match j with
  | 0 => cases hu; exact cell_is h 0 rfl
  | 1 => cases hu; exact cell_is h 1 rfl
  | j + 2 => simp [spCells] at hu
set_option maxRecDepth 100000 in
set_option maxHeartbeats 2000000 in
theorem joined_any (w : World) {g0 o0 n cp : Nat} {l : List (Int × Int)} (hl : l.length = n) (h0 : 0 < n) (h1 : n ≤ 16) (hs : Sp w g0 o0 l) : Calls Tryz.prog 174 #[.slice (some ⟨g0, o0, none⟩) n cp] w fun e w' =>
    ∃ v k l', e = .returned v ∧ Chg [] w w' ∧ k ≤ n ∧ l'.length = k ∧ w'.ownsRow w.heap.size 231 2 v k (spCells l') := by
  go_enter Tryz.func174, Tryz.ntmps174
  go_wp2_with fail
  go_step3
  go_wp2_with fail
  refine (clone_sp w hl h0 (by omega) hs).mono ?_
  rintro e w1 ⟨v, rfl, k1, o1⟩
  obtain ⟨g, cap, cur, rfl, hg0, hb1, hs1, hcap, -⟩ := own_sp o1 h0
  clear o1
  go_wp2_with fail
  refine (sort_sp w1 (cap := cap) hb1 hs1 hl (by omega)).mono ?_
  rintro e w2 ⟨rfl, k2, l2, hl2, hs2⟩
  have k3 : Chg [] w w2 := k1.trans k2 (fun x hx hlt => by simp at hx; omega)
  have hw := k3.size
  have HL2 := Lib.hid hl2
  clear hb1 hs1 hl hs k1 k2 hl2
  go_wp2_with fail
  go_step3
  go_wp2_with fail
  go_loopw [2, 12] (fun v i wr => ∃ iq k xs, i = .int .i64 ((iq : Nat) : Int) ∧ iq ≤ n ∧ k ≤ iq ∧ Chg [] w2 wr ∧ ((v = .slice none 0 0 ∧ k = 0 ∧ xs = []) ∨ (0 < k ∧ wr.ownsRow w2.heap.size 231 2 v k (spCells xs)))) (fun _ i _ => n - (intOf i).toNat)
  case atStart => exact ⟨0, 0, [], rfl, Nat.zero_le _, Nat.le_refl _, Chg.refl _ _, Or.inl ⟨rfl, rfl, rfl⟩⟩
  case round =>
    obtain ⟨iq, k, xs, rfl, hi, hk, kr, hv⟩ := hrel
    rcases Nat.lt_or_ge iq n with hlt | hge
    · have hS := hs2.keep kr
      obtain ⟨c0, c1⟩ := sp_at hS iq (by have := HL2.out; omega)
      generalize (l2[iq]'(by have := HL2.out; omega)).1 = a at *
      generalize (l2[iq]'(by have := HL2.out; omega)).2 = b at *
      simp only [Nat.zero_add] at c0 c1
      have hlt' : (iq : Int) < n := by omega
      rcases hv with ⟨rfl, rfl, rfl⟩ | ⟨hk0, ho⟩
      · go_wp2_with fail
        have kz : Chg [] wr (wr.alloc (.cells #[.int .i64 a, .int .i64 b] 231)) := Chg.alloc wr _
        have z0 := heap_new wr (.cells #[.int .i64 a, .int .i64 b] 231)
        generalize hw5 : wr.alloc (.cells #[.int .i64 a, .int .i64 b] 231) = w5 at *
        generalize wr.heap.size = z at *
        have d0 : w5.cell? ⟨z, 0, none⟩ = some (.int .i64 a) := cell_is z0 0 rfl
        have d1 : w5.cell? ⟨z, 1, none⟩ = some (.int .i64 b) := cell_is z0 1 rfl
        go_quiet (fail)
        have kw : Chg [] w2 ((w5.drewN nq).alloc (.cells #[.int .i64 a, .int .i64 b] 231)) := ((kr.then kz).drewN nq).then_alloc _
        have hsz := kw.size
        have hnw := Lib.hid (sp_new (w5.drewN nq) a b)
        go_wp2_with (at_builtin; refine wpList_append_sp rfl (.tmp 58) (.tmp 60) rfl w2.heap.size _ 0 [] [(a, b)] rfl (World.ownsRow_nil _ _ _ _) (w5.drewN nq).heap.size 0 1 1 rfl rfl hnw.out (by omega) hsz ?_; intro v1 w6 h6)
        go_roundw
        case rel => exact ⟨iq + 1, 1, _, by go_num, hlt, by omega, Chg.of_below (kw.below0.trans h6.2.1), Or.inr ⟨by omega, h6.1⟩⟩
        case measure => simp [intOf]; omega
      · obtain ⟨hb, cap', cur', rfl, hhb, hhc, hhs, hcc, hxl⟩ := own_sp ho hk0
        obtain ⟨k', rfl⟩ : ∃ k', k = k' + 1 := ⟨k - 1, by omega⟩
        obtain ⟨p0, q0⟩ := sp_at hhs k' (by omega)
        simp only [Nat.zero_add] at p0 q0
        obtain ⟨p, hp⟩ : ∃ p, p = (xs[k']'(by omega)).1 := ⟨_, rfl⟩
        obtain ⟨q, hq⟩ : ∃ q, q = (xs[k']'(by omega)).2 := ⟨_, rfl⟩
        rw [← hp] at p0
        rw [← hq] at q0
        clear hp hq
        go_wp2_with fail
        have kz : Chg [] wr (wr.alloc (.cells #[.int .i64 a, .int .i64 b] 231)) := Chg.alloc wr _
        have z0 := heap_new wr (.cells #[.int .i64 a, .int .i64 b] 231)
        generalize hw5 : wr.alloc (.cells #[.int .i64 a, .int .i64 b] 231) = w5 at *
        generalize wr.heap.size = z at *
        have d0 : w5.cell? ⟨z, 0, none⟩ = some (.int .i64 a) := cell_is z0 0 rfl
        have d1 : w5.cell? ⟨z, 1, none⟩ = some (.int .i64 b) := cell_is z0 1 rfl
        have p1 := kz.cell p0 (by simp)
        have q1 := kz.cell q0 (by simp)
        go_quiet (fail)
        by_cases hle : a ≤ wrap64 (p + q)
        · go_wp2_with fail
          have p2 : (w5.drewN nq).cell? ⟨hb, k' * 2, none⟩ = some (.int .i64 p) := p1
          have q2 : (w5.drewN nq).cell? ⟨hb, k' * 2 + 1, none⟩ = some (.int .i64 q) := q1
          have f2 : (w5.drewN nq).frozen? ⟨hb, k' * 2 + 1, none⟩ = false := unfrozen (kz.heap hhc (by simp)) _
          have d2 : (w5.drewN nq).cell? ⟨z, 0, none⟩ = some (.int .i64 a) := d0
          have d3 : (w5.drewN nq).cell? ⟨z, 1, none⟩ = some (.int .i64 b) := d1
          have hkk : (k' : Int) < k' + 1 := by omega
          have k6 : Chg [] w2 (w5.drewN nq) := (kr.then kz).drewN nq
          have hd6 : (w5.drewN nq).drew.ownsRow w2.heap.size 231 2 (.slice (some ⟨hb, 0, none⟩) (k' + 1) cap') (k' + 1) (spCells xs) := ownsRow_chg ho ((kz.drewN nq).drew)
          clear d0 d1 p1 q1
          generalize w5.drewN nq = w6 at *
          go_still_tail 21, (by kernel_rfl)
          change wpList _ _ _ _ _ w6.drew
          have HS := Lib.hid (fun z => own_set hd6 k' (by omega) z)
          have k7 : Chg [] w2 w6.drew := k6.drew
          have q7 : w6.drew.cell? ⟨hb, k' * 2 + 1, none⟩ = some (.int .i64 q) := q2
          have f7 : w6.drew.frozen? ⟨hb, k' * 2 + 1, none⟩ = false := f2
          generalize w6.drew = w7 at *
          go_wp2_with fail
          go_roundw
          case rel => exact ⟨iq + 1, k' + 1, _, by go_num, hlt, by omega, k7.new_set hhb _ _, Or.inr ⟨by omega, HS.out _⟩⟩
          case measure => simp [intOf]; omega
        · have kw : Chg [] w2 ((w5.drewN nq).alloc (.cells #[.int .i64 a, .int .i64 b] 231)) := ((kr.then kz).drewN nq).then_alloc _
          have ow : ((w5.drewN nq).alloc (.cells #[.int .i64 a, .int .i64 b] 231)).ownsRow w2.heap.size 231 2 (.slice (some ⟨hb, 0, none⟩) (k' + 1) cap') (k' + 1) (spCells xs) := ownsRow_chg ho ((kz.drewN nq).then_alloc _)
          have hsz := kw.size
          have hnw := Lib.hid (sp_new (w5.drewN nq) a b)
          go_wp2_with (at_builtin; refine wpList_append_sp rfl (.tmp 58) (.tmp 60) rfl w2.heap.size _ (k' + 1) xs [(a, b)] rfl ow (w5.drewN nq).heap.size 0 1 1 rfl rfl hnw.out (by omega) hsz ?_; intro v1 w6 h6)
          go_roundw
          case rel => exact ⟨iq + 1, k' + 2, _, by go_num, hlt, by omega, Chg.of_below (kw.below0.trans h6.2.1), Or.inr ⟨by omega, h6.1⟩⟩
          case measure => simp [intOf]; omega
    · obtain rfl : iq = n := by omega
      have hnl : ¬ ((iq : Int) < iq) := by omega
      rcases hv with ⟨rfl, rfl, rfl⟩ | ⟨hk0, ho⟩
      · go_wp2_with fail
        go_ret
        exact ⟨_, 0, [], rfl, k3.then kr, Nat.zero_le _, rfl, World.ownsRow_nil _ _ _ _⟩
      · go_wp2_with fail
        go_ret
        exact ⟨_, k, xs, rfl, k3.then kr, hk, by have := ho.1; rw [spCells_len] at this; omega, ownsRow_base ho hw⟩
end Go.Proofs.YtnelakpdmjfolaaGreat
namespace Go.Proofs.YtnelakpdmjfolaaGreat
open Go.RowKit Go.Lib

/-- a set of at most n spans, whatever they are; its row lies behind base. -/
def SpV (w : World) (base V n : Nat) : Prop := ∃ v l, SpansAt w V v ∧ l.length ≤ n ∧ w.ownsRow base 231 2 v l.length (spCells l)
/-- the blocks of S bear none of these types. -/
def Av (w : World) (S ts : List Nat) : Prop := ∀ x ∈ S, ∀ cs t fr, w.heap[x]? = some (.cells cs t fr) → t ∉ ts
theorem Av.ne {w : World} {S ts : List Nat} (h : Av w S ts) {g : Nat} {cs : Array Value} {t : TypeId} {fr : Nat × Nat} (hg : w.heap[g]? = some (.cells cs t fr)) (ht : t ∈ ts) : g ∉ S := fun hm => h g hm cs t fr hg ht
theorem Av.nil (w : World) (ts : List Nat) : Av w [] ts := fun x hx => by cases hx
theorem SpV.keep {w w' : World} {S : List Nat} {base V n : Nat} (h : SpV w base V n) (hc : Chg S w w') (hS : Av w S [231, 227]) : SpV w' base V n := by
  obtain ⟨v, l, h1, h2, h3⟩ := h
  refine ⟨v, l, hc.heap h1 (hS.ne h1 (by simp)), h2, h3.1, ?_⟩
  rcases h3.2 with hn | ⟨g, cap, cur, hv, hb, hg, rest⟩
  · exact Or.inl hn
  · exact Or.inr ⟨g, cap, cur, hv, hb, hc.heap hg (hS.ne hg (by simp)), rest⟩
theorem SpV.keep0 {w w' : World} {base V n : Nat} (h : SpV w base V n) (hc : Chg [] w w') : SpV w' base V n := h.keep hc (Av.nil _ _)
theorem own_spq {w : World} {base : Nat} {v : Value} {l : List (Int × Int)} (h : w.ownsRow base 231 2 v l.length (spCells l)) : ∃ pa c, v = .slice pa l.length c ∧ SpQ w pa l := by
  cases l with
  | nil =>
    rcases h.2 with ⟨rfl, h0⟩ | ⟨g, cap, cur, rfl, _⟩
    · exact ⟨none, 0, rfl, Or.inl ⟨rfl, rfl⟩⟩
    · exact ⟨_, cap, rfl, Or.inr ⟨g, 0, rfl, fun j u hu => by simp [spCells] at hu⟩⟩
  | cons p l =>
    obtain ⟨g, cap, cur, hv, _, _, hs, _, _⟩ := own_sp h (by simp)
    exact ⟨_, cap, hv, Or.inr ⟨g, 0, rfl, hs⟩⟩
set_option maxRecDepth 100000 in
set_option maxHeartbeats 2000000 in
theorem iadd_one (w : World) {base V n E cp : Nat} {b : Int} (h : SpV w base V n) (hn : n ≤ 11) (hbase : base ≤ w.heap.size) (h0 : 0 ≤ b) (h1 : b < 258) (e0 : w.cell? ⟨E, 0, none⟩ = some (.int .i64 b)) (e1 : w.cell? ⟨E, 1, none⟩ = some (.int .i64 1)) :
    Calls Tryz.prog 147 #[.pointer (some ⟨V, 0, none⟩), .slice (some ⟨E, 0, none⟩) 1 cp] w fun e w' => e = .returned (.int .i64 0) ∧ Chg [V] w w' ∧ SpV w' base V (n + 1) := by
  obtain ⟨v, l, hV, hl, ho⟩ := h
  obtain ⟨pa, c, rfl, hq⟩ := own_spq ho
  have hE : SpQ w (some ⟨E, 0, none⟩) [(b, 1)] := Or.inr ⟨E, 0, rfl, fun j u hu => by
    rw [Nat.zero_add]
    match j with
    | 0 => cases hu; exact e0
    | 1 => cases hu; exact e1
    | j + 2 => simp [spCells] at hu⟩
  have v1 : w.cell? ⟨V, 1, none⟩ = some (.slice pa l.length c) := cell_is hV 1 rfl
  go_enter Tryz.func147, Tryz.ntmps147
  go_wp2_with fail
  refine (iall_one w (cp := cp) h0 h1 e0 e1).mono ?_
  rintro e w1 ⟨rfl, k1⟩
  have v2 := k1.cell v1 (by simp)
  have hq2 := hq.keep k1
  have hE2 := hE.keep k1
  have hV2 := k1.heap hV (by simp)
  have ho2 := ownsRow_chg ho k1
  clear e0 e1 v1 hV hq hE ho
  go_wp2_with fail
  have kx : Chg [] w1 (w1.alloc (.cells #[.slice pa l.length c, .slice (some ⟨E, 0, none⟩) 1 cp] 225)) := Chg.alloc _ _
  have x0 : (w1.alloc (.cells #[.slice pa l.length c, .slice (some ⟨E, 0, none⟩) 1 cp] 225)).cell? ⟨w1.heap.size, 0, none⟩ = some (.slice pa l.length c) := cell_is (heap_new w1 _) 0 rfl
  have x1 : (w1.alloc (.cells #[.slice pa l.length c, .slice (some ⟨E, 0, none⟩) 1 cp] 225)).cell? ⟨w1.heap.size, 1, none⟩ = some (.slice (some ⟨E, 0, none⟩) 1 cp) := cell_is (heap_new w1 _) 1 rfl
  refine (concat_two _ x0 x1 rfl rfl (by omega) (by omega) (by omega) (hq2.keep kx) (hE2.keep kx)).mono ?_
  rintro e w2 ⟨v', rfl, k2, o2⟩
  obtain ⟨g, cap, cur, rfl, hgb, hgc, hgs, _, hgl⟩ := own_sp o2 (by simp)
  have k3 := (k1.then kx).then k2
  go_wp2_with fail
  refine (joined_any w2 hgl (by omega) (by omega) hgs).mono ?_
  rintro e w3 ⟨v3, k, l3, rfl, k4, hk, hl3, o3⟩
  have k5 := k3.then k4
  have hV3 : SpansAt w3 V (.slice pa l.length c) := ((kx.then k2).then k4).heap hV2 (by simp)
  have c0 : w3.cell? ⟨V, 0, none⟩ = some (.int .i64 64) := cell_is hV3 0 rfl
  have c1 : w3.cell? ⟨V, 1, none⟩ = some (.slice pa l.length c) := cell_is hV3 1 rfl
  have f1 := unfrozen hV3 1
  obtain ⟨pq, cq, hv3, hcq⟩ := own_form o3
  subst hv3
  have hsz := k3.size
  have HF := Lib.hid (show SpV (w3.setCell ⟨V, 1, none⟩ (.slice pq k cq)) base V (n + 1) from by
    refine ⟨_, l3, heap_set hV3 1 _ rfl, by omega, ?_⟩
    have kk := Chg.set w3 V 1 (.slice pq k cq)
    refine ownsRow_base (base := w2.heap.size) ?_ (by omega)
    rw [hl3]
    refine ownsRow_chg o3 kk ?_
    intro x hx
    have := heap_lt hV2
    have := (kx.then k2).size
    simp at hx
    omega)
  clear k3 k4 o3 hV3 hV2 x0 x1 hgs hgc o2 hq2 hE2
  have hcmp : ¬ ((k : Int) > 64) := by omega
  go_wp2_with fail
  go_ret
  exact ⟨rfl, (k5.mono (T := [V]) (fun x hx _ => by cases hx)).then (Chg.set w3 V 1 _), HF.out⟩
end Go.Proofs.YtnelakpdmjfolaaGreat
namespace Go.Proofs.YtnelakpdmjfolaaGreat
open Go.RowKit Go.Lib

theorem ty68 : Tryz.prog.underlying 202 = some (.slice 301) := by kernel_rfl
theorem inf285 : (Tryz.prog.info? 301).map (fun i => (i.zero, i.size, i.bytes)) = some (some (.agg #[.int .i64 0, .slice none 0 0, .bool false]), 3, 40) := by kernel_rfl
/-- one read is put behind reads of an own row, as a step of a region that draws. -/
theorem step_append_rd {ops : Array Oper} {o : Oper} {a : Act} {w : World} {K : Act → World → Prop} {Q : Exit → Act → World → Prop} {E : Prop} (hgd : o.guard = none) (s x : Operand)
    (ho : o.op = .call { callee := .builtin .append, args := #[s, x], argTypes := #[202, 202] }) (base : Nat) (v : Value) (n : Nat) (xs : List Value) (hs : a.eval s = v) (hown : w.ownsRow base 301 3 v n xs) (b c : Nat) (u0 u1 u2 : Value)
    (hx : a.eval x = .slice (some ⟨b, 0, none⟩) 1 c) (c0 : w.cell? ⟨b, 0, none⟩ = some u0) (c1 : w.cell? ⟨b, 1, none⟩ = some u1) (c2 : w.cell? ⟨b, 2, none⟩ = some u2) (h1 : u0.oneCell' = true ∧ u1.oneCell' = true ∧ u2.oneCell' = true) (hn : n ≤ 1000000) (hbase : base ≤ w.heap.size)
    (h : ∀ g cap w', w'.ownsRow base 301 3 (.slice (some ⟨g, 0, none⟩) (n + 1) cap) (n + 1) (xs ++ [u0, u1, u2]) → Chg v.ownBlock.toList w w' → K (a.put o.dst (.slice (some ⟨g, 0, none⟩) (n + 1) cap)) w') :
    if Region.wanted o (yielded ops a.tmps) = true then Oper.wp Tryz.prog o a w K Q else E := by
  obtain ⟨i, hi0, hz, hz1, hz2⟩ := info_parts inf285
  refine step_append_lies w hgd s x 202 ho base 301 i _ 3 40 ty68 hi0 hz hz1 hz2 rfl (by decide) v n xs hs hown ⟨b, 0, none⟩ 1 c [u0, u1, u2] hx rfl ?_ ?_ (by decide) (by unfold maxLen; omega) (by omega) hbase _ rfl ?_
  · intro j u hu
    rw [add_lit, Nat.zero_add]
    match j with
    | 0 => cases hu; exact c0
    | 1 => cases hu; exact c1
    | 2 => cases hu; exact c2
    | j + 3 => simp at hu
  · intro u hu
    simp at hu
    rcases hu with rfl | rfl | rfl
    · exact h1.1
    · exact h1.2.1
    · exact h1.2.2
  · intro g cap w' h2 h3 _ _
    refine h g cap w' h2 ?_
    cases hv : v.ownBlock with
    | none => rw [hv] at h3; exact Chg.of_grown0 h3
    | some k => rw [hv] at h3; exact Chg.of_grown h3
/-- a block's bytes in a buffer, or noughts. -/
def Blk (w : World) (L : List (Int × Value)) (b : Int) (l : List UInt8) : Prop := (getL L b = none ∧ l = zeroB) ∨ ∃ g c, getL L b = some (.slice (some ⟨g, 0, none⟩) 40 c) ∧ Bs w (some ⟨g, 0, none⟩) l ∧ l.length = 40 ∧ Bt w g
/-- a view, with at most n reads in a row behind base. -/
def Vw (w : World) (base Q X W V n : Nat) : Prop := ∃ s m xs, ViewAt w Q X W V s ∧ m ≤ n ∧ w.ownsRow base 301 3 s m xs
theorem Vw.keep {w w' : World} {S : List Nat} {base Q X W V n : Nat} (h : Vw w base Q X W V n) (hc : Chg S w w') (hS : Av w S [204, 301]) : Vw w' base Q X W V n := by
  obtain ⟨s, m, xs, h1, h2, h3⟩ := h
  refine ⟨s, m, xs, hc.heap h1 (hS.ne h1 (by simp)), h2, h3.1, ?_⟩
  rcases h3.2 with hn | ⟨g, cap, cur, hv, hb, hg, rest⟩
  · exact Or.inl hn
  · exact Or.inr ⟨g, cap, cur, hv, hb, hc.heap hg (hS.ne hg (by simp)), rest⟩
theorem Blk.len {w : World} {L : List (Int × Value)} {b : Int} {l : List UInt8} (h : Blk w L b l) : l.length = 40 := by
  rcases h with ⟨_, rfl⟩ | ⟨g, c, _, _, h, _⟩
  · rfl
  · exact h
/-- the blocks of T are those of a transaction's reads: a view, a set of spans, a row of reads. -/
def Rt (w : World) (base : Nat) (T : List Nat) : Prop := ∀ x ∈ T, base ≤ x ∧ ∃ cs t fr, w.heap[x]? = some (.cells cs t fr) ∧ (t = 204 ∨ t = 227 ∨ t = 301)
theorem Rt.cells {w : World} {base : Nat} {T : List Nat} (h : Rt w base T) {g : Nat} {cs : Array Value} {t : TypeId} {fr : Nat × Nat} (hg : w.heap[g]? = some (.cells cs t fr)) (ht : t ≠ 204 ∧ t ≠ 227 ∧ t ≠ 301) : g ∉ T := by
  intro hm
  obtain ⟨_, cs', t', fr', h1, h2⟩ := h g hm
  rw [hg] at h1
  cases h1
  rcases h2 with h | h | h
  · exact ht.1 h
  · exact ht.2.1 h
  · exact ht.2.2 h
theorem Rt.map {w : World} {base : Nat} {T : List Nat} (h : Rt w base T) {r : Nat} {L : List (Int × Value)} (hg : MapAt w r L) : r ∉ T := by
  intro hm
  obtain ⟨_, cs', t', fr', h1, _⟩ := h r hm
  exact map_cells hg h1 rfl
theorem Rt.low {w : World} {base : Nat} {T : List Nat} (h : Rt w base T) {g : Nat} (hg : g < base) : g ∉ T := fun hm => by have := (h g hm).1; omega
/-- what a view's Read holds on to. -/
structure Vr (w : World) (Q X rx W rw : Nat) (L : List (Int × Value)) (b : Int) (l : List UInt8) : Prop where
  ver : VerAt w X rx
  buf : BufAt w W rw L
  blk : Blk w L b l
theorem Blk.keepT {w w' : World} {T : List Nat} {base : Nat} {L : List (Int × Value)} {b : Int} {l : List UInt8} (h : Blk w L b l) (hc : Chg T w w') (hT : Rt w base T) : Blk w' L b l := by
  rcases h with h | ⟨g, c, h1, h2, h3, cs, hcs⟩
  · exact Or.inl h
  · have hg := hT.cells hcs (by simp)
    exact Or.inr ⟨g, c, h1, h2.chgT hc hg, h3, cs, hc.heap hcs hg⟩
theorem Rt.nil (w : World) (base : Nat) : Rt w base [] := fun x hx => by cases hx
theorem Blk.keep {w w' : World} {L : List (Int × Value)} {b : Int} {l : List UInt8} (h : Blk w L b l) (hc : Chg [] w w') : Blk w' L b l := h.keepT hc (Rt.nil w 0)
theorem VerAt.keep0 {w w' : World} {X rx : Nat} (h : VerAt w X rx) (hc : Chg [] w w') : VerAt w' X rx := ⟨hc.heap h.1 (by simp), h.2.keep hc (by simp)⟩
theorem ownsRow_chgV {w w' : World} {V : Nat} {base n : Nat} {v : Value} {xs : List Value} {v2 : Value} (h : w.ownsRow base 301 3 v n xs) (hc : Chg [V] w w') (hV : SpansAt w V v2) : w'.ownsRow base 301 3 v n xs := by
  refine ⟨h.1, ?_⟩
  rcases h.2 with hn | ⟨g, cap, cur, hv, hb, hg, rest⟩
  · exact Or.inl hn
  · exact Or.inr ⟨g, cap, cur, hv, hb, hc.heap hg (by simpa using heap_ne hg hV (by simp)), rest⟩
theorem chg_setRow (w : World) (g : Nat) (cs : Array Value) : Chg [g] w (w.setRow g cs) := ⟨rfl, rfl, rfl, by simp [World.setRow], fun k _ hs => setRow_other w g k cs (fun e => hs (by simp [e]))⟩
theorem ownsRow_chg2 {w w' : World} {g : Nat} {base n : Nat} {v : Value} {xs : List Value} {cs : Array Value} (h : w.ownsRow base 301 3 v n xs) (hc : Chg [g] w w') (hV : w.heap[g]? = some (.cells cs 5 (0, 0))) : w'.ownsRow base 301 3 v n xs := by
  refine ⟨h.1, ?_⟩
  rcases h.2 with hn | ⟨k, cap, cur, hv, hb, hg, rest⟩
  · exact Or.inl hn
  · exact Or.inr ⟨k, cap, cur, hv, hb, hc.heap hg (by simpa using heap_ne hg hV (by simp)), rest⟩
theorem own_block_ne {w : World} {g : Nat} {base n e size : Nat} {v : Value} {xs : List Value} {cs : Array Value} {t : TypeId} {fr : Nat × Nat} (h : w.ownsRow base e size v n xs) (hg : w.heap[g]? = some (.cells cs t fr)) (ht : t ≠ e) : g ∉ v.ownBlock.toList := by
  rcases h.2 with ⟨rfl, _⟩ | ⟨k, cap, cur, rfl, hb, hk, rest⟩
  · simp [Value.ownBlock]
  · simpa [Value.ownBlock] using heap_ne hg hk (by intro e; cases e; exact ht rfl)
theorem ownsRow_av {w w' : World} {S : List Nat} {base n e size : Nat} {v : Value} {xs : List Value} (h : w.ownsRow base e size v n xs) (hc : Chg S w w') (hS : Av w S [e]) : w'.ownsRow base e size v n xs := by
  refine ⟨h.1, ?_⟩
  rcases h.2 with hn | ⟨g, cap, cur, hv, hb, hg, rest⟩
  · exact Or.inl hn
  · exact Or.inr ⟨g, cap, cur, hv, hb, hc.heap hg (hS.ne hg (by simp)), rest⟩
/-- what stands behind a Read's last store. -/
theorem vread_end {w wb wc w5 : World} {base Q X W V n m g g5 cp5 : Nat} {s : Value} {xs : List Value} {ys : List Value} {l : List UInt8} {Cb : Array Value} (HRt : Rt w base (V :: Q :: s.ownBlock.toList)) (k9 : Chg [V] w wb) (ky : Chg [] wb wc) (hm : m ≤ n) (hB : Bs wb (some ⟨g, 0, none⟩) l)
    (gy : wc.heap[g]? = some (.cells Cb 5 (0, 0))) (hgn : g ∉ s.ownBlock.toList) (hgQ : Q ∉ [g]) (oy : wc.ownsRow base 301 3 s m xs) (qy : ViewAt wc Q X W V s) (hQn : Q ∉ s.ownBlock.toList) (sb : SpV wc base V (n + 1))
    (o5 : w5.ownsRow base 301 3 (.slice (some ⟨g5, 0, none⟩) (m + 1) cp5) (m + 1) ys) (k5 : Chg s.ownBlock.toList wc w5) :
    ∃ T, Chg T w (w5.setCell ⟨Q, 4, none⟩ (.slice (some ⟨g5, 0, none⟩) (m + 1) cp5)) ∧ Rt w base T ∧ Bs (w5.setCell ⟨Q, 4, none⟩ (.slice (some ⟨g5, 0, none⟩) (m + 1) cp5)) (some ⟨g, 0, none⟩) l ∧ Vw (w5.setCell ⟨Q, 4, none⟩ (.slice (some ⟨g5, 0, none⟩) (m + 1) cp5)) base Q X W V (n + 1) ∧ SpV (w5.setCell ⟨Q, 4, none⟩ (.slice (some ⟨g5, 0, none⟩) (m + 1) cp5)) base V (n + 1) := by
  have q5 := k5.heap qy hQn
  have g5h := k5.heap gy hgn
  have kS := Chg.set w5 Q 4 (.slice (some ⟨g5, 0, none⟩) (m + 1) cp5)
  have hgQ' : g ∉ [Q] := by simpa using (fun e => hgQ (by simp [e]))
  have hav : Av wc s.ownBlock.toList [231, 227] := by
    intro x hx cs t fr hh
    rcases oy.2 with ⟨rfl, _⟩ | ⟨k, cap, cur, rfl, hb, hk, rest⟩
    · simp [Value.ownBlock] at hx
    · simp [Value.ownBlock] at hx
      subst hx
      rw [hk] at hh
      cases hh
      simp
  have hq1 : Av w5 [Q] [231, 227] := fun x hx cs t fr hh => by
    rw [List.mem_singleton] at hx; subst hx; rw [q5] at hh; cases hh; simp
  have hq2 : Av w5 [Q] [301] := fun x hx cs t fr hh => by
    rw [List.mem_singleton] at hx; subst hx; rw [q5] at hh; cases hh; simp
  refine ⟨V :: Q :: s.ownBlock.toList, ?_, HRt, ((hB.chg ky).chgT k5 hgn).chgT kS hgQ', ⟨_, m + 1, ys, heap_set q5 4 _ rfl, by omega, ownsRow_av o5 kS hq2⟩, (sb.keep k5 hav).keep kS hq1⟩
  refine (((k9.mono ?_).then (ky.mono ?_)).then (k5.mono ?_)).then (kS.mono ?_)
  · intro x hx _; simp at hx; simp [hx]
  · intro x hx _; cases hx
  · intro x hx _; simp only [List.mem_cons]; exact Or.inr (Or.inr hx)
  · intro x hx _; simp at hx; simp [hx]
theorem Bs.cells_at {w : World} {g : Nat} {l : List UInt8} (h : Bs w (some ⟨g, 0, none⟩) l) : ∀ j v, (Lib.byteCells l)[j]? = some v → w.cell? ((⟨g, 0, none⟩ : Addr).add j) = some v := by
  intro j u hu
  rcases h with rfl | ⟨b, off, e, hb, hc⟩
  · simp [Lib.byteCells] at hu
  · cases e
    have hj : j < l.length := by
      rcases Nat.lt_or_ge j l.length with h | h
      · exact h
      · rw [List.getElem?_eq_none (by simpa [Lib.byteCells] using h)] at hu; cases hu
    rw [add_lit, hc j hj, ← hu]
    simp [Lib.byteCells, hj]
theorem byteCells_one (l : List UInt8) : ∀ v ∈ Lib.byteCells l, v.oneCell' = true := by
  intro u hu
  simp only [Lib.byteCells, List.mem_map] at hu
  obtain ⟨x, _, rfl⟩ := hu
  rfl
end Go.Proofs.YtnelakpdmjfolaaGreat
namespace Go.Proofs.YtnelakpdmjfolaaGreat
open Go.RowKit Go.Lib

/-- where the parts of a store with one transaction lie. -/
structure Ids where
  P : Nat
  N : Nat
  S : Nat
  M : Nat
  X : Nat
  rx : Nat
  B : Nat
  rb : Nat
  r : Nat
  A : Nat
  c : Nat
  Z : List Nat
  T : Nat
  W : Nat
  rw : Nat
  Q : Nat
  V : Nat
/-- the store's own parts; they lie below base. -/
structure Sta (w : World) (base : Nat) (d : Ids) : Prop where
  store : StoreAt w d.P d.N d.S (some ⟨d.M, 0, none⟩)
  dev : ∃ ops, DevAt w d.N d.A d.c ops d.Z
  mg : Mg w d.M d.X d.rx d.B d.rb d.r 1 [(1, .int .i64 0)] [(1, .pointer (some ⟨d.T, 0, none⟩))]
  low : d.P < base ∧ d.N < base ∧ d.A < base ∧ d.M < base ∧ d.X < base ∧ d.rx < base ∧ d.B < base ∧ d.rb < base ∧ d.r < base
  lowZ : ∀ z ∈ d.Z, z < base
theorem Sta.keep {w w' : World} {base : Nat} {d : Ids} {T : List Nat} (h : Sta w base d) (hc : Chg T w w') (hT : ∀ x ∈ T, base ≤ x) : Sta w' base d := by
  obtain ⟨l1, l2, l3, l4, l5, l6, l7, l8, l9⟩ := h.low
  have n : ∀ x, x < base → x ∉ T := fun x hx hm => by have := hT x hm; omega
  obtain ⟨ops, hd⟩ := h.dev
  have m := h.mg
  exact ⟨h.store.keep hc (n _ l1), ⟨ops, hd.keep hc (n _ l2) (n _ l3) (fun z hz => n _ (h.lowZ z hz))⟩,
    ⟨hc.heap m.mgr (n _ l4), ⟨hc.heap m.ver.1 (n _ l5), m.ver.2.keep hc (n _ l6)⟩, m.book.keep hc (n _ l7) (n _ l8), m.map.keep hc (n _ l9), m.n1, m.n2, m.n3⟩, h.low, h.lowZ⟩
/-- what of memory behind base may change while one transaction goes on. -/
def Ow (base : Nat) (w w' : World) : Prop := ∃ T, Chg T w w' ∧ ∀ x ∈ T, base ≤ x ∧ ∀ cs t fr, w.heap[x]? = some (.cells cs t fr) → t = 204 ∨ t = 227 ∨ t = 301
theorem Ow.refl (base : Nat) (w : World) : Ow base w w := ⟨[], Chg.refl _ _, fun x hx => by cases hx⟩
theorem Ow.of_chg {base : Nat} {w w' : World} (h : Chg [] w w') : Ow base w w' := ⟨[], h, fun x hx => by cases hx⟩
theorem Ow.trans {base : Nat} {a b c : World} (h : Ow base a b) (k : Ow base b c) : Ow base a c := by
  obtain ⟨T, h1, h2⟩ := h
  obtain ⟨U, k1, k2⟩ := k
  refine ⟨T ++ U, (h1.mono (fun x hx _ => List.mem_append_left _ hx)).then (k1.mono (fun x hx _ => List.mem_append_right _ hx)), fun x hx => ?_⟩
  by_cases hT : x ∈ T
  · exact h2 x hT
  · rcases List.mem_append.1 hx with hx | hx
    · exact absurd hx hT
    · exact ⟨(k2 x hx).1, fun cs t fr hh => (k2 x hx).2 cs t fr (h1.heap hh hT)⟩
theorem Ow.then {base : Nat} {a b c : World} (h : Ow base a b) (k : Chg [] b c) : Ow base a c := h.trans (Ow.of_chg k)
theorem Ow.heap {base : Nat} {w w' : World} (h : Ow base w w') {g : Nat} {cs : Array Value} {t : TypeId} {fr : Nat × Nat} (hg : w.heap[g]? = some (.cells cs t fr)) (ht : t ≠ 204 ∧ t ≠ 227 ∧ t ≠ 301) : w'.heap[g]? = some (.cells cs t fr) := by
  obtain ⟨T, h1, h2⟩ := h
  refine h1.heap hg (fun hm => ?_)
  rcases (h2 g hm).2 cs t fr hg with h | h | h
  · exact ht.1 h
  · exact ht.2.1 h
  · exact ht.2.2 h
theorem Ow.below {base : Nat} {w w' : World} (h : Ow base w w') {B : Nat} (hB : B ≤ w.heap.size) (hb : B ≤ base) : Below B w w' := by
  obtain ⟨T, h1, h2⟩ := h
  exact h1.below hB (fun x hx => Nat.le_trans hb (h2 x hx).1)
theorem Ow.size {base : Nat} {w w' : World} (h : Ow base w w') : w.heap.size ≤ w'.heap.size := by obtain ⟨T, h1, _⟩ := h; exact h1.size
theorem av_map {w : World} {r : Nat} {L : List (Int × Value)} (h : MapAt w r L) (ts : List Nat) : Av w [r] ts := fun x hx cs t fr hh => by rw [List.mem_singleton] at hx; subst hx; exact absurd rfl (map_cells h hh)
/-- a store with one transaction, whose blocks are q, behind n reads and k writes. -/
structure St (w : World) (base : Nat) (d : Ids) (q : Int → List UInt8) (n k : Nat) : Prop where
  sta : Sta w base d
  tx : TxAt w d.T d.W d.Q
  buf : ∃ L, BufAt w d.W d.rw L ∧ L.length ≤ k ∧ ∀ b, 0 ≤ b → b < 258 → Blk w L b (q b)
  vw : Vw w base d.Q d.X d.W d.V n
  sp : SpV w base d.V n
  high : base ≤ d.Q ∧ base ≤ d.V ∧ base ≤ d.rw
theorem St.keep {w w' : World} {base : Nat} {d : Ids} {q : Int → List UInt8} {n k : Nat} (h : St w base d q n k) (hc : Chg [] w w') : St w' base d q n k := by
  obtain ⟨L, h1, h2, h3⟩ := h.buf
  exact ⟨h.sta.keep hc (fun x hx => by cases hx), hc.heap h.tx (by simp), ⟨L, h1.keep hc (by simp) (by simp), h2, fun b hb hb' => (h3 b hb hb').keep hc⟩, h.vw.keep hc (Av.nil _ _), h.sp.keep0 hc, h.high⟩
theorem St.tx4 {w : World} {base : Nat} {d : Ids} {q : Int → List UInt8} {n k : Nat} (h : St w base d q n k) : ∃ L v s, Tx w d.X d.T d.W d.rw d.Q d.V L v s ∧ L.length ≤ k ∧ BufAt w d.W d.rw L ∧ ∀ b, 0 ≤ b → b < 258 → Blk w L b (q b) := by
  obtain ⟨L, h1, h2, h3⟩ := h.buf
  obtain ⟨s, m, xs, h4, _, _⟩ := h.vw
  obtain ⟨v, l, h5, _, _⟩ := h.sp
  exact ⟨L, v, s, ⟨h.tx, h1, h4, h5⟩, h2, h1, h3⟩
/-- the blocks behind a write. -/
def putQ (q : Int → List UInt8) (b : Int) (l : List UInt8) (x : Int) : List UInt8 := if x = b then l else q x
set_option maxRecDepth 100000 in
theorem swrite_st (w : World) {base : Nat} {d : Ids} {q : Int → List UInt8} {n k : Nat} {E eo cp D o c : Nat} {b : Int} {l : List UInt8} (h : St w base d q n k) (hk : k ≤ 15) (h0 : 0 ≤ b) (h1 : b < 258)
    (e0 : w.cell? ⟨E, eo, none⟩ = some (.int .i64 b)) (e1 : w.cell? ⟨E, eo + 1, none⟩ = some (.slice (some ⟨D, o, none⟩) 40 c)) (hb : Bs w (some ⟨D, o, none⟩) l) (hl : l.length = 40) :
    Calls Tryz.prog 12 #[.pointer (some ⟨d.P, 0, none⟩), .int .i64 1, .slice (some ⟨E, eo, none⟩) 1 cp] w fun e w' => e = .returned (.int .i64 0) ∧ Ow base w w' ∧ St w' base d (putQ q b l) n (k + 1) := by
  obtain ⟨L, v, s, hT, hL, hbuf, hq⟩ := h.tx4
  refine (swrite_one w h.sta.store h.sta.mg hT e0 e1 hb hl h0 h1 (by omega)).mono ?_
  rintro e w' ⟨g, c', rfl, kc, hB, hbs, hbt⟩
  have hr : ∀ {x : Nat} {cs : Array Value} {t : TypeId} {fr : Nat × Nat}, w.heap[x]? = some (.cells cs t fr) → x ∉ [d.rw] := fun hx => by simpa using (map_cells hbuf.2 hx).symm
  refine ⟨rfl, ⟨[d.rw], kc, fun x hx => ?_⟩, h.sta.keep kc (fun x hx => by rw [List.mem_singleton] at hx; subst hx; exact h.high.2.2), kc.heap h.tx (hr h.tx), ⟨_, hB, Nat.le_trans (putL_len _ _ _) (by omega), fun x hx hx' => ?_⟩, h.vw.keep kc (av_map hbuf.2 _), h.sp.keep kc (av_map hbuf.2 _), h.high⟩
  · rw [List.mem_singleton] at hx
    subst hx
    exact ⟨h.high.2.2, fun cs t fr hh => absurd rfl (map_cells hbuf.2 hh)⟩
  · unfold putQ
    by_cases hxb : x = b
    · rw [if_pos hxb]
      exact Or.inr ⟨g, c', by rw [getL_put, if_pos hxb], hbs, hl, hbt⟩
    · rw [if_neg hxb]
      rcases hq x hx hx' with ⟨hg, hz⟩ | ⟨g2, c2, hg, hb2, hl2, cs, ht2⟩
      · exact Or.inl ⟨by rw [getL_put, if_neg hxb]; exact hg, hz⟩
      · exact Or.inr ⟨g2, c2, by rw [getL_put, if_neg hxb]; exact hg, hb2.chgT kc (hr ht2), hl2, cs, kc.heap ht2 (hr ht2)⟩
end Go.Proofs.YtnelakpdmjfolaaGreat
namespace Go.Proofs.YtnelakpdmjfolaaGreat
open Go.RowKit Go.Lib

/-- a bool is handed back. -/
def isB (e : Ending) : Prop := ∃ r : Bool, e = .returned (.bool r)
set_option maxRecDepth 100000 in
theorem imay_any (w : World) (b n : Int) : Calls Tryz.prog 186 #[.agg #[.int .i64 b, .int .i64 n]] w fun e w' => isB e ∧ Chg [] w w' := by
  have kc : Chg [] w (w.alloc (.cells #[.int .i64 b, .int .i64 n] 231)) := Chg.alloc w _
  by_cases h0 : 0 ≤ b
  · by_cases h1 : b ≤ 1048576
    · by_cases h2 : 1 ≤ n
      · by_cases h3 : n ≤ 1048576
        · have n0 : decide (0 ≤ b) = true := decide_eq_true h0
          have n1 : decide (b ≤ 1048576) = true := decide_eq_true h1
          have n2 : decide (1 ≤ n) = true := decide_eq_true h2
          have n3 : decide (n ≤ 1048576) = true := decide_eq_true h3
          go_enter Tryz.func186, Tryz.ntmps186
          go_wp2_with fail
          go_ret
          exact ⟨⟨_, rfl⟩, kc⟩
        · have n0 : decide (0 ≤ b) = true := decide_eq_true h0
          have n1 : decide (b ≤ 1048576) = true := decide_eq_true h1
          have n2 : decide (1 ≤ n) = true := decide_eq_true h2
          have n3 : decide (n ≤ 1048576) = false := decide_eq_false h3
          go_enter Tryz.func186, Tryz.ntmps186
          go_wp2_with fail
          go_ret
          exact ⟨⟨_, rfl⟩, kc⟩
      · have n0 : decide (0 ≤ b) = true := decide_eq_true h0
        have n1 : decide (b ≤ 1048576) = true := decide_eq_true h1
        have n2 : decide (1 ≤ n) = false := decide_eq_false h2
        go_enter Tryz.func186, Tryz.ntmps186
        go_wp2_with fail
        go_ret
        exact ⟨⟨_, rfl⟩, kc⟩
    · have n0 : decide (0 ≤ b) = true := decide_eq_true h0
      have n1 : decide (b ≤ 1048576) = false := decide_eq_false h1
      go_enter Tryz.func186, Tryz.ntmps186
      go_wp2_with fail
      go_ret
      exact ⟨⟨_, rfl⟩, kc⟩
  · have n0 : decide (0 ≤ b) = false := decide_eq_false h0
    go_enter Tryz.func186, Tryz.ntmps186
    go_wp2_with fail
    go_ret
    exact ⟨⟨_, rfl⟩, kc⟩
set_option maxRecDepth 100000 in
theorem inot_any (w : World) (b n : Int) : Calls Tryz.prog 185 #[.agg #[.int .i64 b, .int .i64 n]] w fun e w' => isB e ∧ Chg [] w w' := by
  have kc : Chg [] w (w.alloc (.cells #[.int .i64 b, .int .i64 n] 231)) := Chg.alloc w _
  go_enter Tryz.func185, Tryz.ntmps185
  go_wp2_with fail
  refine (imay_any _ b n).mono ?_
  rintro e w2 ⟨⟨r, rfl⟩, k2⟩
  cases r
  all_goals
    go_wp2_with fail
    go_ret
    exact ⟨⟨_, rfl⟩, kc.then k2⟩
theorem SpQ.get {w : World} {pa : Option Addr} {l : List (Int × Int)} (h : SpQ w pa l) (j : Nat) (hj : j < l.length) : ∃ b o, pa = some ⟨b, o, none⟩ ∧ w.cell? ⟨b, o + j * 2, none⟩ = some (.int .i64 l[j].1) ∧ w.cell? ⟨b, o + j * 2 + 1, none⟩ = some (.int .i64 l[j].2) := by
  rcases h with ⟨rfl, _⟩ | ⟨b, o, rfl, h⟩
  · simp at hj
  · have hc : ∀ (l : List (Int × Int)) (j : Nat) (hj : j < l.length), (spCells l)[j * 2]? = some (.int .i64 l[j].1) ∧ (spCells l)[j * 2 + 1]? = some (.int .i64 l[j].2) := by
      intro l
      induction l with
      | nil => intro j hj; simp at hj
      | cons p l ih =>
        intro j hj
        cases j with
        | zero => exact ⟨rfl, rfl⟩
        | succ j =>
          have := ih j (by simpa using hj)
          have e1 : (j + 1) * 2 = j * 2 + 1 + 1 := by omega
          have e2 : spCells (p :: l) = .int .i64 p.1 :: .int .i64 p.2 :: spCells l := rfl
          rw [e1, e2]
          simpa using this
    obtain ⟨h1, h2⟩ := hc l j hj
    exact ⟨b, o, rfl, h _ _ h1, by have := h _ _ h2; rwa [← Nat.add_assoc] at this⟩
set_option maxRecDepth 100000 in
set_option maxHeartbeats 1000000 in
theorem idxspan_any (w : World) {pa : Option Addr} {m c : Nat} {l : List (Int × Int)} (hl : l.length = m) (hm : m ≤ 1000) (hs : SpQ w pa l) : Calls Tryz.prog 194 #[.slice pa m c, .func (.func 185) #[] #[]] w fun e w' => ∃ i : Int, e = .returned (.int .i64 i) ∧ Chg [] w w' ∧ -1 ≤ i ∧ i ≤ 1000 := by
  have HS := Lib.hid hs
  clear hs
  go_enter Tryz.func194, Tryz.ntmps194
  go_wp2_with fail
  go_loopw [8] (fun i wr => ∃ j : Nat, j ≤ m ∧ i = .int .i64 j ∧ Chg [] w wr) (fun i _ => m - (intOf i).toNat)
  case atStart => exact ⟨0, by omega, rfl, Chg.refl _ _⟩
  case round =>
    obtain ⟨j, hj, rfl, kr⟩ := hrel
    by_cases hlt : j < m
    · obtain ⟨b, o, rfl, c0, c1⟩ := (HS.out.keep kr).get j (by omega)
      generalize (l[j]'(by omega)).1 = x at *
      generalize (l[j]'(by omega)).2 = y at *
      go_wp2_with fail
      refine (inot_any wr x y).mono ?_
      rintro e w2 ⟨⟨r, rfl⟩, k2⟩
      have k3 := kr.then k2
      cases r
      · go_wp2_with fail
        go_roundw
        case rel => exact ⟨j + 1, by omega, by simp, k3⟩
        case measure => simp [intOf]; omega
      · go_wp2_with fail
        go_ret
        exact ⟨_, rfl, k3, by omega, by omega⟩
    · obtain rfl : j = m := by omega
      go_wp2_with fail
      go_ret
      exact ⟨_, rfl, kr, by omega, by omega⟩
set_option maxRecDepth 100000 in
theorem contspan_any (w : World) {pa : Option Addr} {m c : Nat} {l : List (Int × Int)} (hl : l.length = m) (hm : m ≤ 1000) (hs : SpQ w pa l) : Calls Tryz.prog 184 #[.slice pa m c, .func (.func 185) #[] #[]] w fun e w' => isB e ∧ Chg [] w w' := by
  have HI := Lib.hid (idxspan_any w (c := c) hl hm hs)
  clear hs
  go_enter Tryz.func184, Tryz.ntmps184
  go_wp2_with fail
  refine HI.out.mono ?_
  rintro e w2 ⟨i, rfl, k, -, -⟩
  go_wp2_with fail
  go_ret
  exact ⟨⟨_, rfl⟩, k⟩
set_option maxRecDepth 100000 in
theorem iall_any (w : World) {pa : Option Addr} {m c : Nat} {l : List (Int × Int)} (hl : l.length = m) (hm : m ≤ 1000) (hs : SpQ w pa l) : Calls Tryz.prog 173 #[.slice pa m c] w fun e w' => isB e ∧ Chg [] w w' := by
  have HI := Lib.hid (contspan_any w (c := c) hl hm hs)
  clear hs
  go_enter Tryz.func173, Tryz.ntmps173
  go_wp2_with fail
  refine HI.out.mono ?_
  rintro e w2 ⟨⟨r, rfl⟩, k⟩
  go_wp2_with fail
  go_ret
  exact ⟨⟨_, rfl⟩, k⟩
/-- a set of at most n spans, of which it may hold 'most'; its row lies behind base. -/
def SpW (w : World) (base V : Nat) (most : Nat) (n : Nat) : Prop := ∃ v l, w.heap[V]? = some (.cells #[.int .i64 most, v] 227 (0, 0)) ∧ l.length ≤ n ∧ w.ownsRow base 231 2 v l.length (spCells l)
theorem SpV.to {w : World} {base V n : Nat} (h : SpV w base V n) : SpW w base V 64 n := h
theorem SpW.keep {w w' : World} {S : List Nat} {base V most n : Nat} (h : SpW w base V most n) (hc : Chg S w w') (hS : Av w S [231, 227]) : SpW w' base V most n := by
  obtain ⟨v, l, h1, h2, h3⟩ := h
  exact ⟨v, l, hc.heap h1 (hS.ne h1 (by simp)), h2, ownsRow_av h3 hc (fun x hx cs t fr hh ht => hS x hx cs t fr hh (by simp at ht; simp [ht]))⟩
theorem SpW.keep0 {w w' : World} {base V most n : Nat} (h : SpW w base V most n) (hc : Chg [] w w') : SpW w' base V most n := h.keep hc (Av.nil _ _)
set_option maxRecDepth 100000 in
set_option maxHeartbeats 2000000 in
theorem iadd_any (w : World) {base V most n m c0' : Nat} {pe : Option Addr} {l2 : List (Int × Int)} (h : SpW w base V most n) (hn : n + m ≤ 16) (hbase : base ≤ w.heap.size) (hl2 : l2.length = m) (hE : SpQ w pe l2) :
    Calls Tryz.prog 147 #[.pointer (some ⟨V, 0, none⟩), .slice pe m c0'] w fun e w' => ∃ r : Int, e = .returned (.int .i64 r) ∧ Chg [V] w w' ∧ SpW w' base V most (n + m) := by
  obtain ⟨v, l, hV, hl, ho⟩ := h
  obtain ⟨pa, c, rfl, hq⟩ := own_spq ho
  have v1 : w.cell? ⟨V, 1, none⟩ = some (.slice pa l.length c) := cell_is hV 1 rfl
  go_enter Tryz.func147, Tryz.ntmps147
  go_wp2_with fail
  refine (iall_any w (c := c0') hl2 (by omega) hE).mono ?_
  rintro e w1 ⟨⟨r, rfl⟩, k1⟩
  have v2 := k1.cell v1 (by simp)
  have hq2 := hq.keep k1
  have hE2 := hE.keep k1
  have hV2 := k1.heap hV (by simp)
  have ho2 := ownsRow_chg ho k1
  have H0 := Lib.hid (show SpW w1 base V most (n + m) from ⟨_, l, hV2, by omega, ho2⟩)
  clear v1 hV hq hE ho
  have k1V : Chg [V] w w1 := k1.mono (fun x hx _ => by cases hx)
  cases r
  · go_wp2_with fail
    go_ret
    exact ⟨_, rfl, k1V, H0.out⟩
  · by_cases hm : m = 0
    · subst hm
      go_wp2_with fail
      go_ret
      exact ⟨_, rfl, k1V, H0.out⟩
    · have hmi : ¬ (m : Int) = 0 := by omega
      go_wp2_with fail
      have kx : Chg [] w1 (w1.alloc (.cells #[.slice pa l.length c, .slice pe m c0'] 225)) := Chg.alloc _ _
      have x0 : (w1.alloc (.cells #[.slice pa l.length c, .slice pe m c0'] 225)).cell? ⟨w1.heap.size, 0, none⟩ = some (.slice pa l.length c) := cell_is (heap_new w1 _) 0 rfl
      have x1 : (w1.alloc (.cells #[.slice pa l.length c, .slice pe m c0'] 225)).cell? ⟨w1.heap.size, 1, none⟩ = some (.slice pe m c0') := cell_is (heap_new w1 _) 1 rfl
      refine (concat_two _ x0 x1 rfl hl2 (by omega) (by omega) (by omega) (hq2.keep kx) (hE2.keep kx)).mono ?_
      rintro e w2 ⟨v', rfl, k2, o2⟩
      obtain ⟨g, cap, cur, rfl, hgb, hgc, hgs, _, hgl⟩ := own_sp o2 (by omega)
      have k3 := (k1.then kx).then k2
      go_wp2_with fail
      refine (joined_any w2 hgl (by omega) (by omega) hgs).mono ?_
      rintro e w3 ⟨v3, k, l3, rfl, k4, hk, hl3, o3⟩
      have k5 := k3.then k4
      have hV3 : w3.heap[V]? = some (.cells #[.int .i64 most, .slice pa l.length c] 227 (0, 0)) := ((kx.then k2).then k4).heap hV2 (by simp)
      have c0 : w3.cell? ⟨V, 0, none⟩ = some (.int .i64 most) := cell_is hV3 0 rfl
      have c1 : w3.cell? ⟨V, 1, none⟩ = some (.slice pa l.length c) := cell_is hV3 1 rfl
      have f1 := unfrozen hV3 1
      obtain ⟨pq, cq, hv3, hcq⟩ := own_form o3
      subst hv3
      have hsz := k3.size
      have HF := Lib.hid (show SpW (w3.setCell ⟨V, 1, none⟩ (.slice pq k cq)) base V most (n + m) from by
        refine ⟨_, l3, heap_set hV3 1 _ rfl, by omega, ?_⟩
        have kk := Chg.set w3 V 1 (.slice pq k cq)
        refine ownsRow_base (base := w2.heap.size) ?_ (by omega)
        rw [hl3]
        refine ownsRow_chg o3 kk ?_
        intro x hx
        have := heap_lt hV2
        have := (kx.then k2).size
        simp at hx
        omega)
      have HN := Lib.hid (show SpW w3 base V most (n + m) from ⟨_, l, hV3, by omega, ownsRow_chg ho2 ((kx.then k2).then k4)⟩)
      have k5V : Chg [V] w w3 := k5.mono (fun x hx _ => by cases hx)
      clear k3 k4 o3 hV3 hV2 x0 x1 hgs hgc o2 hq2 hE2 ho2 H0
      by_cases hcmp : (k : Int) > most
      · go_wp2_with fail
        go_ret
        exact ⟨_, rfl, k5V, HN.out⟩
      · go_wp2_with fail
        go_ret
        exact ⟨_, rfl, k5V.then (Chg.set w3 V 1 _), HF.out⟩
end Go.Proofs.YtnelakpdmjfolaaGreat
namespace Go.Proofs.YtnelakpdmjfolaaGreat
open Go.RowKit Go.Lib

/-- versions (a time, a block's bytes) in an own row, the eldest first. -/
def VRow (w : World) (lo : Nat) (v : Value) (l : List (Int × List UInt8)) : Prop :=
  ∃ xs, w.ownsRow lo 196 2 v l.length xs ∧ ∀ i (h : i < l.length), xs[i * 2]? = some (.int .i64 l[i].1) ∧ ∃ g c, xs[i * 2 + 1]? = some (.slice (some ⟨g, 0, none⟩) 40 c) ∧ Bs w (some ⟨g, 0, none⟩) l[i].2 ∧ l[i].2.length = 40 ∧ Bt w g
/-- block X is a map of versions of 258 blocks, block rx holds its entries; vs b are the versions of block b. -/
structure VerG (w : World) (lo X rx : Nat) (last : Int) (L : List (Int × Value)) (vs : Int → List (Int × List UInt8)) : Prop where
  x : w.heap[X]? = some (.cells #[.int .i64 258, .map (some rx), .int .i64 last] 186 (0, 0))
  m : MapAt w rx L
  row : ∀ b, 0 ≤ b → b < 258 → (getL L b = none ∧ vs b = []) ∨ ∃ v, getL L b = some v ∧ VRow w lo v (vs b) ∧ vs b ≠ []
  small : ∀ b, (vs b).length ≤ 1000000
theorem VRow.keep {w w' : World} {T : List Nat} {lo : Nat} {v : Value} {l : List (Int × List UInt8)} (h : VRow w lo v l) (hc : Chg T w w') (hT : Av w T [5]) (hv : ∀ g, v.ownBlock = some g → g ∉ T) : VRow w' lo v l := by
  obtain ⟨xs, ho, hx⟩ := h
  refine ⟨xs, ?_, fun i hi => ?_⟩
  · refine ⟨ho.1, ?_⟩
    rcases ho.2 with hn | ⟨g, cap, cur, rfl, hb, hg, rest⟩
    · exact Or.inl hn
    · exact Or.inr ⟨g, cap, cur, rfl, hb, hc.heap hg (hv g rfl), rest⟩
  · obtain ⟨h0, g, c, h1, h2, h3, cs, h4⟩ := hx i hi
    have hg : g ∉ T := hT.ne h4 (by simp)
    exact ⟨h0, g, c, h1, h2.chgT hc hg, h3, cs, hc.heap h4 hg⟩
theorem VRow.block {w : World} {lo : Nat} {v : Value} {l : List (Int × List UInt8)} (h : VRow w lo v l) : ∀ g, v.ownBlock = some g → ∃ cs, w.heap[g]? = some (.cells cs 196 (0, 0)) := by
  intro g hg
  obtain ⟨xs, ho, -⟩ := h
  exact (own_elem ho hg).2
theorem VerG.keepA {w w' : World} {T : List Nat} {lo X rx : Nat} {last : Int} {L : List (Int × Value)} {vs : Int → List (Int × List UInt8)} (h : VerG w lo X rx last L vs) (hc : Chg T w w') (hT : Av w T [186, 196, 5]) (hm : rx ∉ T) : VerG w' lo X rx last L vs := by
  refine ⟨hc.heap h.x (hT.ne h.x (by simp)), h.m.keep hc hm, fun b h0 h1 => ?_, h.small⟩
  rcases h.row b h0 h1 with hn | ⟨v, h2, h3, h4⟩
  · exact Or.inl hn
  · refine Or.inr ⟨v, h2, h3.keep hc (fun x hx cs t fr hh ht => hT x hx cs t fr hh (by simp at ht; simp [ht])) (fun g hg => ?_), h4⟩
    obtain ⟨cs, hb⟩ := h3.block g hg
    exact hT.ne hb (by simp)
theorem VerG.keep {w w' : World} {lo X rx : Nat} {last : Int} {L : List (Int × Value)} {vs : Int → List (Int × List UInt8)} (h : VerG w lo X rx last L vs) (hc : Chg [] w w') : VerG w' lo X rx last L vs := h.keepA hc (Av.nil _ _) (by simp)
theorem VerAt.full {w : World} {X rx : Nat} (h : VerAt w X rx) (lo : Nat) : VerG w lo X rx 0 [] (fun _ => []) := ⟨h.1, h.2, fun _ _ _ => Or.inl ⟨rfl, rfl⟩, fun _ => by simp⟩
/-- the newest version that is not above a time. -/
def verT (l : List (Int × List UInt8)) (t : Int) : Option (Int × List UInt8) := l.reverse.find? (fun p => decide (p.1 ≤ t))
/-- a block's bytes at a time. -/
def bytT (l : List (Int × List UInt8)) (t : Int) : List UInt8 := ((verT l t).map Prod.snd).getD zeroB
set_option maxRecDepth 100000 in
theorem gblocks_any (w : World) {lo X rx : Nat} {last : Int} {L : List (Int × Value)} {vs : Int → List (Int × List UInt8)} (h : VerG w lo X rx last L vs) : Calls Tryz.prog 79 #[.pointer (some ⟨X, 0, none⟩)] w fun e w' => e = .returned (.int .i64 258) ∧ w = w' := by
  have c0 : w.cell? ⟨X, 0, none⟩ = some (.int .i64 258) := cell_is h.x 0 rfl
  clear h
  go_enter Tryz.func79, Tryz.ntmps79
  go_wp2_with fail
  go_ret
  exact ⟨rfl, rfl⟩
set_option maxRecDepth 100000 in
theorem gblock_any (w : World) {lo X rx : Nat} {last : Int} {L : List (Int × Value)} {vs : Int → List (Int × List UInt8)} {b : Int} (h : VerG w lo X rx last L vs) (h0 : 0 ≤ b) (h1 : b < 258) : Calls Tryz.prog 112 #[.pointer (some ⟨X, 0, none⟩), .int .i64 b] w fun e w' => e = .returned (.bool true) ∧ w = w' := by
  have HB := Lib.hid (gblocks_any w h)
  clear h
  go_enter Tryz.func112, Tryz.ntmps112
  go_wp2_with fail
  refine HB.out.mono ?_
  rintro e w1 ⟨rfl, rfl⟩
  go_wp2_with fail
  go_ret
  exact ⟨by simp, rfl⟩
theorem lookup258g {w : World} {r : Nat} {L : List (Int × Value)} (hM : MapAt w r L) (k : Int) :
    (Instr.lookup 184 (.map (some r)) (.int .i64 k) false).run Tryz.prog w = .ok ((getL L k).getD (.slice none 0 0)) w := lookup258 hM k false
set_option maxRecDepth 100000 in
set_option maxHeartbeats 1000000 in
theorem gat_any (w : World) {lo X rx : Nat} {last : Int} {L : List (Int × Value)} {vs : Int → List (Int × List UInt8)} {b t : Int} (h : VerG w lo X rx last L vs) (h0 : 0 ≤ b) (h1 : b < 258) : Calls Tryz.prog 132 #[.pointer (some ⟨X, 0, none⟩), .int .i64 b, .int .i64 t] w fun e w' =>
    w = w' ∧ ((e = .returned (.int .i64 (-1)) ∧ verT (vs b) t = none) ∨ ∃ k : Nat, e = .returned (.int .i64 k) ∧ ∃ hk : k < (vs b).length, verT (vs b) t = some (vs b)[k]) := by
  have c1 : w.cell? ⟨X, 1, none⟩ = some (.map (some rx)) := cell_is h.x 1 rfl
  have hl := lookup258g h.m b
  have hrow : ∃ pa c xs, (getL L b).getD (.slice none 0 0) = .slice pa (vs b).length c ∧ (vs b).length ≤ c ∧ w.ownsRow lo 196 2 (.slice pa (vs b).length c) (vs b).length xs ∧ ∀ i (h : i < (vs b).length), xs[i * 2]? = some (.int .i64 (vs b)[i].1) := by
    rcases h.row b h0 h1 with ⟨e1, e2⟩ | ⟨v, e1, ⟨xs, ho, hx⟩, -⟩
    · rw [e1, e2]
      exact ⟨none, 0, [], rfl, Nat.le_refl _, World.ownsRow_nil _ _ _ _, fun i h => by simp at h⟩
    · obtain ⟨pa, c, rfl, hc⟩ := own_form ho
      rw [e1]
      exact ⟨pa, c, xs, rfl, hc, ho, fun i hi => (hx i hi).1⟩
  have hsm := h.small b
  obtain ⟨pa, c, xs, e1, hcap, ho, hx⟩ := hrow
  rw [e1] at hl
  clear h e1
  have HO := Lib.hid ho
  have HX := Lib.hid hx
  clear ho hx
  generalize vs b = l at *
  go_enter Tryz.func132, Tryz.ntmps132
  go_wp2_with fail
  go_step3
  go_wp2_with fail
  go_step3
  go_wp2_with fail
  go_loop [8] (fun i => ∃ k : Nat, k ≤ l.length ∧ i = .int .i64 ((k : Int) - 1) ∧ verT (l.take k) t = verT l t) (fun i => (intOf i + 1).toNat)
  case atStart => exact ⟨l.length, Nat.le_refl _, rfl, by rw [List.take_length]⟩
  case round =>
    obtain ⟨k, hk, rfl, hv⟩ := hrel
    by_cases hk0 : k = 0
    · subst hk0
      have e1 : ((0 : Nat) : Int) - 1 = -1 := rfl
      rw [e1]
      go_wp2_with fail
      go_ret
      exact ⟨rfl, Or.inl ⟨rfl, by rw [← hv]; rfl⟩⟩
    · obtain ⟨j, rfl⟩ : ∃ j, k = j + 1 := ⟨k - 1, by omega⟩
      have hj : j < l.length := by omega
      have e1 : ((j + 1 : Nat) : Int) - 1 = j := by omega
      rw [e1]
      have hkn : ¬ l.length = 0 := by omega
      obtain ⟨g, cap, cur, hcur, hpa, hcells⟩ : ∃ g cap cur, w.heap[g]? = some (.cells cur 196 (0, 0)) ∧ Value.slice pa l.length c = .slice (some ⟨g, 0, none⟩) l.length cap ∧ w.cell? ⟨g, j * 2, none⟩ = some (.int .i64 l[j].1) := by
        rcases HO.out.2 with ⟨_, h0⟩ | ⟨g, cap, cur, e, hA, hg, hc1, hc2, hc3, ht⟩
        · exact absurd h0 hkn
        · refine ⟨g, cap, cur, hg, e, cell_is hg (j * 2) ?_⟩
          have h1 := HX.out j hj
          rw [← ht] at h1
          rw [List.getElem?_take_of_lt (by omega), Array.getElem?_toList] at h1
          exact h1
      cases hpa
      have hs : verT (l.take (j + 1)) t = if l[j].1 ≤ t then some l[j] else verT (l.take j) t := by
        unfold verT
        rw [List.take_succ_eq_append_getElem hj, List.reverse_append]
        by_cases hle : l[j].1 ≤ t
        · simp [hle]
        · simp [hle]
      rw [hv] at hs
      have HS := Lib.hid hs
      clear hs hv
      by_cases hle : l[j].1 ≤ t
      · have e2 : decide (l[j].1 ≤ t) = true := decide_eq_true hle
        have HR := Lib.hid (show verT l t = some l[j] by rw [HS.out, if_pos hle])
        clear hle HS
        generalize hlj : l[j].1 = tj at *
        go_wp2_with fail
        go_ret
        exact ⟨rfl, Or.inr ⟨j, rfl, hj, HR.out⟩⟩
      · have e2 : decide (l[j].1 ≤ t) = false := decide_eq_false hle
        have HR := Lib.hid (show verT l t = verT (l.take j) t by rw [HS.out, if_neg hle])
        clear hle HS
        generalize hlj : l[j].1 = tj at *
        go_wp2_with fail
        go_round
        case rel => exact ⟨j, by omega, by simp, HR.out.symm⟩
        case measure => simp [intOf]
/-- one version, at its place. -/
theorem VRow.get {w : World} {lo : Nat} {v : Value} {l : List (Int × List UInt8)} (h : VRow w lo v l) (k : Nat) (hk : k < l.length) : ∃ g cap gd cd, v = .slice (some ⟨g, 0, none⟩) l.length cap ∧ l.length ≤ cap ∧
    w.cell? ⟨g, k * 2, none⟩ = some (.int .i64 l[k].1) ∧ w.cell? ⟨g, k * 2 + 1, none⟩ = some (.slice (some ⟨gd, 0, none⟩) 40 cd) ∧ Bs w (some ⟨gd, 0, none⟩) l[k].2 ∧ l[k].2.length = 40 ∧ Bt w gd := by
  obtain ⟨xs, ho, hx⟩ := h
  obtain ⟨h0, gd, cd, h1, h2, h3, h4⟩ := hx k hk
  rcases ho.2 with ⟨_, e⟩ | ⟨g, cap, cur, rfl, hA, hg, hc1, hc2, hc3, ht⟩
  · omega
  · refine ⟨g, cap, gd, cd, rfl, hc1, cell_is hg _ ?_, cell_is hg _ ?_, h2, h3, h4⟩
    · rw [← ht, List.getElem?_take_of_lt (by omega), Array.getElem?_toList] at h0
      exact h0
    · rw [← ht, List.getElem?_take_of_lt (by omega), Array.getElem?_toList] at h1
      exact h1
end Go.Proofs.YtnelakpdmjfolaaGreat
namespace Go.Proofs.YtnelakpdmjfolaaGreat
open Go.RowKit Go.Lib

/-- block Q is a view of a time t. -/
def ViewT (w : World) (Q X W V : Nat) (t : Int) (v : Value) : Prop := w.heap[Q]? = some (.cells #[.pointer (some ⟨X, 0, none⟩), .pointer (some ⟨W, 0, none⟩), .int .i64 t, .pointer (some ⟨V, 0, none⟩), v] 204 (0, 0))
/-- .. with at most n reads in a row behind base. -/
def VwT (w : World) (base Q X W V : Nat) (t : Int) (n : Nat) : Prop := ∃ s m xs, ViewT w Q X W V t s ∧ m ≤ n + 100000 ∧ w.ownsRow base 301 3 s m xs
theorem VwT.keep {w w' : World} {S : List Nat} {base Q X W V n : Nat} {t : Int} (h : VwT w base Q X W V t n) (hc : Chg S w w') (hS : Av w S [204, 301]) : VwT w' base Q X W V t n := by
  obtain ⟨s, m, xs, h1, h2, h3⟩ := h
  refine ⟨s, m, xs, hc.heap h1 (hS.ne h1 (by simp)), h2, h3.1, ?_⟩
  rcases h3.2 with hn | ⟨g, cap, cur, hv, hb, hg, rest⟩
  · exact Or.inl hn
  · exact Or.inr ⟨g, cap, cur, hv, hb, hc.heap hg (hS.ne hg (by simp)), rest⟩
theorem Vw.full {w : World} {base Q X W V n : Nat} (h : Vw w base Q X W V n) : VwT w base Q X W V 0 n := by
  obtain ⟨s, m, xs, h1, h2, h3⟩ := h
  exact ⟨s, m, xs, h1, by omega, h3⟩
/-- a block's bytes: one's own write, or what the versions have at a time. -/
def BlkT (w : World) (L : List (Int × Value)) (vb : List (Int × List UInt8)) (t b : Int) (l : List UInt8) : Prop := (getL L b = none ∧ l = bytT vb t) ∨ ∃ g c, getL L b = some (.slice (some ⟨g, 0, none⟩) 40 c) ∧ Bs w (some ⟨g, 0, none⟩) l ∧ l.length = 40 ∧ Bt w g
theorem BlkT.keepT {w w' : World} {T : List Nat} {base : Nat} {L : List (Int × Value)} {vb : List (Int × List UInt8)} {t b : Int} {l : List UInt8} (h : BlkT w L vb t b l) (hc : Chg T w w') (hT : Rt w base T) : BlkT w' L vb t b l := by
  rcases h with h | ⟨g, c, h1, h2, h3, cs, hcs⟩
  · exact Or.inl h
  · have hg := hT.cells hcs (by simp)
    exact Or.inr ⟨g, c, h1, h2.chgT hc hg, h3, cs, hc.heap hcs hg⟩
theorem BlkT.keep {w w' : World} {L : List (Int × Value)} {vb : List (Int × List UInt8)} {t b : Int} {l : List UInt8} (h : BlkT w L vb t b l) (hc : Chg [] w w') : BlkT w' L vb t b l := h.keepT hc (Rt.nil w 0)
/-- what stands behind a Read's last store. -/
theorem gread_end {w wb wc w5 : World} {base Q X W V n m g g5 cp5 : Nat} {t : Int} {s : Value} {xs : List Value} {ys : List Value} {l : List UInt8} {Cb : Array Value} (HRt : Rt w base (V :: Q :: s.ownBlock.toList)) (k9 : Chg [V] w wb) (ky : Chg [] wb wc) (hm : m ≤ n + 100000) (hB : Bs wb (some ⟨g, 0, none⟩) l)
    (gy : wc.heap[g]? = some (.cells Cb 5 (0, 0))) (hgn : g ∉ s.ownBlock.toList) (hgQ : Q ∉ [g]) (oy : wc.ownsRow base 301 3 s m xs) (qy : ViewT wc Q X W V t s) (hQn : Q ∉ s.ownBlock.toList) (sb : SpV wc base V (n + 1))
    (o5 : w5.ownsRow base 301 3 (.slice (some ⟨g5, 0, none⟩) (m + 1) cp5) (m + 1) ys) (k5 : Chg s.ownBlock.toList wc w5) :
    ∃ T, Chg T w (w5.setCell ⟨Q, 4, none⟩ (.slice (some ⟨g5, 0, none⟩) (m + 1) cp5)) ∧ Rt w base T ∧ Bs (w5.setCell ⟨Q, 4, none⟩ (.slice (some ⟨g5, 0, none⟩) (m + 1) cp5)) (some ⟨g, 0, none⟩) l ∧ VwT (w5.setCell ⟨Q, 4, none⟩ (.slice (some ⟨g5, 0, none⟩) (m + 1) cp5)) base Q X W V t (n + 1) ∧ SpV (w5.setCell ⟨Q, 4, none⟩ (.slice (some ⟨g5, 0, none⟩) (m + 1) cp5)) base V (n + 1) := by
  have q5 := k5.heap qy hQn
  have g5h := k5.heap gy hgn
  have kS := Chg.set w5 Q 4 (.slice (some ⟨g5, 0, none⟩) (m + 1) cp5)
  have hgQ' : g ∉ [Q] := by simpa using (fun e => hgQ (by simp [e]))
  have hav : Av wc s.ownBlock.toList [231, 227] := by
    intro x hx cs t fr hh
    rcases oy.2 with ⟨rfl, _⟩ | ⟨k, cap, cur, rfl, hb, hk, rest⟩
    · simp [Value.ownBlock] at hx
    · simp [Value.ownBlock] at hx
      subst hx
      rw [hk] at hh
      cases hh
      simp
  have hq1 : Av w5 [Q] [231, 227] := fun x hx cs t fr hh => by
    rw [List.mem_singleton] at hx; subst hx; rw [q5] at hh; cases hh; simp
  have hq2 : Av w5 [Q] [301] := fun x hx cs t fr hh => by
    rw [List.mem_singleton] at hx; subst hx; rw [q5] at hh; cases hh; simp
  refine ⟨V :: Q :: s.ownBlock.toList, ?_, HRt, ((hB.chg ky).chgT k5 hgn).chgT kS hgQ', ⟨_, m + 1, ys, heap_set q5 4 _ rfl, by omega, ownsRow_av o5 kS hq2⟩, (sb.keep k5 hav).keep kS hq1⟩
  refine (((k9.mono ?_).then (ky.mono ?_)).then (k5.mono ?_)).then (kS.mono ?_)
  · intro x hx _; simp at hx; simp [hx]
  · intro x hx _; cases hx
  · intro x hx _; simp only [List.mem_cons]; exact Or.inr (Or.inr hx)
  · intro x hx _; simp at hx; simp [hx]
end Go.Proofs.YtnelakpdmjfolaaGreat
namespace Go.Proofs.YtnelakpdmjfolaaGreat
open Go.RowKit Go.Lib

set_option maxRecDepth 100000 in
theorem inewm_any (w : World) (k : Nat) : Calls Tryz.prog 120 #[.int .i64 k] w fun e w' => ∃ V, e = .returned (.pointer (some ⟨V, 0, none⟩)) ∧ Chg [] w w' ∧ SpW w' w.heap.size V k 0 ∧ w.heap.size ≤ V := by
  have h1 := heap_new w (.cells #[.int .i64 k, .slice none 0 0] 227)
  have hc : Chg [] w (w.alloc (.cells #[.int .i64 k, .slice none 0 0] 227)) := Chg.alloc w _
  go_enter Tryz.func120, Tryz.ntmps120
  go_wp2_with fail
  go_ret
  exact ⟨_, rfl, hc, ⟨_, [], h1, Nat.le_refl _, World.ownsRow_nil _ _ _ _⟩, Nat.le_refl _⟩
set_option maxRecDepth 100000 in
set_option maxHeartbeats 1000000 in
theorem clonesp_any (w : World) {pa : Option Addr} {m c : Nat} {l : List (Int × Int)} (hl : l.length = m) (hm : m ≤ 1000) (hs : SpQ w pa l) (hn0 : pa = none → m = 0 ∧ c = 0) : Calls Tryz.prog 170 #[.slice pa m c] w fun e w' => ∃ pb cb, e = .returned (.slice pb m cb) ∧ Chg [] w w' ∧ SpQ w' pb l := by
  rcases hs with ⟨rfl, rfl⟩ | ⟨b, o, rfl, hs⟩
  · obtain ⟨rfl, rfl⟩ := hn0 rfl
    have hq : ∀ w, (binOp .eql 225 (.slice none 0 0) (.slice none 0 0)).run Tryz.prog w = .ok (.bool true) w := fun w => by kernel_rfl
    go_enter Tryz.func170, Tryz.ntmps170
    go_wp2_with fail
    go_ret
    first | exact ⟨none, 0, rfl, Chg.refl _ _, Or.inl ⟨rfl, rfl⟩⟩ | exact ⟨none, ⟨0, rfl⟩, Chg.refl _ _, Or.inl ⟨rfl, rfl⟩⟩ | exact ⟨Chg.refl _ _, Or.inl ⟨rfl, rfl⟩⟩
  · have hq : ∀ w, (binOp .eql 225 (.slice (some ⟨b, o, none⟩) m c) (.slice none 0 0)).run Tryz.prog w = .ok (.bool false) w := fun w => Lib.run_eql_slice_nil w 225 231 _ _ _ 0 0 ty217
    have HB := Lib.hid (show SpQ w (some ⟨b, o, none⟩) l from Or.inr ⟨b, o, rfl, hs⟩)
    have HL := Lib.hid hl
    clear hs hl
    go_enter Tryz.func170, Tryz.ntmps170
    go_wp2_with (first | (at_builtin; refine wpList_append_spq rfl (.tmp 5) (.tmp 6) rfl w.heap.size _ 0 [] l rfl (own_empty2 w) (some ⟨b, o, none⟩) m c rfl HL.out (HB.out.keep (Chg.alloc w _)) (by omega) (by simp) ?_; intro v1 w1 h1))
    go_ret
    have h2 : w1.ownsRow w.heap.size 231 2 v1 l.length (spCells l) := by simpa [HL.out] using h1.1
    obtain ⟨pb, cb, rfl, hq⟩ := own_spq h2
    exact ⟨pb, cb, by show Ending.returned (.slice pb l.length cb) = _; rw [HL.out], Chg.of_below ((Below.of_alloc w _).trans h1.2.1), hq⟩
set_option maxRecDepth 100000 in
theorem extents_any (w : World) {base V most n : Nat} (h : SpW w base V most n) (hn : n ≤ 1000) : Calls Tryz.prog 144 #[.pointer (some ⟨V, 0, none⟩)] w fun e w' => ∃ pb m cb l, e = .returned (.slice pb m cb) ∧ Chg [] w w' ∧ SpQ w' pb l ∧ l.length = m ∧ m ≤ n := by
  obtain ⟨v, l, hV, hl, ho⟩ := h
  obtain ⟨pa, c, rfl, hq⟩ := own_spq ho
  have v1 : w.cell? ⟨V, 1, none⟩ = some (.slice pa l.length c) := cell_is hV 1 rfl
  have h0 : pa = none → l.length = 0 ∧ c = 0 := by
    rintro rfl
    rcases ho.2 with ⟨e, h0⟩ | ⟨g, cap, cur, e, _⟩
    · injection e with _ _ e3; exact ⟨h0, e3⟩
    · injection e with e1; cases e1
  have HC := Lib.hid (clonesp_any w (c := c) rfl (by omega) hq h0)
  clear hV ho hq h0
  go_enter Tryz.func144, Tryz.ntmps144
  go_wp2_with fail
  refine HC.out.mono ?_
  rintro e w1 ⟨pb, cb, rfl, k, hq⟩
  go_wp2_with fail
  go_ret
  exact ⟨pb, l.length, cb, l, rfl, k, hq, rfl, hl⟩
/-- an int is handed back. -/
def isI (e : Ending) : Prop := ∃ r : Int, e = .returned (.int .i64 r)
set_option maxRecDepth 100000 in
set_option maxHeartbeats 1000000 in
theorem count_any (w : World) {base V most n : Nat} (h : SpW w base V most n) (hn : n ≤ 1000) : Calls Tryz.prog 143 #[.pointer (some ⟨V, 0, none⟩)] w fun e w' => isI e ∧ Chg [] w w' := by
  have HE := Lib.hid (extents_any w h hn)
  clear h
  go_enter Tryz.func143, Tryz.ntmps143
  go_wp2_with fail
  refine HE.out.mono ?_
  rintro e w1 ⟨pb, m, cb, l, rfl, k1, hq, hl, hm⟩
  have HQ := Lib.hid hq
  clear hq
  go_wp2_with fail
  go_loopw [2, 4, 8] (fun s _ i wr => ∃ (j : Nat) (r : Int), j ≤ m ∧ i = .int .i64 j ∧ s = .int .i64 r ∧ Chg [] w1 wr) (fun _ _ i _ => m - (intOf i).toNat)
  case atStart => exact ⟨0, 0, by omega, rfl, rfl, Chg.refl _ _⟩
  case round =>
    obtain ⟨j, r, hj, rfl, rfl, kr⟩ := hrel
    by_cases hlt : j < m
    · obtain ⟨b, o, rfl, c0, c1⟩ := (HQ.out.keep kr).get j (by omega)
      generalize (l[j]'(by omega)).1 = x at *
      generalize (l[j]'(by omega)).2 = y at *
      go_wp2_with fail
      go_roundw
      case rel => exact ⟨j + 1, _, by omega, by simp, rfl, kr.then_alloc _⟩
      case measure => simp [intOf]; omega
    · obtain rfl : j = m := by omega
      go_wp2_with fail
      go_ret
      exact ⟨⟨_, rfl⟩, k1.then kr⟩
set_option maxRecDepth 100000 in
set_option maxHeartbeats 1000000 in
theorem vset_any (w : World) {base Q X W V n : Nat} {t : Int} (h : VwT w base Q X W V t n) (hs : SpV w base V n) (hn : n ≤ 16) : Calls Tryz.prog 127 #[.pointer (some ⟨Q, 0, none⟩)] w fun e w' => ∃ U lo, e = .returned (.pointer (some ⟨U, 0, none⟩)) ∧ Chg [] w w' ∧ SpW w' lo U 64 n ∧ w.heap.size ≤ U := by
  obtain ⟨s, m, xs, hq, -, -⟩ := h
  have HN := Lib.hid (inewm_any w 64)
  have hsz := heap_lt hq
  have HQ := Lib.hid hq
  have HS := Lib.hid hs.to
  clear hq hs
  go_enter Tryz.func127, Tryz.ntmps127
  go_wp2_with fail
  refine HN.out.mono ?_
  rintro e w1 ⟨U, rfl, k1, hU, lU⟩
  have q3 : w1.cell? ⟨Q, 3, none⟩ = some (.pointer (some ⟨V, 0, none⟩)) := cell_is (k1.heap HQ.out (by simp)) 3 rfl
  have hs1 := HS.out.keep0 k1
  have HU := Lib.hid hU
  clear hU
  go_wp2_with fail
  refine (extents_any w1 hs1 (by omega)).mono ?_
  rintro e w2 ⟨pb, m2, cb, l, rfl, k2, hq2, hl2, hm2⟩
  have hU2 := HU.out.keep0 k2
  go_wp2_with fail
  refine (iadd_any w2 (m := m2) hU2 (by omega) (by have := (k1.then k2).size; omega) hl2 hq2).mono ?_
  rintro e w3 ⟨r, rfl, k3, hU3⟩
  go_wp2_with fail
  go_ret
  refine ⟨U, w.heap.size, rfl, (k1.then k2).trans k3 (fun x hx hlt => by rw [List.mem_singleton] at hx; omega), ?_, lU⟩
  obtain ⟨v, l3, h1, h2, h3⟩ := hU3
  exact ⟨v, l3, h1, by omega, h3⟩
end Go.Proofs.YtnelakpdmjfolaaGreat
namespace Go.Proofs.YtnelakpdmjfolaaGreat
open Go.RowKit Go.Maps Go.Sort Go.Shelf

/-- a map without one key. -/
def delL : List (Int × Value) → Int → List (Int × Value)
  | [], _ => []
  | p :: l, k => if k = p.1 then l else p :: delL l k
theorem delL_none {L : List (Int × Value)} {k : Int} {i : Nat} (h : findL L k i = none) : delL L k = L := by
  induction L generalizing i with
  | nil => rfl
  | cons p l ih =>
    simp only [findL] at h
    split at h
    · cases h
    · rename_i hk
      simp only [delL, if_neg hk, ih h]
theorem delL_some {L : List (Int × Value)} {k : Int} {i : Nat} {x : Nat × Value} (h : findL L k i = some x) : delL L k = L.eraseIdx (x.1 - i) := by
  induction L generalizing i with
  | nil => cases h
  | cons p l ih =>
    simp only [findL] at h
    split at h
    · rename_i hk
      injection h with h
      subst h
      simp [delL, hk]
    · rename_i hk
      have h2 := findL_ge h
      have e : x.1 - i = (x.1 - (i + 1)) + 1 := by omega
      rw [e]
      simp only [delL, if_neg hk, ih h, List.eraseIdx_cons_succ]
theorem erase_map {α β : Type} (f : α → β) (l : List α) (i : Nat) : (l.eraseIdx i).map f = (l.map f).eraseIdx i := by
  induction l generalizing i with
  | nil => rfl
  | cons a l ih =>
    cases i with
    | zero => rfl
    | succ i => simp [ih]
theorem run_delete_im {P : Program} {w : World} {mty kt et : TypeId} (hm : P.underlying mty = some (.map kt et)) (hk : P.underlying kt = some (.int .i64)) {r : Nat} {L : List (Int × Value)} (hM : MapAt w r L) (k : Int) (ty : TypeId) :
    ∃ w', (Builtin.delete_ #[mty, kt] ty #[.map (some r), .int .i64 k]).run P w = .ok (.tuple #[]) w' ∧ MapAt w' r (delL L k) ∧ Chg [r] w w' ∧ w'.heap.size = w.heap.size := by
  obtain ⟨es, clock, hb, hI, hS⟩ := hM
  have hf := findNow_im .i64 k es.toList L hI 0
  have hc : ∀ e, (Instr.checkKey e 10000 kt (.int .i64 k)).run P w = .ok () w := fun e => MapKept.run_checkKey (k := .int .i64 k) hk (by simp [MapKept.IsKey]) e 9999
  cases hfl : findL L k 0 with
  | none =>
    rw [hfl] at hf
    refine ⟨mapSet w r (.map es clock), ?_, ⟨_, _, mapSet_heap hb, ?_, hS⟩, mapSet_chg _ _ _, by simp [mapSet]⟩
    · simp [Builtin.delete_, run_underlying hm, MapKept.run_getObj_map hb, hc, MapKept.run_findKey hk hf, MapKept.run_setObj_map _ hb, Result.andThen, mapSet]
    · rw [delL_none hfl]
      exact hI
  | some x =>
    rw [hfl] at hf
    obtain ⟨i, u⟩ := x
    refine ⟨mapSet w r (.map (es.eraseIdxIfInBounds i) clock), ?_, ⟨_, _, mapSet_heap hb, ?_, MapKept.stamped_erase hS i⟩, mapSet_chg _ _ _, by simp [mapSet]⟩
    · simp [Builtin.delete_, run_underlying hm, MapKept.run_getObj_map hb, hc, MapKept.run_findKey hk hf, MapKept.run_setObj_map _ hb, Result.andThen, mapSet]
    · rw [delL_some hfl]
      unfold IM at hI ⊢
      have e : (es.eraseIdxIfInBounds i).toList = es.toList.eraseIdx i := by
        unfold Array.eraseIdxIfInBounds
        split
        · simp
        · rename_i h
          rw [List.eraseIdx_of_length_le]
          simpa using h
      rw [e, Nat.sub_zero, erase_map, erase_map, hI]
/-- ints in order. -/
def sortI (l : List Int) : List Int := l.mergeSort (fun x y => decide (x ≤ y))
theorem sortI_perm (l : List Int) : (sortI l).Perm l := List.mergeSort_perm l _
theorem sortI_length (l : List Int) : (sortI l).length = l.length := (sortI_perm l).length_eq
theorem owns_any {w : World} {r : Nat} {L : List (Int × Value)} (h : MapAt w r L) (k : TypeId) (hk : Tryz.prog.underlying k = some (.int .i64)) (hw : ∀ p ∈ L, (Lit.int .i64 p.1).wf = true) (hl : L.length ≤ maxLen) :
    ∃ D : DataW Unit, w.ownsMap Tryz.prog k (fun _ => some (.nil, [])) r L.length D ∧ (intKeys D).Perm (L.map Prod.fst) ∧ Maps.size D = L.length := by
  obtain ⟨es, clock, hb, hI, hS⟩ := h
  have hrd : ∀ x ∈ es.toList, ∃ a : Int, Go.WideElems.rd Tryz.prog k (fun _ => some ((.nil : DataW Unit), [])) x = some (.int .i64 a, .nil) ∧ x.key = .int .i64 a := by
    intro x hx
    have h1 : (x.key, x.val) ∈ es.toList.map (fun e => (e.key, e.val)) := List.mem_map.2 ⟨x, hx, rfl⟩
    rw [hI] at h1
    obtain ⟨p, hp, e⟩ := List.mem_map.1 h1
    have e1 : x.key = .int .i64 p.1 := (congrArg Prod.fst e).symm
    refine ⟨p.1, ?_, e1⟩
    unfold Go.WideElems.rd
    rw [e1, Go.Maps.keyOf_int_mk hk (hw p hp)]
    rfl
  have hlen : es.size = L.length := by
    have := congrArg List.length hI
    simpa using this
  have hmap : (es.toList.map (Go.WideElems.rg Tryz.prog k (fun _ => some ((.nil : DataW Unit), [])))).map (fun p => Go.intOf p.1) = L.map Prod.fst := by
    have e1 : (es.toList.map (Go.WideElems.rg Tryz.prog k (fun _ => some ((.nil : DataW Unit), [])))).map (fun p => Go.intOf p.1) = es.toList.map (fun x => match x.key with | .int _ a => a | _ => 0) := by
      rw [List.map_map]
      refine List.map_congr_left (fun x hx => ?_)
      obtain ⟨a, h1, h2⟩ := hrd x hx
      simp only [Function.comp, Go.WideElems.rg, h1, Option.getD_some, h2]
      rfl
    have e2 : es.toList.map (fun x => match x.key with | .int _ a => a | _ => 0) = (es.toList.map (fun e => (e.key, e.val))).map (fun p => match p.1 with | .int _ a => a | _ => 0) := by
      rw [List.map_map]; rfl
    rw [e1, e2, hI, List.map_map]
    rfl
  refine ⟨.map ((es.toList.map (Go.WideElems.rg Tryz.prog k (fun _ => some (.nil, [])))).foldr DataW.insert []), ⟨es, clock, hb, ⟨by omega, hS, fun x hx => ?_⟩, by omega, rfl⟩, ?_, ?_⟩
  · obtain ⟨a, h1, _⟩ := hrd x hx
    exact ⟨_, h1⟩
  · rw [← hmap]
    exact (Go.WideShapes.sorted_perm _).map _
  · rw [Maps.size_eq, (Go.WideShapes.sorted_perm _).length_eq, List.length_map, Array.length_toList, hlen]
set_option maxRecDepth 100000 in
/-- slices.Sorted(maps.Keys(m)). -/
theorem sortedA_any (W : World) {r : Nat} {L : List (Int × Value)} (h : MapAt W r L) (hw : ∀ p ∈ L, (Lit.int .i64 p.1).wf = true) (hl : L.length ≤ 100000) :
    Calls Tryz.prog 75 #[.func (.func 117) #[] #[.pointer (some ⟨W.heap.size, 0, none⟩)]] (W.alloc (.cells #[.map (some r)] 87)) fun e w' => ∃ v, e = .returned v ∧ w'.ownsRow W.heap.size 3 1 v L.length ((sortI (L.map Prod.fst)).map encZ) ∧ Chg [] W w' := by
  obtain ⟨D, hown, hp, hsz⟩ := owns_any (h.keep (Chg.alloc (S := []) W (.cells #[.map (some r)] 87)) (by simp)) 3 (by kernel_rfl) hw (by unfold maxLen; omega)
  have hseq : SeqGives Fence.wide 2 Tryz.prog 117 #[.pointer (some ⟨W.heap.size, 0, none⟩)] encZ (fun ss => ss.Perm (intKeys D)) (Maps.size D) (W.alloc (.cells #[.map (some r)] 87)) :=
    AnyZI.keys_gives (ρ := Tryz.keysA_ren) { Tryz.keysA with } Fence.wide _ trivial rfl (by omega) W.heap.size r L.length D _ (by simp) (by simp) hown
  have cS := AnyZI.sorted_in Tryz.sortedA Fence.wide 5 trivial trivial trivial trivial rfl (by omega) (sorts_all _) (enters_of Tryz.func116 (by kernel_rfl) rfl) 117 #[.pointer (some ⟨W.heap.size, 0, none⟩)] trivial (enters_of Tryz.func117 (by kernel_rfl) rfl) _ (Maps.size D) (by rw [hsz]; unfold maxLen; omega) (by rw [hsz]; omega) _ hseq
  refine (callsIn_wide.1 cS).mono ?_
  rintro e w' ⟨v, ss, rfl, hS, hrow, hnil, hbl⟩
  have hs : ss.mergeSort (fun x y => decide (x ≤ y)) = sortI (L.map Prod.fst) := mergeSort_of_perm_i (hS.trans hp)
  have hsl : ss.length = L.length := by rw [(hS.trans hp).length_eq, List.length_map]
  rw [hs, hsl] at hrow
  exact ⟨v, rfl, own_base hrow (by simp), (Chg.alloc W _).then (Chg.of_below hbl)⟩
end Go.Proofs.YtnelakpdmjfolaaGreat
