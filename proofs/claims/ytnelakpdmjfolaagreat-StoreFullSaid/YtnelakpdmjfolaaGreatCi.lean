/- Lemmas and walks: Walks: a frame is read. Walks: the frames of one batch are read (batch.row). Walks: a batch of one transaction is checked, whose puts are only read. Printed by mkZd.py out of Wu and Wv. Walks: a batch is made of its Commit frame and its puts (batch.batch). Walks: a batch of one transaction is read (batch.Decode). Walks: no row of a log is strange (slices.ContainsFunc over store.strange); the log of some batches, in plain words. Walks: the batches of a log are taken in (store.replay). -/
import Derived.Test.YtnelakpdmjfolaaGreatCe
import Derived.Test.YtnelakpdmjfolaaGreatCf
import Derived.Test.YtnelakpdmjfolaaGreatCg
import Derived.Test.YtnelakpdmjfolaaGreatCh
namespace Go.Proofs.YtnelakpdmjfolaaGreat
open Go.RowKit Go.Lib

theorem cat_drop {α : Type} (a b : List α) {n : Nat} (h : a.length = n) : (a ++ b).drop n = b := by subst h; simp
theorem cat_take {α : Type} (a b : List α) {n : Nat} (h : a.length = n) : (a ++ b).take n = a := by subst h; simp
/-- where a frame's parts lie. -/
theorem encF_parts (kind epoch seq lba : Nat) (body : List UInt8) : ∃ rest, encF kind epoch seq lba body = [UInt8.ofNat kind, UInt8.ofNat body.length] ++ (leB epoch 4 ++ (leB seq 8 ++ (leB lba 4 ++ (body ++ rest)))) := by
  refine ⟨List.replicate (60 - (headF kind epoch seq lba body).length) 0 ++ leB (crcN (coverF kind epoch seq lba body)) 4, ?_⟩
  unfold encF coverF
  simp [headF, List.append_assoc]
theorem encF_2 (kind epoch seq lba : Nat) (body : List UInt8) : ((encF kind epoch seq lba body).drop 2).take 4 = leB epoch 4 := by
  obtain ⟨rest, h⟩ := encF_parts kind epoch seq lba body
  rw [h, cat_drop _ _ (two_len _ _), cat_take _ _ (leB_length _ _)]
theorem encF_6 (kind epoch seq lba : Nat) (body : List UInt8) : ((encF kind epoch seq lba body).drop 6).take 8 = leB seq 8 := by
  obtain ⟨rest, h⟩ := encF_parts kind epoch seq lba body
  rw [h, show 6 = 2 + 4 from rfl, ← List.drop_drop, cat_drop _ _ (two_len _ _), cat_drop _ _ (leB_length _ _), cat_take _ _ (leB_length _ _)]
theorem encF_14 (kind epoch seq lba : Nat) (body : List UInt8) : ((encF kind epoch seq lba body).drop 14).take 4 = leB lba 4 := by
  obtain ⟨rest, h⟩ := encF_parts kind epoch seq lba body
  rw [h, show 14 = 2 + 4 + 8 from rfl, ← List.drop_drop, ← List.drop_drop, cat_drop _ _ (two_len _ _), cat_drop _ _ (leB_length _ _), cat_drop _ _ (leB_length _ _), cat_take _ _ (leB_length _ _)]
theorem encF_18 (kind epoch seq lba : Nat) (body : List UInt8) {n : Nat} (hn : body.length = n) : ((encF kind epoch seq lba body).drop 18).take n = body := by
  obtain ⟨rest, h⟩ := encF_parts kind epoch seq lba body
  rw [h, show 18 = 2 + 4 + 8 + 4 from rfl, ← List.drop_drop, ← List.drop_drop, ← List.drop_drop, cat_drop _ _ (two_len _ _), cat_drop _ _ (leB_length _ _), cat_drop _ _ (leB_length _ _), cat_drop _ _ (leB_length _ _), cat_take _ _ hn]
theorem encF_0 (kind epoch seq lba : Nat) (body : List UInt8) : (encF kind epoch seq lba body)[0]? = some (UInt8.ofNat kind) ∧ (encF kind epoch seq lba body)[1]? = some (UInt8.ofNat body.length) := by
  obtain ⟨rest, h⟩ := encF_parts kind epoch seq lba body
  rw [h]
  exact ⟨rfl, rfl⟩
/-- what Decode leaves of a frame. -/
def DecR (w : World) (kind epoch seq lba n : Nat) (body : List UInt8) (e : Ending) (w' : World) : Prop :=
  ∃ g c', e = .returned (.tuple #[.agg #[.int .i64 kind, .int .i64 epoch, .int .i64 seq, .int .i64 lba, .slice (some ⟨g, 0, none⟩) n c'], .int .i64 0]) ∧ Chg [] w w' ∧ Bs w' (some ⟨g, 0, none⟩) body ∧ Bt w' g ∧ w.heap.size ≤ g ∧ n ≤ c'
set_option maxRecDepth 100000 in
set_option maxHeartbeats 4000000 in
theorem fdecode_ok (w : World) {D o c kind epoch seq lba n : Nat} {body : List UInt8} (hB : Bs w (some ⟨D, o, none⟩) (encF kind epoch seq lba body)) (h1 : 1 ≤ kind) (h2 : kind ≤ 4) (h3 : epoch < 4294967296) (h4 : seq ≤ 1099511627776) (h5 : lba ≤ 1048576) (hn : body.length = n) (hn0 : 0 ≤ n) (h6 : n ≤ 40) (hc : 64 ≤ c) :
    Calls Tryz.prog 104 #[.slice (some ⟨D, o, none⟩) 64 c] w (DecR w kind epoch seq lba n body) := by
  have hlen : (encF kind epoch seq lba body).length = 64 := encF_length _ _ _ _ _ (by omega)
  have hp := encF_0 kind epoch seq lba body
  have ek : (UInt8.ofNat kind).toNat = kind := by simp; omega
  have en : (UInt8.ofNat body.length).toNat = n := by simp; omega
  have d0 : w.cell? ⟨D, o, none⟩ = some (.int .u8 kind) := by
    have := hB.at_ 0 (by omega)
    rw [show (encF kind epoch seq lba body)[0]'(by omega) = UInt8.ofNat kind from by have := hp.1; rw [List.getElem?_eq_getElem (by omega)] at this; exact Option.some.inj this, ek] at this
    exact this
  have d1 : w.cell? ⟨D, o + 1, none⟩ = some (.int .u8 n) := by
    have := hB.at_ 1 (by omega)
    rw [show (encF kind epoch seq lba body)[1]'(by omega) = UInt8.ofNat body.length from by have := hp.2; rw [List.getElem?_eq_getElem (by omega)] at this; exact Option.some.inj this, en] at this
    exact this
  have hsub : ∀ i m, i + m = 64 → Bs w (some ⟨D, o + i, none⟩) ((encF kind epoch seq lba body).drop i) := fun i m hm => by
    have := hB.sub i m
    rwa [List.take_of_length_le (by rw [List.length_drop, hlen]; omega)] at this
  have kA : Chg [] w ((w.alloc (.cells #[.int .i64 0, .int .i64 0, .int .i64 0, .int .i64 0, .slice none 0 0] 176)).alloc (.cells #[.int .i64 0, .int .i64 0, .int .i64 0, .int .i64 0, .slice none 0 0] 176)) := (Chg.alloc w _).then_alloc _
  have H6 := Lib.hid (fun w1 (k1 : Chg [] w w1) => get64_le w1 (c := c - 6) ((hsub 6 58 rfl).chg k1) (by rw [List.length_drop, hlen]) (by decide) (by decide) (encF_6 kind epoch seq lba body) (by omega))
  have H2 := Lib.hid (fun w1 (k1 : Chg [] w w1) => get32_le w1 (c := c - 2) ((hsub 2 62 rfl).chg k1) (by rw [List.length_drop, hlen]) (by decide) (by decide) (encF_2 kind epoch seq lba body) h3)
  have H14 := Lib.hid (fun w1 (k1 : Chg [] w w1) => get32_le w1 (c := c - 14) ((hsub 14 50 rfl).chg k1) (by rw [List.length_drop, hlen]) (by decide) (by decide) (encF_14 kind epoch seq lba body) (by omega))
  have H18 := Lib.hid (show Bs w (some ⟨D, o + 18, none⟩) body from by have := hB.sub 18 n; rwa [encF_18 _ _ _ _ _ hn] at this)
  have HB := Lib.hid hB
  have HL := Lib.hid hlen
  have HK := Lib.hid (And.intro h1 (And.intro h2 (And.intro h3 (And.intro h4 h5))))
  have HN := Lib.hid (And.intro hn (And.intro hn0 h6))
  have hci : (64 : Int) ≤ c := by omega
  have f40 : ¬ (40 : Int) < n := by omega
  have fsq : ¬ (1099511627776 : Int) < seq := by omega
  have g40 : decide ((40 : Int) < n) = false := decide_eq_false f40
  have gsq : decide ((1099511627776 : Int) < seq) = false := decide_eq_false fsq
  clear hB hlen hp ek en hsub h1 h2 h3 h4 h5 hn hn0 h6 hc
  go_enter Tryz.func104, Tryz.ntmps104
  go_wp2_with fail
  go_step3
  go_wp2_with fail
  go_step3
  have Z1 := (two_new w (.cells #[.int .i64 0, .int .i64 0, .int .i64 0, .int .i64 0, .slice none 0 0] 176) (.cells #[.int .i64 0, .int .i64 0, .int .i64 0, .int .i64 0, .slice none 0 0] 176))
  have d0' := kA.cell d0 (by simp)
  have d1' := kA.cell d1 (by simp)
  have hs := kA.size
  have HDz := Lib.hid (show D ≠ w.heap.size + 1 from by
    have : D < w.heap.size := World.block_lt_of_cell? _ _ d0
    omega)
  generalize hzz : w.heap.size = z at *
  have HZz := Lib.hid hzz
  clear d0 d1
  generalize (w.alloc (.cells #[.int .i64 0, .int .i64 0, .int .i64 0, .int .i64 0, .slice none 0 0] 176)).alloc (.cells #[.int .i64 0, .int .i64 0, .int .i64 0, .int .i64 0, .slice none 0 0] 176) = w1 at *
  have HZ := Lib.hid Z1
  clear Z1
  go_wp2_with fail
  go_loopw [5, 6, 7, 8, 9, 10, 11, 12, 13, 14] (fun a _ _ _ _ _ _ _ _ _ wr => a = .bool false ∧ wr = w1) (fun _ _ _ _ _ _ _ _ _ _ _ => 0)
  case atStart => exact ⟨rfl, rfl⟩
  case round =>
    obtain ⟨rfl, rfl⟩ := hrel
    rename World => w1
    go_wp2_with fail
    refine (H6.out w1 kA).mono ?_
    rintro e w2 ⟨rfl, rfl⟩
    go_wp2_with fail
    refine (H2.out w1 kA).mono ?_
    rintro e w2 ⟨rfl, rfl⟩
    go_wp2_with fail
    refine (H14.out w1 kA).mono ?_
    rintro e w2 ⟨rfl, rfl⟩
    go_wp2_with fail
    have wk : IntKind.i64.wrap (kind : Int) = (kind : Int) := by rw [IntKind.wrap_i64]; have := HK.out; omega
    have we : IntKind.i64.wrap (epoch : Int) = (epoch : Int) := by rw [IntKind.wrap_i64]; have := HK.out; omega
    have ws : IntKind.i64.wrap (seq : Int) = (seq : Int) := by rw [IntKind.wrap_i64]; have := HK.out; omega
    have wl : IntKind.i64.wrap (lba : Int) = (lba : Int) := by rw [IntKind.wrap_i64]; have := HK.out; omega
    have hnc : 18 + (n : Int) ≤ c := by have := HN.out; omega
    have hnc0 : (18 : Int) ≤ 18 + (n : Int) := by omega
    have wn : IntKind.i64.wrap (18 + (n : Int)) = 18 + (n : Int) := by rw [IntKind.wrap_i64]; have := HN.out; omega
    have K1 := HZ.out.2
    have hDz := HDz.out
    have d0d : w1.drew.cell? ⟨D, o, none⟩ = some (.int .u8 kind) := d0'
    have hc18 : ¬ c = 18 := by omega
    have hnt : (18 + (n : Int)).toNat - 18 = n := by omega
    clear hs
    generalize hki : (kind : Int) = ki at *
    generalize hei : (epoch : Int) = ei at *
    generalize hsi : (seq : Int) = si at *
    generalize hli : (lba : Int) = li at *
    have HKi := Lib.hid hki
    have HEi := Lib.hid hei
    have HSi := Lib.hid hsi
    have HLi := Lib.hid hli
    clear hki hei hsi hli
    have kd : Chg [] w w1.drew := kA.drew
    go_region_held3 (fun wx => wx.cell? ⟨D, o, none⟩ = some (.int .u8 ki))
      (first | (with_reducible exact d0') | (with_reducible exact d0d) | (with_reducible exact f6) | (with_reducible exact fS _ _ _ _ _))
      (first
        | (go_at_call 65; refine (clone_btz w1.drew (l := body) (m := n) HN.out.1 (by have := HN.out; omega) (H18.out.chg kd)).mono ?_; rintro e w6 ⟨g2, c2, rfl, k6, bs6, l6, bt6, hcc⟩; have f6 := k6.cell d0d (by simp); have K6 := k6.heap (show w1.drew.heap[z + 1]? = _ from K1) (by simp)
           have r0 : w6.cell? ⟨z + 1, 0, none⟩ = some (.int .i64 0) := cell_is K6 0 rfl
           have z0 := unfrozen K6 0
           have r1 : w6.cell? ⟨z + 1, 1, none⟩ = some (.int .i64 0) := cell_is K6 1 rfl
           have z1 := unfrozen K6 1
           have r2 : w6.cell? ⟨z + 1, 2, none⟩ = some (.int .i64 0) := cell_is K6 2 rfl
           have z2 := unfrozen K6 2
           have r3 : w6.cell? ⟨z + 1, 3, none⟩ = some (.int .i64 0) := cell_is K6 3 rfl
           have z3 := unfrozen K6 3
           have r4 : w6.cell? ⟨z + 1, 4, none⟩ = some (.slice none 0 0) := cell_is K6 4 rfl
           have z4 := unfrozen K6 4
           have kS : ∀ a0 a1 a2 a3 a4, Chg [z + 1] w6 (((((w6.setCell ⟨z + 1, 0, none⟩ a0).setCell ⟨z + 1, 1, none⟩ a1).setCell ⟨z + 1, 2, none⟩ a2).setCell ⟨z + 1, 3, none⟩ a3).setCell ⟨z + 1, 4, none⟩ a4) := fun a0 a1 a2 a3 a4 => (((((Chg.refl [z + 1] w6).then_set (fun _ => by simp) 0 a0).then_set (fun _ => by simp) 1 a1).then_set (fun _ => by simp) 2 a2).then_set (fun _ => by simp) 3 a3).then_set (fun _ => by simp) 4 a4
           have fS : ∀ a0 a1 a2 a3 a4, (((((w6.setCell ⟨z + 1, 0, none⟩ a0).setCell ⟨z + 1, 1, none⟩ a1).setCell ⟨z + 1, 2, none⟩ a2).setCell ⟨z + 1, 3, none⟩ a3).setCell ⟨z + 1, 4, none⟩ a4).cell? ⟨D, o, none⟩ = some (.int .u8 ki) := fun a0 a1 a2 a3 a4 => (kS a0 a1 a2 a3 a4).cell f6 (by simpa using hDz)))
    have e1 := HKi.out
    have e2 := HEi.out
    have e3 := HSi.out
    have e4 := HLi.out
    subst e1 e2 e3 e4
    have k8 : Chg [] w (((((w6.setCell ⟨z + 1, 0, none⟩ (.int .i64 kind)).setCell ⟨z + 1, 1, none⟩ (.int .i64 epoch)).setCell ⟨z + 1, 2, none⟩ (.int .i64 seq)).setCell ⟨z + 1, 3, none⟩ (.int .i64 lba)).setCell ⟨z + 1, 4, none⟩ (.slice (some ⟨g2, 0, none⟩) n c2)) := by
      have hz := HZz.out
      exact ((((((kd.then k6).new_set (by omega) 0 _).new_set (by omega) 1 _).new_set (by omega) 2 _).new_set (by omega) 3 _).new_set (by omega) 4 _)
    have K8 : (((((w6.setCell ⟨z + 1, 0, none⟩ (.int .i64 kind)).setCell ⟨z + 1, 1, none⟩ (.int .i64 epoch)).setCell ⟨z + 1, 2, none⟩ (.int .i64 seq)).setCell ⟨z + 1, 3, none⟩ (.int .i64 lba)).setCell ⟨z + 1, 4, none⟩ (.slice (some ⟨g2, 0, none⟩) n c2)).heap[z + 1]? = some (.cells #[.int .i64 kind, .int .i64 epoch, .int .i64 seq, .int .i64 lba, .slice (some ⟨g2, 0, none⟩) n c2] 176 (0, 0)) :=
      heap_set (heap_set (heap_set (heap_set (heap_set K6 0 _ rfl) 1 _ rfl) 2 _ rfl) 3 _ rfl) 4 _ rfl
    have hgz : g2 ≠ z + 1 := by
      obtain ⟨cs, hh⟩ := bt6
      exact heap_ne hh K6 (by simp)
    have kS8 := kS (.int .i64 kind) (.int .i64 epoch) (.int .i64 seq) (.int .i64 lba) (.slice (some ⟨g2, 0, none⟩) n c2)
    have Z8 := kS8.heap (k6.heap (show w1.drew.heap[z]? = _ from HZ.out.1) (by simp)) (by simp)
    have bs8 := bs6.chgT kS8 (by simpa using hgz)
    have bt8 := Bt.keep bt6 kS8 (by simpa using hgz)
    have hg2 : w.heap.size ≤ g2 := by have := kd.size; omega
    have HBs := Lib.hid bs8
    have HBt := Lib.hid (And.intro bt8 (And.intro hg2 hcc))
    clear kS fS r0 r1 r2 r3 r4 z0 z1 z2 z3 z4 f6 kS8 bs8 bt8 bs6 bt6 k6 K6 kd d0d d0' wk we ws wl wn hnc hnc0 hc18 hnt hgz l6 hg2 hcc K1
    generalize ((((w6.setCell ⟨z + 1, 0, none⟩ (.int .i64 kind)).setCell ⟨z + 1, 1, none⟩ (.int .i64 epoch)).setCell ⟨z + 1, 2, none⟩ (.int .i64 seq)).setCell ⟨z + 1, 3, none⟩ (.int .i64 lba)).setCell ⟨z + 1, 4, none⟩ (.slice (some ⟨g2, 0, none⟩) n c2) = w8 at *
    have q0 : w8.cell? ⟨z + 1, 0, none⟩ = some (.int .i64 kind) := cell_is K8 0 rfl
    have q1 : w8.cell? ⟨z + 1, 1, none⟩ = some (.int .i64 epoch) := cell_is K8 1 rfl
    have q2 : w8.cell? ⟨z + 1, 2, none⟩ = some (.int .i64 seq) := cell_is K8 2 rfl
    have q3 : w8.cell? ⟨z + 1, 3, none⟩ = some (.int .i64 lba) := cell_is K8 3 rfl
    have q4 : w8.cell? ⟨z + 1, 4, none⟩ = some (.slice (some ⟨g2, 0, none⟩) n c2) := cell_is K8 4 rfl
    go_wp2_with fail
    refine (fencode_any w8 (kind := kind) (epoch := epoch) (seq := seq) (lba := lba) HK.out.1 HK.out.2.1 HK.out.2.2.1 HK.out.2.2.2.1 HK.out.2.2.2.2 HN.out.1 HN.out.2.2 HBs.out).mono ?_
    rintro e w9 ⟨g9, c9, rfl, k9, l9, bs9, bt9⟩
    have k09 := k8.then k9
    have HEq := Lib.hid (eq_same w9 (c := c) (c' := c9) (HB.out.chg k09) bs9 HL.out (by decide))
    go_wp2_with fail
    refine HEq.out.mono ?_
    rintro e w10 ⟨rfl, k10⟩
    have k010 := k09.then k10
    have K10 := k10.heap (k9.heap K8 (by simp)) (by simp)
    have Z10 := k10.heap (k9.heap Z8 (by simp)) (by simp)
    have x0 : w10.cell? ⟨z + 1, 0, none⟩ = some (.int .i64 kind) := cell_is K10 0 rfl
    have x1 : w10.cell? ⟨z + 1, 1, none⟩ = some (.int .i64 epoch) := cell_is K10 1 rfl
    have x2 : w10.cell? ⟨z + 1, 2, none⟩ = some (.int .i64 seq) := cell_is K10 2 rfl
    have x3 : w10.cell? ⟨z + 1, 3, none⟩ = some (.int .i64 lba) := cell_is K10 3 rfl
    have x4 : w10.cell? ⟨z + 1, 4, none⟩ = some (.slice (some ⟨g2, 0, none⟩) n c2) := cell_is K10 4 rfl
    have y0 : w10.cell? ⟨z, 0, none⟩ = some (.int .i64 0) := cell_is Z10 0 rfl
    have y1 : w10.cell? ⟨z, 1, none⟩ = some (.int .i64 0) := cell_is Z10 1 rfl
    have y2 : w10.cell? ⟨z, 2, none⟩ = some (.int .i64 0) := cell_is Z10 2 rfl
    have y3 : w10.cell? ⟨z, 3, none⟩ = some (.int .i64 0) := cell_is Z10 3 rfl
    have y4 : w10.cell? ⟨z, 4, none⟩ = some (.slice none 0 0) := cell_is Z10 4 rfl
    have f0 := unfrozen Z10 0
    have f1 := unfrozen Z10 1
    have f2 := unfrozen Z10 2
    have f3 := unfrozen Z10 3
    have f4 := unfrozen Z10 4
    have HF := Lib.hid (And.intro k010 (And.intro ((HBs.out.chg k9).chg k10) (Bt.keep (Bt.keep HBt.out.1 k9 (by simp)) k10 (by simp))))
    clear HEq k9 k10 k010 k09 k8 K8 q0 q1 q2 q3 q4 bs9 bt9 Z8 HBs
    have ZF : (((((w10.setCell ⟨z, 0, none⟩ (.int .i64 kind)).setCell ⟨z, 1, none⟩ (.int .i64 epoch)).setCell ⟨z, 2, none⟩ (.int .i64 seq)).setCell ⟨z, 3, none⟩ (.int .i64 lba)).setCell ⟨z, 4, none⟩ (.slice (some ⟨g2, 0, none⟩) n c2)).heap[z]? = some (.cells #[.int .i64 kind, .int .i64 epoch, .int .i64 seq, .int .i64 lba, .slice (some ⟨g2, 0, none⟩) n c2] 176 (0, 0)) :=
      heap_set (heap_set (heap_set (heap_set (heap_set Z10 0 _ rfl) 1 _ rfl) 2 _ rfl) 3 _ rfl) 4 _ rfl
    have kZ : Chg [z] w10 (((((w10.setCell ⟨z, 0, none⟩ (.int .i64 kind)).setCell ⟨z, 1, none⟩ (.int .i64 epoch)).setCell ⟨z, 2, none⟩ (.int .i64 seq)).setCell ⟨z, 3, none⟩ (.int .i64 lba)).setCell ⟨z, 4, none⟩ (.slice (some ⟨g2, 0, none⟩) n c2)) := (((((Chg.refl [z] w10).then_set (fun _ => by simp) 0 _).then_set (fun _ => by simp) 1 _).then_set (fun _ => by simp) 2 _).then_set (fun _ => by simp) 3 _).then_set (fun _ => by simp) 4 _
    have hgz : g2 ∉ [z] := by
      obtain ⟨cs, hh⟩ := HF.out.2.2
      simpa using heap_ne hh Z10 (by simp)
    have kFin : Chg [] w (((((w10.setCell ⟨z, 0, none⟩ (.int .i64 kind)).setCell ⟨z, 1, none⟩ (.int .i64 epoch)).setCell ⟨z, 2, none⟩ (.int .i64 seq)).setCell ⟨z, 3, none⟩ (.int .i64 lba)).setCell ⟨z, 4, none⟩ (.slice (some ⟨g2, 0, none⟩) n c2)) := HF.out.1.trans kZ (fun x hx hlt => by have := HZz.out; simp at hx; omega)
    have HFin := Lib.hid (And.intro kFin (And.intro (HF.out.2.1.chgT kZ hgz) (And.intro (Bt.keep HF.out.2.2 kZ hgz) HBt.out.2)))
    have n0 := cell_is ZF 0 (v := .int .i64 kind) rfl
    have n1 := cell_is ZF 1 (v := .int .i64 epoch) rfl
    have n2 := cell_is ZF 2 (v := .int .i64 seq) rfl
    have n3 := cell_is ZF 3 (v := .int .i64 lba) rfl
    have n4 := cell_is ZF 4 (v := .slice (some ⟨g2, 0, none⟩) n c2) rfl
    clear ZF kZ hgz kFin HF Z10 K10
    go_wp2_with fail
    rw [Exit.noGoto_ret]
    refine bodyPost_ret (v := .tuple #[.agg #[.int .i64 kind, .int .i64 epoch, .int .i64 seq, .int .i64 lba, .slice (some ⟨g2, 0, none⟩) n c2], .int .i64 0]) (by simp [results, Tryz.results104, go_sem, n0, n1, n2, n3, n4]) rfl ?_
    exact ⟨g2, c2, rfl, HFin.out⟩
end Go.Proofs.YtnelakpdmjfolaaGreat
namespace Go.Proofs.YtnelakpdmjfolaaGreat
open Go.RowKit Go.Lib

/-- rows of bytes where a slice with this address reads. -/
def RowsX (w : World) (g o : Nat) (l : List (List UInt8)) : Prop := ∀ i (h : i < l.length), ∃ gi ci, w.cell? ⟨g, o + i, none⟩ = some (.slice (some ⟨gi, 0, none⟩) 64 ci) ∧ 64 ≤ ci ∧ Bs w (some ⟨gi, 0, none⟩) l[i] ∧ Bt w gi
theorem RowsX.keep {w w' : World} {g o : Nat} {l : List (List UInt8)} (h : RowsX w g o l) (hc : Chg [] w w') : RowsX w' g o l := fun i hi => by
  obtain ⟨gi, ci, h1, h2, h3, h4⟩ := h i hi
  exact ⟨gi, ci, hc.cell h1 (by simp), h2, h3.chg hc, Bt.keep h4 hc (by simp)⟩
theorem batL_data (e num k : Nat) (l : List (Int × List UInt8)) (more : List (List UInt8)) (j : Nat) (h : j < l.length) (h2 : j < (batL e num k l ++ more).length) : (batL e num k l ++ more)[j] = encF 1 e num (l[j]).1.toNat (l[j]).2 := by
  rw [← Option.some_inj, ← List.getElem?_eq_getElem h2]
  unfold batL
  rw [List.append_assoc, List.getElem?_append_left (by rw [datL_length]; exact h)]
  simp [datL, h]
theorem batL_last (e num k : Nat) (l : List (Int × List UInt8)) (more : List (List UInt8)) (h2 : l.length < (batL e num k l ++ more).length) : (batL e num k l ++ more)[l.length] = encF 2 e num l.length (bodL k l.length) := by
  rw [← Option.some_inj, ← List.getElem?_eq_getElem h2]
  unfold batL
  rw [List.append_assoc, List.getElem?_append_right (by rw [datL_length]; exact Nat.le_refl _), datL_length]
  simp
/-- where the reading of frames stands: j Data frames are read. -/
structure Rd (w wr : World) (F R : Nat) (e num : Nat) (v : Value) (l : List (Int × List UInt8)) (j : Nat) : Prop where
  chg : Chg [] w wr
  puts : PutsAt wr w.heap.size v (l.take j)
  f : ∃ f0 f1 f2 f3 f4, wr.heap[F]? = some (.cells #[f0, f1, f2, f3, f4] 176 (0, 0)) ∧ (0 < j → f1 = .int .i64 (e : Nat) ∧ f2 = .int .i64 (num : Nat))
  r : wr.heap[R]? = some (.cells #[.int .i64 0, .int .i64 0, .int .i64 0, .int .i64 0, .slice none 0 0] 176 (0, 0))
/-- what row leaves of one batch. -/
def RowR (w : World) (e num k : Nat) (l : List (Int × List UInt8)) (r : Ending) (w' : World) : Prop :=
  ∃ pv g c, r = .returned (.tuple #[pv, .agg #[.int .i64 2, .int .i64 e, .int .i64 num, .int .i64 l.length, .slice (some ⟨g, 0, none⟩) 12 c], .bool true]) ∧ Chg [] w w' ∧ PutsAt w' w.heap.size pv l ∧ Bs w' (some ⟨g, 0, none⟩) (bodL k l.length) ∧ Bt w' g ∧ w.heap.size ≤ g ∧ 12 ≤ c
set_option maxRecDepth 100000 in
set_option maxHeartbeats 4000000 in
theorem brow_ok (w : World) {G o m c e num k : Nat} {l : List (Int × List UInt8)} {more : List (List UInt8)} (hX : RowsX w G o (batL e num k l ++ more)) (hm : (batL e num k l ++ more).length = m) (hmc : m ≤ c) (hm1 : m ≤ 1000) (he : e < 4294967296) (hnum : num ≤ 1099511627776) (hl0 : 0 < l.length) (hl : l.length ≤ 16) (hk : ∀ x ∈ l, 0 ≤ x.1 ∧ x.1 < 258) (h40 : ∀ x ∈ l, x.2.length = 40) :
    Calls Tryz.prog 108 #[.slice (some ⟨G, o, none⟩) m c] w (RowR w e num k l) := by
  have kA : Chg [] w ((w.alloc (.cells #[.int .i64 0, .int .i64 0, .int .i64 0, .int .i64 0, .slice none 0 0] 176)).alloc (.cells #[.int .i64 0, .int .i64 0, .int .i64 0, .int .i64 0, .slice none 0 0] 176)) := (Chg.alloc w _).then_alloc _
  have Z1 := (two_new w (.cells #[.int .i64 0, .int .i64 0, .int .i64 0, .int .i64 0, .slice none 0 0] 176) (.cells #[.int .i64 0, .int .i64 0, .int .i64 0, .int .i64 0, .slice none 0 0] 176))
  have HX := Lib.hid hX
  have hlen : (batL e num k l ++ more).length = l.length + 1 + more.length := by rw [List.length_append, batL_length]
  have HM := Lib.hid (hm.symm.trans hlen)
  have HE := Lib.hid (And.intro he (And.intro hnum (And.intro hl hm1)))
  have HK := Lib.hid hk
  have H40 := Lib.hid h40
  have hmci : (m : Int) ≤ c := by omega
  have HL0 := Lib.hid hl0
  clear hX hm he hnum hl0 hl hk h40 hlen hm1 hmc
  go_enter Tryz.func108, Tryz.ntmps108
  go_wp2_with fail
  go_step3
  go_wp2_with fail
  go_step3
  have h0 : Rd w ((w.alloc (.cells #[.int .i64 0, .int .i64 0, .int .i64 0, .int .i64 0, .slice none 0 0] 176)).alloc (.cells #[.int .i64 0, .int .i64 0, .int .i64 0, .int .i64 0, .slice none 0 0] 176)) (w.heap.size + 1) w.heap.size e num (.slice none 0 0) l 0 :=
    ⟨kA, PutsAt.nil _ _, ⟨_, _, _, _, _, Z1.2, fun h => absurd h (Nat.lt_irrefl 0)⟩, Z1.1⟩
  have H0 := Lib.hid h0
  clear h0 Z1 kA
  generalize (w.alloc (.cells #[.int .i64 0, .int .i64 0, .int .i64 0, .int .i64 0, .slice none 0 0] 176)).alloc (.cells #[.int .i64 0, .int .i64 0, .int .i64 0, .int .i64 0, .slice none 0 0] 176) = w1 at *
  generalize hzz : w.heap.size = z at *
  have HZz := Lib.hid hzz
  go_wp2_with fail
  go_loopw [2, 4, 6, 7, 8, 9, 13] (fun v t _ _ _ _ i wr => ∃ j : Nat, j ≤ l.length ∧ i = .int .i64 j ∧ t = .bool false ∧ Rd w wr (z + 1) z e num v l j) (fun _ _ _ _ _ _ i _ => l.length + 1 - (intOf i).toNat)
  case atStart => exact ⟨0, by omega, rfl, rfl, H0.out⟩
  case round =>
    obtain ⟨j, hj, rfl, rfl, hRd⟩ := hrel
    rename World => wr
    clear H0
    have hlj : (l.take j).length = j := by rw [List.length_take]; omega
    obtain ⟨xs0, ho0, -⟩ := hRd.puts
    obtain ⟨pa, ca, hv0, hjc⟩ := own_form ho0
    rw [hlj] at hv0 hjc
    subst hv0
    clear ho0 xs0 hlj
    by_cases hlt : j < l.length
    · have hj2 : j < (batL e num k l ++ more).length := by rw [List.length_append, batL_length]; omega
      obtain ⟨gi, ci, d0, hci, hbi, -⟩ := (HX.out.keep hRd.chg) j hj2
      rw [batL_data e num k l more j hlt hj2] at hbi
      obtain ⟨hx0, hx1⟩ := HK.out _ (List.getElem_mem hlt)
      have hq := H40.out _ (List.getElem_mem hlt)
      have hxe : (l[j]).1 = (((l[j]).1.toNat : Nat) : Int) := by omega
      have HTk := Lib.hid (show l.take (j + 1) = l.take j ++ [((((l[j]).1.toNat : Nat) : Int), (l[j]).2)] by rw [List.take_succ_eq_append_getElem hlt, ← hxe])
      have hx2 : (l[j]).1.toNat ≤ 1048576 := by omega
      have HQ := Lib.hid hq
      have HDc := Lib.hid (fdecode_ok wr (kind := 1) (lba := (l[j]).1.toNat) (n := 40) hbi (by decide) (by decide) HE.out.1 HE.out.2.1 hx2 hq (by decide) (by decide) hci)
      have hjm : (j : Int) < m := by have := HM.out; omega
      have HRd := Lib.hid hRd
      have HJ := Lib.hid hlt
      clear hbi hx0 hx1 hq hxe hx2 hRd
      generalize (l[j]).1.toNat = x at *
      generalize (l[j]).2 = q at *
      have hl16 : l.length ≤ 16 := HE.out.2.2.1
      go_wp2_with fail
      refine HDc.out.mono ?_
      rintro r w2 ⟨g2, c2, rfl, k2, b2, t2, l2, hcc⟩
      rw [show ((1 : Nat) : Int) = 1 from rfl]
      have hqq : ∀ y : Int, (y != y) = false := fun y => bne_self_eq_false y
      have kB : Chg [] w2 (w2.alloc (.cells #[.int .i64 1, .int .i64 e, .int .i64 num, .int .i64 x, .slice (some ⟨g2, 0, none⟩) 40 c2] 176)) := Chg.alloc w2 _
      have B0 := heap_new w2 (.cells #[.int .i64 1, .int .i64 e, .int .i64 num, .int .i64 x, .slice (some ⟨g2, 0, none⟩) 40 c2] 176)
      obtain ⟨f0, f1, f2, f3, f4, hF, hFj⟩ := HRd.out.f
      have hF3 := (k2.then kB).heap hF (by simp)
      have hR3 := (k2.then kB).heap HRd.out.r (by simp)
      have hp3 := HRd.out.puts.keep0 (k2.then kB)
      have hc3 := HRd.out.chg.then (k2.then kB)
      have hb3 := b2.chg kB
      have ht3 := Bt.keep t2 kB (by simp)
      have hFB : w2.heap.size ≠ z + 1 := by have := heap_lt hF; have := k2.size; omega
      have hRB : z ≠ z + 1 := by omega
      have HFj := Lib.hid hFj
      clear hF hFj b2 t2 k2 HDc d0 kB
      have HA := Lib.hid (And.intro hF3 (And.intro hR3 (And.intro hp3 (And.intro hc3 (And.intro hb3 ht3)))))
      have b0 : (w2.alloc (.cells #[.int .i64 1, .int .i64 e, .int .i64 num, .int .i64 x, .slice (some ⟨g2, 0, none⟩) 40 c2] 176)).cell? ⟨w2.heap.size, 0, none⟩ = some (.int .i64 1) := cell_is B0 0 rfl
      have b1 : (w2.alloc (.cells #[.int .i64 1, .int .i64 e, .int .i64 num, .int .i64 x, .slice (some ⟨g2, 0, none⟩) 40 c2] 176)).cell? ⟨w2.heap.size, 1, none⟩ = some (.int .i64 e) := cell_is B0 1 rfl
      have b2 : (w2.alloc (.cells #[.int .i64 1, .int .i64 e, .int .i64 num, .int .i64 x, .slice (some ⟨g2, 0, none⟩) 40 c2] 176)).cell? ⟨w2.heap.size, 2, none⟩ = some (.int .i64 num) := cell_is B0 2 rfl
      have b3 : (w2.alloc (.cells #[.int .i64 1, .int .i64 e, .int .i64 num, .int .i64 x, .slice (some ⟨g2, 0, none⟩) 40 c2] 176)).cell? ⟨w2.heap.size, 3, none⟩ = some (.int .i64 x) := cell_is B0 3 rfl
      have b4 : (w2.alloc (.cells #[.int .i64 1, .int .i64 e, .int .i64 num, .int .i64 x, .slice (some ⟨g2, 0, none⟩) 40 c2] 176)).cell? ⟨w2.heap.size, 4, none⟩ = some (.slice (some ⟨g2, 0, none⟩) 40 c2) := cell_is B0 4 rfl
      clear hR3 hp3 hc3 hb3 ht3
      rcases Nat.eq_zero_or_pos j with hj0 | hj0
      · subst hj0
        have p0 := cell_is hF3 0 (v := f0) rfl
        have p1 := cell_is hF3 1 (v := f1) rfl
        have p2 := cell_is hF3 2 (v := f2) rfl
        have p3 := cell_is hF3 3 (v := f3) rfl
        have p4 := cell_is hF3 4 (v := f4) rfl
        have u0 := unfrozen hF3 0
        have u1 := unfrozen hF3 1
        have u2 := unfrozen hF3 2
        have u3 := unfrozen hF3 3
        have u4 := unfrozen hF3 4
        go_upto_region 8 with fail
        have kS : Chg [z + 1] (w2.alloc (.cells #[.int .i64 1, .int .i64 e, .int .i64 num, .int .i64 x, .slice (some ⟨g2, 0, none⟩) 40 c2] 176)) ((((((w2.alloc (.cells #[.int .i64 1, .int .i64 e, .int .i64 num, .int .i64 x, .slice (some ⟨g2, 0, none⟩) 40 c2] 176)).setCell ⟨z + 1, 0, none⟩ (.int .i64 1)).setCell ⟨z + 1, 1, none⟩ (.int .i64 e)).setCell ⟨z + 1, 2, none⟩ (.int .i64 num)).setCell ⟨z + 1, 3, none⟩ (.int .i64 x)).setCell ⟨z + 1, 4, none⟩ (.slice (some ⟨g2, 0, none⟩) 40 c2)) := (((((Chg.refl [z + 1] _).then_set (fun _ => by simp) 0 _).then_set (fun _ => by simp) 1 _).then_set (fun _ => by simp) 2 _).then_set (fun _ => by simp) 3 _).then_set (fun _ => by simp) 4 _
        have HCm : Hid ((∃ f0 f3 f4, ((((((w2.alloc (.cells #[.int .i64 1, .int .i64 e, .int .i64 num, .int .i64 x, .slice (some ⟨g2, 0, none⟩) 40 c2] 176)).setCell ⟨z + 1, 0, none⟩ (.int .i64 1)).setCell ⟨z + 1, 1, none⟩ (.int .i64 e)).setCell ⟨z + 1, 2, none⟩ (.int .i64 num)).setCell ⟨z + 1, 3, none⟩ (.int .i64 x)).setCell ⟨z + 1, 4, none⟩ (.slice (some ⟨g2, 0, none⟩) 40 c2)).heap[z + 1]? = some (.cells #[f0, .int .i64 e, .int .i64 num, f3, f4] 176 (0, 0))) ∧ ((((((w2.alloc (.cells #[.int .i64 1, .int .i64 e, .int .i64 num, .int .i64 x, .slice (some ⟨g2, 0, none⟩) 40 c2] 176)).setCell ⟨z + 1, 0, none⟩ (.int .i64 1)).setCell ⟨z + 1, 1, none⟩ (.int .i64 e)).setCell ⟨z + 1, 2, none⟩ (.int .i64 num)).setCell ⟨z + 1, 3, none⟩ (.int .i64 x)).setCell ⟨z + 1, 4, none⟩ (.slice (some ⟨g2, 0, none⟩) 40 c2)).heap[z]? = some (.cells #[.int .i64 0, .int .i64 0, .int .i64 0, .int .i64 0, .slice none 0 0] 176 (0, 0)) ∧ PutsAt ((((((w2.alloc (.cells #[.int .i64 1, .int .i64 e, .int .i64 num, .int .i64 x, .slice (some ⟨g2, 0, none⟩) 40 c2] 176)).setCell ⟨z + 1, 0, none⟩ (.int .i64 1)).setCell ⟨z + 1, 1, none⟩ (.int .i64 e)).setCell ⟨z + 1, 2, none⟩ (.int .i64 num)).setCell ⟨z + 1, 3, none⟩ (.int .i64 x)).setCell ⟨z + 1, 4, none⟩ (.slice (some ⟨g2, 0, none⟩) 40 c2)) w.heap.size (.slice pa 0 ca) (l.take 0) ∧ Chg [] w ((((((w2.alloc (.cells #[.int .i64 1, .int .i64 e, .int .i64 num, .int .i64 x, .slice (some ⟨g2, 0, none⟩) 40 c2] 176)).setCell ⟨z + 1, 0, none⟩ (.int .i64 1)).setCell ⟨z + 1, 1, none⟩ (.int .i64 e)).setCell ⟨z + 1, 2, none⟩ (.int .i64 num)).setCell ⟨z + 1, 3, none⟩ (.int .i64 x)).setCell ⟨z + 1, 4, none⟩ (.slice (some ⟨g2, 0, none⟩) 40 c2)) ∧ Bs ((((((w2.alloc (.cells #[.int .i64 1, .int .i64 e, .int .i64 num, .int .i64 x, .slice (some ⟨g2, 0, none⟩) 40 c2] 176)).setCell ⟨z + 1, 0, none⟩ (.int .i64 1)).setCell ⟨z + 1, 1, none⟩ (.int .i64 e)).setCell ⟨z + 1, 2, none⟩ (.int .i64 num)).setCell ⟨z + 1, 3, none⟩ (.int .i64 x)).setCell ⟨z + 1, 4, none⟩ (.slice (some ⟨g2, 0, none⟩) 40 c2)) (some ⟨g2, 0, none⟩) q ∧ Bt ((((((w2.alloc (.cells #[.int .i64 1, .int .i64 e, .int .i64 num, .int .i64 x, .slice (some ⟨g2, 0, none⟩) 40 c2] 176)).setCell ⟨z + 1, 0, none⟩ (.int .i64 1)).setCell ⟨z + 1, 1, none⟩ (.int .i64 e)).setCell ⟨z + 1, 2, none⟩ (.int .i64 num)).setCell ⟨z + 1, 3, none⟩ (.int .i64 x)).setCell ⟨z + 1, 4, none⟩ (.slice (some ⟨g2, 0, none⟩) 40 c2)) g2 ∧ ((((((w2.alloc (.cells #[.int .i64 1, .int .i64 e, .int .i64 num, .int .i64 x, .slice (some ⟨g2, 0, none⟩) 40 c2] 176)).setCell ⟨z + 1, 0, none⟩ (.int .i64 1)).setCell ⟨z + 1, 1, none⟩ (.int .i64 e)).setCell ⟨z + 1, 2, none⟩ (.int .i64 num)).setCell ⟨z + 1, 3, none⟩ (.int .i64 x)).setCell ⟨z + 1, 4, none⟩ (.slice (some ⟨g2, 0, none⟩) 40 c2)).heap[w2.heap.size]? = some (.cells #[.int .i64 1, .int .i64 e, .int .i64 num, .int .i64 x, .slice (some ⟨g2, 0, none⟩) 40 c2] 176 (0, 0))) := by
          obtain ⟨-, hR3, hp3, hc3, hb3, ht3⟩ := HA.out
          have hg : g2 ∉ [z + 1] := by
            obtain ⟨cs, hh⟩ := ht3
            simpa using heap_ne hh hF3 (by simp)
          refine Lib.hid ⟨⟨_, _, _, heap_set (heap_set (heap_set (heap_set (heap_set hF3 0 _ rfl) 1 _ rfl) 2 _ rfl) 3 _ rfl) 4 _ rfl⟩, kS.heap hR3 (by simp), hp3.keep kS (Av.row hF3 (by decide)) (fun g hg hm => ?_), hc3.trans kS (fun x hx hlt => by have := HZz.out; simp at hx; omega), hb3.chgT kS hg, Bt.keep ht3 kS hg, kS.heap B0 (by simp; exact hFB)⟩
          obtain ⟨-, cs, hh⟩ := hp3.block g hg
          rw [List.mem_singleton] at hm
          subst hm
          rw [hF3] at hh
          cases hh
        clear kS p0 p1 p2 p3 p4 u0 u1 u2 u3 u4 b0 b1 b2 b3 b4 hF3 B0 HA
        generalize ((((((w2.alloc (.cells #[.int .i64 1, .int .i64 e, .int .i64 num, .int .i64 x, .slice (some ⟨g2, 0, none⟩) 40 c2] 176)).setCell ⟨z + 1, 0, none⟩ (.int .i64 1)).setCell ⟨z + 1, 1, none⟩ (.int .i64 e)).setCell ⟨z + 1, 2, none⟩ (.int .i64 num)).setCell ⟨z + 1, 3, none⟩ (.int .i64 x)).setCell ⟨z + 1, 4, none⟩ (.slice (some ⟨g2, 0, none⟩) 40 c2)) = wF at *
        obtain ⟨⟨f0', f3', f4', hF⟩, hR, hp, hc, hb, ht, hB⟩ := HCm.out
        have F1 : wF.cell? ⟨z + 1, 1, none⟩ = some (.int .i64 e) := cell_is hF 1 rfl
        have F2 : wF.cell? ⟨z + 1, 2, none⟩ = some (.int .i64 num) := cell_is hF 2 rfl
        have b0 : wF.cell? ⟨w2.heap.size, 0, none⟩ = some (.int .i64 1) := cell_is hB 0 rfl
        have b1 : wF.cell? ⟨w2.heap.size, 1, none⟩ = some (.int .i64 e) := cell_is hB 1 rfl
        have b2 : wF.cell? ⟨w2.heap.size, 2, none⟩ = some (.int .i64 num) := cell_is hB 2 rfl
        have b3 : wF.cell? ⟨w2.heap.size, 3, none⟩ = some (.int .i64 x) := cell_is hB 3 rfl
        have b4 : wF.cell? ⟨w2.heap.size, 4, none⟩ = some (.slice (some ⟨g2, 0, none⟩) 40 c2) := cell_is hB 4 rfl
        have hH2 := hp.block
        have hlj : (l.take 0).length = 0 := by rw [List.length_take]; omega
        obtain ⟨xs, ho, hx⟩ := hp
        rw [hlj] at ho
        have HO := Lib.hid ho
        have HXs := Lib.hid hx
        have H23 := Lib.hid hH2
        have HF := Lib.hid (And.intro hF (And.intro hR (And.intro hc (And.intro hb (And.intro ht hlj)))))
        have hwz : w.heap.size ≤ wF.heap.size := hc.size
        clear hF hR hc hb ht hB ho hx hH2 hlj HCm
        go_wp2_with (at_builtin; refine wpList_append_lit rfl (.tmp 47) (.tmp 53) 37 41 rfl ty69 inf92 rfl (by decide) w.heap.size wF [.int .i64 x, .slice (some ⟨g2, 0, none⟩) 40 c2] 1 rfl _ 0 xs rfl HO.out (by omega) (by decide) hwz (k := 0) rfl (by simp [Value.oneCell']) rfl 1 rfl ?_; intro v' w4 hap)
        have hfin : PutsAt w4 w.heap.size v' (l.take 0 ++ [((x : Int), q)]) := PutsAt.push HXs.out (by have := HO.out.1; have := HF.out.2.2.2.2.2; omega) HF.out.2.2.2.2.2.symm (fun g hg => (H23.out g hg).2) hap.1 (Chg.own hap.2.2 (fun g hg _ => by have hg2 : (Value.slice pa 0 ca).ownBlock = some g := hg; simp [hg2])) HF.out.2.2.2.1 HQ.out HF.out.2.2.2.2.1
        rw [← HTk.out] at hfin
        have kO : Chg (Value.slice pa 0 ca).ownBlock.toList wF w4 := Chg.own hap.2.2 (fun g hg _ => by have hg2 : (Value.slice pa 0 ca).ownBlock = some g := hg; simp [hg2])
        have hcF : Chg [] w w4 := Chg.of_below (HF.out.2.2.1.below0.trans hap.2.1)
        have nO : ∀ {y : Nat} {cs : Array Value}, wF.heap[y]? = some (.cells cs 176 (0, 0)) → y ∉ (Value.slice pa 0 ca).ownBlock.toList := fun hh => own_block_ne HO.out hh (by decide)
        have HRn := Lib.hid (Rd.mk (e := e) (num := num) (l := l) (j := 0 + 1) (F := z + 1) (R := z) hcF hfin ⟨_, _, _, _, _, kO.heap HF.out.1 (nO HF.out.1), fun _ => ⟨rfl, rfl⟩⟩ (kO.heap HF.out.2.1 (nO HF.out.2.1)))
        clear hfin kO hcF hap
        go_roundw
        case rel => exact ⟨0 + 1, by omega, by go_num, rfl, HRn.out⟩
        case measure => simp [intOf] <;> omega
      · have hjn : ((j : Int) == 0) = false := beq_eq_false_iff_ne.2 (by omega)
        have hjn2 : ¬ ((j : Int) = 0) := by omega
        have HCm : Hid ((∃ f0 f3 f4, (w2.alloc (.cells #[.int .i64 1, .int .i64 e, .int .i64 num, .int .i64 x, .slice (some ⟨g2, 0, none⟩) 40 c2] 176)).heap[z + 1]? = some (.cells #[f0, .int .i64 e, .int .i64 num, f3, f4] 176 (0, 0))) ∧ (w2.alloc (.cells #[.int .i64 1, .int .i64 e, .int .i64 num, .int .i64 x, .slice (some ⟨g2, 0, none⟩) 40 c2] 176)).heap[z]? = some (.cells #[.int .i64 0, .int .i64 0, .int .i64 0, .int .i64 0, .slice none 0 0] 176 (0, 0)) ∧ PutsAt (w2.alloc (.cells #[.int .i64 1, .int .i64 e, .int .i64 num, .int .i64 x, .slice (some ⟨g2, 0, none⟩) 40 c2] 176)) w.heap.size (.slice pa j ca) (l.take j) ∧ Chg [] w (w2.alloc (.cells #[.int .i64 1, .int .i64 e, .int .i64 num, .int .i64 x, .slice (some ⟨g2, 0, none⟩) 40 c2] 176)) ∧ Bs (w2.alloc (.cells #[.int .i64 1, .int .i64 e, .int .i64 num, .int .i64 x, .slice (some ⟨g2, 0, none⟩) 40 c2] 176)) (some ⟨g2, 0, none⟩) q ∧ Bt (w2.alloc (.cells #[.int .i64 1, .int .i64 e, .int .i64 num, .int .i64 x, .slice (some ⟨g2, 0, none⟩) 40 c2] 176)) g2 ∧ (w2.alloc (.cells #[.int .i64 1, .int .i64 e, .int .i64 num, .int .i64 x, .slice (some ⟨g2, 0, none⟩) 40 c2] 176)).heap[w2.heap.size]? = some (.cells #[.int .i64 1, .int .i64 e, .int .i64 num, .int .i64 x, .slice (some ⟨g2, 0, none⟩) 40 c2] 176 (0, 0))) := by
          obtain ⟨hF3', hR3, hp3, hc3, hb3, ht3⟩ := HA.out
          obtain ⟨e1, e2⟩ := HFj.out hj0
          subst e1 e2
          exact Lib.hid ⟨⟨_, _, _, hF3'⟩, hR3, hp3, hc3, hb3, ht3, B0⟩
        clear b0 b1 b2 b3 b4 hF3 B0 HA HFj
        go_upto_region 8 with fail
        generalize (w2.alloc (.cells #[.int .i64 1, .int .i64 e, .int .i64 num, .int .i64 x, .slice (some ⟨g2, 0, none⟩) 40 c2] 176)) = wF at *
        obtain ⟨⟨f0', f3', f4', hF⟩, hR, hp, hc, hb, ht, hB⟩ := HCm.out
        have F1 : wF.cell? ⟨z + 1, 1, none⟩ = some (.int .i64 e) := cell_is hF 1 rfl
        have F2 : wF.cell? ⟨z + 1, 2, none⟩ = some (.int .i64 num) := cell_is hF 2 rfl
        have b0 : wF.cell? ⟨w2.heap.size, 0, none⟩ = some (.int .i64 1) := cell_is hB 0 rfl
        have b1 : wF.cell? ⟨w2.heap.size, 1, none⟩ = some (.int .i64 e) := cell_is hB 1 rfl
        have b2 : wF.cell? ⟨w2.heap.size, 2, none⟩ = some (.int .i64 num) := cell_is hB 2 rfl
        have b3 : wF.cell? ⟨w2.heap.size, 3, none⟩ = some (.int .i64 x) := cell_is hB 3 rfl
        have b4 : wF.cell? ⟨w2.heap.size, 4, none⟩ = some (.slice (some ⟨g2, 0, none⟩) 40 c2) := cell_is hB 4 rfl
        have hH2 := hp.block
        have hlj : (l.take j).length = j := by rw [List.length_take]; omega
        obtain ⟨xs, ho, hx⟩ := hp
        rw [hlj] at ho
        have HO := Lib.hid ho
        have HXs := Lib.hid hx
        have H23 := Lib.hid hH2
        have HF := Lib.hid (And.intro hF (And.intro hR (And.intro hc (And.intro hb (And.intro ht hlj)))))
        have hwz : w.heap.size ≤ wF.heap.size := hc.size
        clear hF hR hc hb ht hB ho hx hH2 hlj HCm
        go_wp2_with (at_builtin; refine wpList_append_lit rfl (.tmp 47) (.tmp 53) 37 41 rfl ty69 inf92 rfl (by decide) w.heap.size wF [.int .i64 x, .slice (some ⟨g2, 0, none⟩) 40 c2] 1 rfl _ j xs rfl HO.out (by omega) (by decide) hwz (k := 0) rfl (by simp [Value.oneCell']) rfl 1 rfl ?_; intro v' w4 hap)
        have hfin : PutsAt w4 w.heap.size v' (l.take j ++ [((x : Int), q)]) := PutsAt.push HXs.out (by have := HO.out.1; have := HF.out.2.2.2.2.2; omega) HF.out.2.2.2.2.2.symm (fun g hg => (H23.out g hg).2) hap.1 (Chg.own hap.2.2 (fun g hg _ => by have hg2 : (Value.slice pa j ca).ownBlock = some g := hg; simp [hg2])) HF.out.2.2.2.1 HQ.out HF.out.2.2.2.2.1
        rw [← HTk.out] at hfin
        have kO : Chg (Value.slice pa j ca).ownBlock.toList wF w4 := Chg.own hap.2.2 (fun g hg _ => by have hg2 : (Value.slice pa j ca).ownBlock = some g := hg; simp [hg2])
        have hcF : Chg [] w w4 := Chg.of_below (HF.out.2.2.1.below0.trans hap.2.1)
        have nO : ∀ {y : Nat} {cs : Array Value}, wF.heap[y]? = some (.cells cs 176 (0, 0)) → y ∉ (Value.slice pa j ca).ownBlock.toList := fun hh => own_block_ne HO.out hh (by decide)
        have HRn := Lib.hid (Rd.mk (e := e) (num := num) (l := l) (j := j + 1) (F := z + 1) (R := z) hcF hfin ⟨_, _, _, _, _, kO.heap HF.out.1 (nO HF.out.1), fun _ => ⟨rfl, rfl⟩⟩ (kO.heap HF.out.2.1 (nO HF.out.2.1)))
        clear hfin kO hcF hap
        go_roundw
        case rel => exact ⟨j + 1, by omega, by go_num, rfl, HRn.out⟩
        case measure => simp [intOf] <;> omega
    · obtain rfl : j = l.length := by omega
      have hj2 : l.length < (batL e num k l ++ more).length := by rw [List.length_append, batL_length]; omega
      obtain ⟨gi, ci, d0, hci, hbi, -⟩ := (HX.out.keep hRd.chg) _ hj2
      rw [batL_last e num k l more hj2] at hbi
      have hbl : (bodL k l.length).length = 12 := by simp [bodL, leB_length]
      have HDc := Lib.hid (fdecode_ok wr (kind := 2) (lba := l.length) (n := 12) hbi (by decide) (by decide) HE.out.1 HE.out.2.1 (by have := HE.out; omega) hbl (by decide) (by decide) hci)
      have hjm : (l.length : Int) < m := by have := HM.out; omega
      have HRd := Lib.hid hRd
      have hjn : ((l.length : Int) == 0) = false := beq_eq_false_iff_ne.2 (by have := HL0.out; omega)
      have hjn2 : ¬ ((l.length : Int) = 0) := by have := HL0.out; omega
      clear hbi hRd hbl
      go_wp2_with fail
      refine HDc.out.mono ?_
      rintro r w2 ⟨g2, c2, rfl, k2, b2, t2, l2, hcc⟩
      rw [show ((2 : Nat) : Int) = 2 from rfl]
      have hqq : ∀ y : Int, (y != y) = false := fun y => bne_self_eq_false y
      have kB : Chg [] w2 (w2.alloc (.cells #[.int .i64 2, .int .i64 e, .int .i64 num, .int .i64 l.length, .slice (some ⟨g2, 0, none⟩) 12 c2] 176)) := Chg.alloc w2 _
      have B0 := heap_new w2 (.cells #[.int .i64 2, .int .i64 e, .int .i64 num, .int .i64 l.length, .slice (some ⟨g2, 0, none⟩) 12 c2] 176)
      obtain ⟨f0, f1, f2, f3, f4, hF, hFj⟩ := HRd.out.f
      obtain ⟨e1, e2⟩ := hFj HL0.out
      subst e1 e2
      have hF3 := (k2.then kB).heap hF (by simp)
      have hR3 := (k2.then kB).heap HRd.out.r (by simp)
      have hp3 := HRd.out.puts.keep0 (k2.then kB)
      have hc3 := HRd.out.chg.then (k2.then kB)
      have hb3 := b2.chg kB
      have ht3 := Bt.keep t2 kB (by simp)
      have hRB : w2.heap.size ≠ z := by have := heap_lt HRd.out.r; have := k2.size; omega
      have hl2 : w.heap.size ≤ g2 ∧ 12 ≤ c2 := ⟨by have := HRd.out.chg.size; omega, hcc⟩
      have F1 : (w2.alloc (.cells #[.int .i64 2, .int .i64 e, .int .i64 num, .int .i64 l.length, .slice (some ⟨g2, 0, none⟩) 12 c2] 176)).cell? ⟨z + 1, 1, none⟩ = some (.int .i64 e) := cell_is hF3 1 rfl
      have F2 : (w2.alloc (.cells #[.int .i64 2, .int .i64 e, .int .i64 num, .int .i64 l.length, .slice (some ⟨g2, 0, none⟩) 12 c2] 176)).cell? ⟨z + 1, 2, none⟩ = some (.int .i64 num) := cell_is hF3 2 rfl
      have b0 : (w2.alloc (.cells #[.int .i64 2, .int .i64 e, .int .i64 num, .int .i64 l.length, .slice (some ⟨g2, 0, none⟩) 12 c2] 176)).cell? ⟨w2.heap.size, 0, none⟩ = some (.int .i64 2) := cell_is B0 0 rfl
      have b1 : (w2.alloc (.cells #[.int .i64 2, .int .i64 e, .int .i64 num, .int .i64 l.length, .slice (some ⟨g2, 0, none⟩) 12 c2] 176)).cell? ⟨w2.heap.size, 1, none⟩ = some (.int .i64 e) := cell_is B0 1 rfl
      have b2' : (w2.alloc (.cells #[.int .i64 2, .int .i64 e, .int .i64 num, .int .i64 l.length, .slice (some ⟨g2, 0, none⟩) 12 c2] 176)).cell? ⟨w2.heap.size, 2, none⟩ = some (.int .i64 num) := cell_is B0 2 rfl
      have b3 : (w2.alloc (.cells #[.int .i64 2, .int .i64 e, .int .i64 num, .int .i64 l.length, .slice (some ⟨g2, 0, none⟩) 12 c2] 176)).cell? ⟨w2.heap.size, 3, none⟩ = some (.int .i64 l.length) := cell_is B0 3 rfl
      have b4 : (w2.alloc (.cells #[.int .i64 2, .int .i64 e, .int .i64 num, .int .i64 l.length, .slice (some ⟨g2, 0, none⟩) 12 c2] 176)).cell? ⟨w2.heap.size, 4, none⟩ = some (.slice (some ⟨g2, 0, none⟩) 12 c2) := cell_is B0 4 rfl
      have r0 : (w2.alloc (.cells #[.int .i64 2, .int .i64 e, .int .i64 num, .int .i64 l.length, .slice (some ⟨g2, 0, none⟩) 12 c2] 176)).cell? ⟨z, 0, none⟩ = some (.int .i64 0) := cell_is hR3 0 rfl
      have r1 : (w2.alloc (.cells #[.int .i64 2, .int .i64 e, .int .i64 num, .int .i64 l.length, .slice (some ⟨g2, 0, none⟩) 12 c2] 176)).cell? ⟨z, 1, none⟩ = some (.int .i64 0) := cell_is hR3 1 rfl
      have r2 : (w2.alloc (.cells #[.int .i64 2, .int .i64 e, .int .i64 num, .int .i64 l.length, .slice (some ⟨g2, 0, none⟩) 12 c2] 176)).cell? ⟨z, 2, none⟩ = some (.int .i64 0) := cell_is hR3 2 rfl
      have r3 : (w2.alloc (.cells #[.int .i64 2, .int .i64 e, .int .i64 num, .int .i64 l.length, .slice (some ⟨g2, 0, none⟩) 12 c2] 176)).cell? ⟨z, 3, none⟩ = some (.int .i64 0) := cell_is hR3 3 rfl
      have r4 : (w2.alloc (.cells #[.int .i64 2, .int .i64 e, .int .i64 num, .int .i64 l.length, .slice (some ⟨g2, 0, none⟩) 12 c2] 176)).cell? ⟨z, 4, none⟩ = some (.slice none 0 0) := cell_is hR3 4 rfl
      have v0 := unfrozen hR3 0
      have v1 := unfrozen hR3 1
      have v2 := unfrozen hR3 2
      have v3 := unfrozen hR3 3
      have v4 := unfrozen hR3 4
      have HA := Lib.hid (And.intro hR3 (And.intro hp3 (And.intro hc3 (And.intro hb3 (And.intro ht3 hl2)))))
      clear hF hFj hF3 b2 t2 k2 HDc d0 kB hp3 hc3 hb3 ht3 hl2 hcc hR3 B0 HRd
      go_upto_region 14 with fail
      have kR : Chg [z] (w2.alloc (.cells #[.int .i64 2, .int .i64 e, .int .i64 num, .int .i64 l.length, .slice (some ⟨g2, 0, none⟩) 12 c2] 176)) ((((((w2.alloc (.cells #[.int .i64 2, .int .i64 e, .int .i64 num, .int .i64 l.length, .slice (some ⟨g2, 0, none⟩) 12 c2] 176)).setCell ⟨z, 0, none⟩ (.int .i64 2)).setCell ⟨z, 1, none⟩ (.int .i64 e)).setCell ⟨z, 2, none⟩ (.int .i64 num)).setCell ⟨z, 3, none⟩ (.int .i64 l.length)).setCell ⟨z, 4, none⟩ (.slice (some ⟨g2, 0, none⟩) 12 c2)) := (((((Chg.refl [z] _).then_set (fun _ => by simp) 0 _).then_set (fun _ => by simp) 1 _).then_set (fun _ => by simp) 2 _).then_set (fun _ => by simp) 3 _).then_set (fun _ => by simp) 4 _
      have ZR : ((((((w2.alloc (.cells #[.int .i64 2, .int .i64 e, .int .i64 num, .int .i64 l.length, .slice (some ⟨g2, 0, none⟩) 12 c2] 176)).setCell ⟨z, 0, none⟩ (.int .i64 2)).setCell ⟨z, 1, none⟩ (.int .i64 e)).setCell ⟨z, 2, none⟩ (.int .i64 num)).setCell ⟨z, 3, none⟩ (.int .i64 l.length)).setCell ⟨z, 4, none⟩ (.slice (some ⟨g2, 0, none⟩) 12 c2)).heap[z]? = some (.cells #[.int .i64 2, .int .i64 e, .int .i64 num, .int .i64 l.length, .slice (some ⟨g2, 0, none⟩) 12 c2] 176 (0, 0)) := heap_set (heap_set (heap_set (heap_set (heap_set HA.out.1 0 _ rfl) 1 _ rfl) 2 _ rfl) 3 _ rfl) 4 _ rfl
      have HC := Lib.hid (show Chg [] w ((((((w2.alloc (.cells #[.int .i64 2, .int .i64 e, .int .i64 num, .int .i64 l.length, .slice (some ⟨g2, 0, none⟩) 12 c2] 176)).setCell ⟨z, 0, none⟩ (.int .i64 2)).setCell ⟨z, 1, none⟩ (.int .i64 e)).setCell ⟨z, 2, none⟩ (.int .i64 num)).setCell ⟨z, 3, none⟩ (.int .i64 l.length)).setCell ⟨z, 4, none⟩ (.slice (some ⟨g2, 0, none⟩) 12 c2)) ∧ PutsAt ((((((w2.alloc (.cells #[.int .i64 2, .int .i64 e, .int .i64 num, .int .i64 l.length, .slice (some ⟨g2, 0, none⟩) 12 c2] 176)).setCell ⟨z, 0, none⟩ (.int .i64 2)).setCell ⟨z, 1, none⟩ (.int .i64 e)).setCell ⟨z, 2, none⟩ (.int .i64 num)).setCell ⟨z, 3, none⟩ (.int .i64 l.length)).setCell ⟨z, 4, none⟩ (.slice (some ⟨g2, 0, none⟩) 12 c2)) w.heap.size (.slice pa l.length ca) l ∧ Bs ((((((w2.alloc (.cells #[.int .i64 2, .int .i64 e, .int .i64 num, .int .i64 l.length, .slice (some ⟨g2, 0, none⟩) 12 c2] 176)).setCell ⟨z, 0, none⟩ (.int .i64 2)).setCell ⟨z, 1, none⟩ (.int .i64 e)).setCell ⟨z, 2, none⟩ (.int .i64 num)).setCell ⟨z, 3, none⟩ (.int .i64 l.length)).setCell ⟨z, 4, none⟩ (.slice (some ⟨g2, 0, none⟩) 12 c2)) (some ⟨g2, 0, none⟩) (bodL k l.length) ∧ Bt ((((((w2.alloc (.cells #[.int .i64 2, .int .i64 e, .int .i64 num, .int .i64 l.length, .slice (some ⟨g2, 0, none⟩) 12 c2] 176)).setCell ⟨z, 0, none⟩ (.int .i64 2)).setCell ⟨z, 1, none⟩ (.int .i64 e)).setCell ⟨z, 2, none⟩ (.int .i64 num)).setCell ⟨z, 3, none⟩ (.int .i64 l.length)).setCell ⟨z, 4, none⟩ (.slice (some ⟨g2, 0, none⟩) 12 c2)) g2 ∧ w.heap.size ≤ g2 ∧ 12 ≤ c2 from by
        obtain ⟨hR3, hp3, hc3, hb3, ht3, hl2⟩ := HA.out
        have hg : g2 ∉ [z] := by
          obtain ⟨cs, hh⟩ := ht3
          simpa using heap_ne hh hR3 (by simp)
        rw [List.take_length] at hp3
        refine ⟨hc3.trans kR (fun x hx hlt => by have := HZz.out; simp at hx; omega), hp3.keep kR (Av.row hR3 (by decide)) (fun g hg hm => ?_), hb3.chgT kR hg, Bt.keep ht3 kR hg, hl2⟩
        obtain ⟨-, cs, hh⟩ := hp3.block g hg
        rw [List.mem_singleton] at hm
        subst hm
        rw [hR3] at hh
        cases hh)
      clear kR r0 r1 r2 r3 r4 v0 v1 v2 v3 v4 b0 b1 b2' b3 b4 F1 F2 HA hjn hjn2 hRB
      generalize ((((((w2.alloc (.cells #[.int .i64 2, .int .i64 e, .int .i64 num, .int .i64 l.length, .slice (some ⟨g2, 0, none⟩) 12 c2] 176)).setCell ⟨z, 0, none⟩ (.int .i64 2)).setCell ⟨z, 1, none⟩ (.int .i64 e)).setCell ⟨z, 2, none⟩ (.int .i64 num)).setCell ⟨z, 3, none⟩ (.int .i64 l.length)).setCell ⟨z, 4, none⟩ (.slice (some ⟨g2, 0, none⟩) 12 c2)) = wR at *
      have r0 : wR.cell? ⟨z, 0, none⟩ = some (.int .i64 2) := cell_is ZR 0 rfl
      have r1 : wR.cell? ⟨z, 1, none⟩ = some (.int .i64 e) := cell_is ZR 1 rfl
      have r2 : wR.cell? ⟨z, 2, none⟩ = some (.int .i64 num) := cell_is ZR 2 rfl
      have r3 : wR.cell? ⟨z, 3, none⟩ = some (.int .i64 l.length) := cell_is ZR 3 rfl
      have r4 : wR.cell? ⟨z, 4, none⟩ = some (.slice (some ⟨g2, 0, none⟩) 12 c2) := cell_is ZR 4 rfl
      have d0 : wR.drew.cell? ⟨z, 0, none⟩ = some (.int .i64 2) := r0
      have d1 : wR.drew.cell? ⟨z, 1, none⟩ = some (.int .i64 e) := r1
      have d2 : wR.drew.cell? ⟨z, 2, none⟩ = some (.int .i64 num) := r2
      have d3 : wR.drew.cell? ⟨z, 3, none⟩ = some (.int .i64 l.length) := r3
      have d4 : wR.drew.cell? ⟨z, 4, none⟩ = some (.slice (some ⟨g2, 0, none⟩) 12 c2) := r4
      have v0 := unfrozen ZR 0
      have v1 := unfrozen ZR 1
      have v2 := unfrozen ZR 2
      have v3 := unfrozen ZR 3
      have v4 := unfrozen ZR 4
      have v0d : wR.drew.frozen? ⟨z, 0, none⟩ = false := v0
      have v1d : wR.drew.frozen? ⟨z, 1, none⟩ = false := v1
      have v2d : wR.drew.frozen? ⟨z, 2, none⟩ = false := v2
      have v3d : wR.drew.frozen? ⟨z, 3, none⟩ = false := v3
      have v4d : wR.drew.frozen? ⟨z, 4, none⟩ = false := v4
      go_region_law (fail)
      all_goals
        have kF : Chg [z] wR (((((wR.setCell ⟨z, 0, none⟩ (.int .i64 2)).setCell ⟨z, 1, none⟩ (.int .i64 e)).setCell ⟨z, 2, none⟩ (.int .i64 num)).setCell ⟨z, 3, none⟩ (.int .i64 l.length)).setCell ⟨z, 4, none⟩ (.slice (some ⟨g2, 0, none⟩) 12 c2)).drew := ((((((Chg.refl [z] wR).then_set (fun _ => by simp) 0 _).then_set (fun _ => by simp) 1 _).then_set (fun _ => by simp) 2 _).then_set (fun _ => by simp) 3 _).then_set (fun _ => by simp) 4 _).drew
        have ZF : (((((wR.setCell ⟨z, 0, none⟩ (.int .i64 2)).setCell ⟨z, 1, none⟩ (.int .i64 e)).setCell ⟨z, 2, none⟩ (.int .i64 num)).setCell ⟨z, 3, none⟩ (.int .i64 l.length)).setCell ⟨z, 4, none⟩ (.slice (some ⟨g2, 0, none⟩) 12 c2)).drew.heap[z]? = some (.cells #[.int .i64 2, .int .i64 e, .int .i64 num, .int .i64 l.length, .slice (some ⟨g2, 0, none⟩) 12 c2] 176 (0, 0)) := heap_set (heap_set (heap_set (heap_set (heap_set ZR 0 _ rfl) 1 _ rfl) 2 _ rfl) 3 _ rfl) 4 _ rfl
        have HFin := Lib.hid (show Chg [] w (((((wR.setCell ⟨z, 0, none⟩ (.int .i64 2)).setCell ⟨z, 1, none⟩ (.int .i64 e)).setCell ⟨z, 2, none⟩ (.int .i64 num)).setCell ⟨z, 3, none⟩ (.int .i64 l.length)).setCell ⟨z, 4, none⟩ (.slice (some ⟨g2, 0, none⟩) 12 c2)).drew ∧ PutsAt (((((wR.setCell ⟨z, 0, none⟩ (.int .i64 2)).setCell ⟨z, 1, none⟩ (.int .i64 e)).setCell ⟨z, 2, none⟩ (.int .i64 num)).setCell ⟨z, 3, none⟩ (.int .i64 l.length)).setCell ⟨z, 4, none⟩ (.slice (some ⟨g2, 0, none⟩) 12 c2)).drew w.heap.size (.slice pa l.length ca) l ∧ Bs (((((wR.setCell ⟨z, 0, none⟩ (.int .i64 2)).setCell ⟨z, 1, none⟩ (.int .i64 e)).setCell ⟨z, 2, none⟩ (.int .i64 num)).setCell ⟨z, 3, none⟩ (.int .i64 l.length)).setCell ⟨z, 4, none⟩ (.slice (some ⟨g2, 0, none⟩) 12 c2)).drew (some ⟨g2, 0, none⟩) (bodL k l.length) ∧ Bt (((((wR.setCell ⟨z, 0, none⟩ (.int .i64 2)).setCell ⟨z, 1, none⟩ (.int .i64 e)).setCell ⟨z, 2, none⟩ (.int .i64 num)).setCell ⟨z, 3, none⟩ (.int .i64 l.length)).setCell ⟨z, 4, none⟩ (.slice (some ⟨g2, 0, none⟩) 12 c2)).drew g2 ∧ w.heap.size ≤ g2 ∧ 12 ≤ c2 from by
          obtain ⟨hc3, hp3, hb3, ht3, hl2⟩ := HC.out
          have hg : g2 ∉ [z] := by
            obtain ⟨cs, hh⟩ := ht3
            simpa using heap_ne hh ZR (by simp)
          refine ⟨hc3.trans kF (fun x hx hlt => by have := HZz.out; simp at hx; omega), hp3.keep kF (Av.row ZR (by decide)) (fun g hg hm => ?_), hb3.chgT kF hg, Bt.keep ht3 kF hg, hl2⟩
          obtain ⟨-, cs, hh⟩ := hp3.block g hg
          rw [List.mem_singleton] at hm
          subst hm
          rw [ZR] at hh
          cases hh)
        have n0 := cell_is ZF 0 (v := .int .i64 2) rfl
        have n1 := cell_is ZF 1 (v := .int .i64 e) rfl
        have n2 := cell_is ZF 2 (v := .int .i64 num) rfl
        have n3 := cell_is ZF 3 (v := .int .i64 l.length) rfl
        have n4 := cell_is ZF 4 (v := .slice (some ⟨g2, 0, none⟩) 12 c2) rfl
        clear kF ZF ZR HC r0 r1 r2 r3 r4 d0 d1 d2 d3 d4 v0 v1 v2 v3 v4 v0d v1d v2d v3d v4d
        go_wp2_with fail
        rw [Exit.noGoto_ret]
        refine bodyPost_ret (v := .tuple #[.slice pa l.length ca, .agg #[.int .i64 2, .int .i64 e, .int .i64 num, .int .i64 l.length, .slice (some ⟨g2, 0, none⟩) 12 c2], .bool true]) (by simp [results, Tryz.results108, go_sem, n0, n1, n2, n3, n4]) rfl ?_
        exact ⟨_, g2, c2, rfl, HFin.out⟩
end Go.Proofs.YtnelakpdmjfolaaGreat
namespace Go.Proofs.YtnelakpdmjfolaaGreat
open Go.RowKit Go.Lib

/-- puts that a slice reads. -/
def PutsR (w : World) (_lo : Nat) (v : Value) (l : List (Int × List UInt8)) : Prop := ∃ g cap, v = .slice (some ⟨g, 0, none⟩) l.length cap ∧ l.length ≤ cap ∧ (∃ cs, w.heap[g]? = some (.cells cs 41 (0, 0))) ∧ ∀ k (hk : k < l.length), ∃ gd cd,
    w.cell? ⟨g, k * 2, none⟩ = some (.int .i64 l[k].1) ∧ w.cell? ⟨g, k * 2 + 1, none⟩ = some (.slice (some ⟨gd, 0, none⟩) 40 cd) ∧ Bs w (some ⟨gd, 0, none⟩) l[k].2 ∧ l[k].2.length = 40 ∧ Bt w gd
theorem PutsR.get {w : World} {lo : Nat} {v : Value} {l : List (Int × List UInt8)} (h : PutsR w lo v l) (k : Nat) (hk : k < l.length) : ∃ g cap gd cd, v = .slice (some ⟨g, 0, none⟩) l.length cap ∧ l.length ≤ cap ∧
    w.cell? ⟨g, k * 2, none⟩ = some (.int .i64 l[k].1) ∧ w.cell? ⟨g, k * 2 + 1, none⟩ = some (.slice (some ⟨gd, 0, none⟩) 40 cd) ∧ Bs w (some ⟨gd, 0, none⟩) l[k].2 ∧ l[k].2.length = 40 ∧ Bt w gd := by
  obtain ⟨g, cap, h1, h2, -, h3⟩ := h
  obtain ⟨gd, cd, h4⟩ := h3 k hk
  exact ⟨g, cap, gd, cd, h1, h2, h4⟩
theorem PutsR.keep0 {w w' : World} {lo : Nat} {v : Value} {l : List (Int × List UInt8)} (h : PutsR w lo v l) (hc : Chg [] w w') : PutsR w' lo v l := by
  obtain ⟨g, cap, h1, h2, ⟨cs, h0⟩, h3⟩ := h
  refine ⟨g, cap, h1, h2, ⟨cs, hc.heap h0 (by simp)⟩, fun k hk => ?_⟩
  obtain ⟨gd, cd, c0, c1, b, n, t⟩ := h3 k hk
  exact ⟨gd, cd, hc.cell c0 (by simp), hc.cell c1 (by simp), b.chg hc, n, Bt.keep t hc (by simp)⟩
/-- puts in an own row are read by a slice with room or without. -/
theorem PutsAt.read {w : World} {lo lo' cap g c : Nat} {l : List (Int × List UInt8)} (h : PutsAt w lo (.slice (some ⟨g, 0, none⟩) l.length c) l) (hc : l.length ≤ cap) : PutsR w lo' (.slice (some ⟨g, 0, none⟩) l.length cap) l := by
  obtain ⟨-, cs, hh⟩ := h.block g rfl
  refine ⟨g, cap, rfl, hc, ⟨cs, hh⟩, fun k hk => ?_⟩
  obtain ⟨g', cap', gd, cd, e, -, h4⟩ := h.get k hk
  cases e
  exact ⟨gd, cd, h4⟩
/-- one transaction's part, that is only read: its time k, its puts l. -/
def TxR (w : World) (lo : Nat) (v : Value) (k : Int) (l : List (Int × List UInt8)) : Prop :=
  ∃ g c cs pv, v = .slice (some ⟨g, 0, none⟩) 1 c ∧ 1 ≤ c ∧ lo ≤ g ∧ w.heap[g]? = some (.cells cs 128 (0, 0)) ∧ cs[0]? = some (.int .i64 k) ∧ cs[1]? = some pv ∧ PutsR w lo pv l
theorem TxR.keep {w w' : World} {lo : Nat} {v : Value} {k : Int} {l : List (Int × List UInt8)} (h : TxR w lo v k l) (hc : Chg [] w w') : TxR w' lo v k l := by
  obtain ⟨g, c, cs, pv, h1, h2, h3, h4, h5, h6, h7⟩ := h
  exact ⟨g, c, cs, pv, h1, h2, h3, hc.heap h4 (by simp), h5, h6, h7.keep0 hc⟩
theorem TxR.open_ {w : World} {lo : Nat} {v : Value} {k : Int} {l : List (Int × List UInt8)} (h : TxR w lo v k l) : ∃ g c pb cb, v = .slice (some ⟨g, 0, none⟩) 1 c ∧ 1 ≤ c ∧ lo ≤ g ∧ g < w.heap.size ∧ w.cell? ⟨g, 0, none⟩ = some (.int .i64 k) ∧ w.cell? ⟨g, 1, none⟩ = some (.slice pb l.length cb) ∧ l.length ≤ cb ∧ PutsR w lo (.slice pb l.length cb) l := by
  obtain ⟨g, c, cs, pv, h1, h2, h3, h4, h5, h6, h7⟩ := h
  obtain ⟨gp, cap, rfl, hcap, -⟩ := id h7
  exact ⟨g, c, _, cap, h1, h2, h3, heap_lt h4, cell_is h4 0 h5, cell_is h4 1 h6, hcap, h7⟩
set_option maxRecDepth 100000 in
set_option maxHeartbeats 4000000 in
theorem order_one_r (w : World) {lo : Nat} {v : Value} {k : Int} {l : List (Int × List UInt8)} (h : TxR w lo v k l) (hk0 : 1 ≤ k) (hk1 : k ≤ 1099511627776) (hl0 : 0 < l.length) (hl : l.length ≤ 1000) (hr : Rise l) : Calls Tryz.prog 148 #[v] w fun e w' => e = .returned (.bool true) ∧ Chg [] w w' := by
  obtain ⟨g, c, pb, cb, rfl, -, -, -, c0, c1, hcb, hp⟩ := h.open_
  have HP := Lib.hid hp
  have HR := Lib.hid hr
  have n0 : decide (k ≤ 0) = false := decide_eq_false (by omega)
  have n1 : decide (1099511627776 < k) = false := decide_eq_false (by omega)
  have n2 : ((l.length : Int) == 0) = false := beq_eq_false_iff_ne.2 (by omega)
  have hcbi : (l.length : Int) ≤ cb := by omega
  clear h hp hr
  go_enter Tryz.func148, Tryz.ntmps148
  go_wp2_with fail
  go_loopw [3, 5, 6, 9] (fun s _ _ i wr => (i = .int .i64 0 ∧ s = .int .i64 0 ∧ wr = w) ∨ (i = .int .i64 1 ∧ Chg [] w wr)) (fun _ _ _ i _ => 1 - (intOf i).toNat)
  case atStart => exact Or.inl ⟨rfl, rfl, rfl⟩
  case round =>
    rcases hrel with ⟨rfl, rfl, rfl⟩ | ⟨rfl, kr⟩
    · have ka : Chg [] wr (wr.alloc (.cells #[.int .i64 k, .slice pb l.length cb] 128)) := Chg.alloc wr _
      have A0 := heap_new wr (.cells #[.int .i64 k, .slice pb l.length cb] 128)
      go_wp2_with fail
      generalize hzz : wr.heap.size = z at *
      generalize wr.alloc (.cells #[.int .i64 k, .slice pb l.length cb] 128) = w2 at *
      go_loopw [6] (fun i wz => ∃ j : Nat, 1 ≤ j ∧ j ≤ l.length ∧ i = .int .i64 j ∧ Chg [] w2 wz) (fun i _ => l.length - (intOf i).toNat)
      case atStart => exact ⟨1, by omega, by omega, rfl, Chg.refl _ _⟩
      case round =>
        obtain ⟨j, hj1, hj, rfl, kz⟩ := hrel
        rename World => wz
        have b1 : wz.cell? ⟨z, 1, none⟩ = some (.slice pb l.length cb) := cell_is (kz.heap A0 (by simp)) 1 rfl
        by_cases hlt : j < l.length
        · obtain ⟨q, rfl⟩ : ∃ q, j = q + 1 := ⟨j - 1, by omega⟩
          have hP2 := (HP.out.keep0 ka).keep0 kz
          obtain ⟨gp, cap, gd, cd, hv, -, d1, -, -, -, -⟩ := hP2.get (q + 1) hlt
          obtain ⟨gp', cap', gd', cd', hv', -, d0, -, -, -, -⟩ := hP2.get q (by omega)
          cases hv
          cases hv'
          have hlt2 := HR.out q hlt
          have hnle : decide ((l[q + 1]).1 ≤ (l[q]'(by omega)).1) = false := decide_eq_false (by omega)
          have hwq : IntKind.i64.wrap (((q + 1 : Nat) : Int) - 1) = q := by rw [IntKind.wrap_i64]; omega
          have hqi : (q : Int) < l.length := by omega
          have hqi2 : ((q + 1 : Nat) : Int) < l.length := by omega
          clear hP2 HP HR hlt2
          generalize (l[q + 1]).1 = x at *
          generalize (l[q]'(by omega)).1 = y at *
          go_wp2_with fail
          go_quiet (fail)
          go_wp2_with fail
          exact ⟨⟨q + 2, by omega, by omega, by go_num, kz.drewN nq⟩, by simp [intOf]; omega⟩
        · obtain rfl : j = l.length := by omega
          go_wp2_with fail
          exact ⟨Or.inr ⟨rfl, ka.then kz⟩, by decide⟩
    · go_wp2_with fail
      go_ret
      exact ⟨rfl, kr⟩
set_option maxRecDepth 100000 in
set_option maxHeartbeats 1000000 in
theorem blocks_one_r (w : World) {lo : Nat} {v : Value} {k num : Int} {l : List (Int × List UInt8)} (h : TxR w lo v k l) (hl : l.length ≤ 1000) : Calls Tryz.prog 149 #[.agg #[.int .i64 num, v]] w fun e w' => e = .returned (.int .i64 ((1 + l.length : Nat) : Int)) ∧ Chg [] w w' := by
  have k0 : Chg [] w (w.alloc (.cells #[.int .i64 num, v] 94)) := Chg.alloc w _
  have K0 := heap_new w (.cells #[.int .i64 num, v] 94)
  obtain ⟨g, c, pb, cb, rfl, -, -, -, c0, c1, hcb, -⟩ := (h.keep k0).open_
  have b1 : (w.alloc (.cells #[.int .i64 num, .slice (some ⟨g, 0, none⟩) 1 c] 94)).cell? ⟨w.heap.size, 1, none⟩ = some (.slice (some ⟨g, 0, none⟩) 1 c) := cell_is K0 1 rfl
  clear h K0
  go_enter Tryz.func149, Tryz.ntmps149
  go_wp2_with fail
  generalize w.alloc (.cells #[.int .i64 num, .slice (some ⟨g, 0, none⟩) 1 c] 94) = w1 at *
  go_loopw [3, 5, 9] (fun n _ i wr => (i = .int .i64 0 ∧ n = .int .i64 1 ∧ wr = w1) ∨ (i = .int .i64 1 ∧ n = .int .i64 ((1 + l.length : Nat) : Int) ∧ Chg [] w1 wr)) (fun _ _ i _ => 1 - (intOf i).toNat)
  case atStart => exact Or.inl ⟨rfl, rfl, rfl⟩
  case round =>
    rcases hrel with ⟨rfl, rfl, rfl⟩ | ⟨rfl, rfl, kr⟩
    · have ka : Chg [] wr (wr.alloc (.cells #[.int .i64 k, .slice pb l.length cb] 128)) := Chg.alloc wr _
      go_wp2_with fail
      go_roundw
      case rel => exact Or.inr ⟨rfl, by go_num, ka⟩
      case measure => decide
    · go_wp2_with fail
      go_ret
      exact ⟨rfl, k0.then kr⟩
theorem idxputs_200_r (w : World) {lo cb : Nat} {pb : Option Addr} {l : List (Int × List UInt8)} (hp : PutsR w lo (.slice pb l.length cb) l) (hk : ∀ x ∈ l, 0 ≤ x.1 ∧ x.1 < 258) (hl : l.length ≤ 1000) : Calls Tryz.prog 137 #[.slice pb l.length cb, .func (.func 150) #[] #[]] w fun e w' => e = .returned (.int .i64 (-1)) ∧ Chg [] w w' := by
  have hG : ∀ (w1 : World) (b : Int) (pd : Option Addr) (cd : Nat), 0 ≤ b → b < 258 → Calls Tryz.prog 150 #[.agg #[.int .i64 b, .slice pd 40 cd]] w1 fun e w' => e = .returned (.bool false) ∧ Chg [] w1 w' := fun w1 b pd cd h0 h1 => bcheck1_ok w1 h0 h1
  have HG := Lib.hid hG
  have HP := Lib.hid hp
  have HK := Lib.hid hk
  have hcb : l.length ≤ cb := by obtain ⟨pa, c, e, h, -⟩ := id hp; cases e; exact h
  clear hG hp hk
  go_enter Tryz.func137, Tryz.ntmps137
  go_wp2_with fail
  go_loopw [5, 8] (fun _ i wr => ∃ j : Nat, j ≤ l.length ∧ i = .int .i64 j ∧ Chg [] w wr) (fun _ i _ => l.length - (intOf i).toNat)
  case atStart => exact ⟨0, by omega, rfl, Chg.refl _ _⟩
  case round =>
    obtain ⟨j, hj, rfl, kr⟩ := hrel
    by_cases hlt : j < l.length
    · obtain ⟨g, cap, gd, cd, hv, -, d0, d1, -, -, -⟩ := (HP.out.keep0 kr).get j hlt
      cases hv
      have hb := HK.out l[j] (List.getElem_mem hlt)
      have HB := Lib.hid (HG.out wr l[j].1 (some ⟨gd, 0, none⟩) cd hb.1 hb.2)
      clear hb
      generalize (l[j]).1 = x at *
      go_wp2_with fail
      refine HB.out.mono ?_
      rintro e w2 ⟨rfl, k2⟩
      go_wp2_with fail
      go_roundw
      case rel => exact ⟨j + 1, by omega, by simp, kr.then k2⟩
      case measure => simp [intOf]; omega
    · obtain rfl : j = l.length := by omega
      go_wp2_with fail
      go_ret
      exact ⟨rfl, kr⟩
set_option maxRecDepth 100000 in
theorem contputs_200_r (w : World) {lo cb : Nat} {pb : Option Addr} {l : List (Int × List UInt8)} (hp : PutsR w lo (.slice pb l.length cb) l) (hk : ∀ x ∈ l, 0 ≤ x.1 ∧ x.1 < 258) (hl : l.length ≤ 1000) : Calls Tryz.prog 113 #[.slice pb l.length cb, .func (.func 150) #[] #[]] w fun e w' => e = .returned (.bool false) ∧ Chg [] w w' := by
  have HI := Lib.hid (idxputs_200_r w hp hk hl)
  clear hp hk
  go_enter Tryz.func113, Tryz.ntmps113
  go_wp2_with fail
  refine HI.out.mono ?_
  rintro e w2 ⟨rfl, k⟩
  go_wp2_with fail
  go_ret
  exact ⟨rfl, k⟩
set_option maxRecDepth 100000 in
set_option maxHeartbeats 4000000 in
theorem bcheck_one_r (w : World) {lo : Nat} {v : Value} {k num : Int} {l : List (Int × List UInt8)} (h : TxR w lo v k l) (hn0 : 1 ≤ num) (hn1 : num ≤ 1099511627776) (hk0 : 1 ≤ k) (hk1 : k ≤ 1099511627776) (hl0 : 0 < l.length) (hl : l.length ≤ 16) (hr : Rise l) (hk : ∀ x ∈ l, 0 ≤ x.1 ∧ x.1 < 258) :
    Calls Tryz.prog 129 #[.agg #[.int .i64 num, v]] w fun e w' => e = .returned (.int .i64 0) ∧ Chg [] w w' := by
  have k0 : Chg [] w (w.alloc (.cells #[.int .i64 num, v] 94)) := Chg.alloc w _
  have K0 := heap_new w (.cells #[.int .i64 num, v] 94)
  have h1 := h.keep k0
  obtain ⟨g, c, pb, cb, rfl, hc1, -, -, c0, c1, hcb, hp⟩ := h1.open_
  have b0 : (w.alloc (.cells #[.int .i64 num, .slice (some ⟨g, 0, none⟩) 1 c] 94)).cell? ⟨w.heap.size, 0, none⟩ = some (.int .i64 num) := cell_is K0 0 rfl
  have b1 : (w.alloc (.cells #[.int .i64 num, .slice (some ⟨g, 0, none⟩) 1 c] 94)).cell? ⟨w.heap.size, 1, none⟩ = some (.slice (some ⟨g, 0, none⟩) 1 c) := cell_is K0 1 rfl
  have n0 : decide (num < 1) = false := decide_eq_false (by omega)
  have n1 : decide (1099511627776 < num) = false := decide_eq_false (by omega)
  have n2 : decide (16 < (l.length : Int)) = false := decide_eq_false (by omega)
  have n3 : decide (33 < ((1 + l.length : Nat) : Int)) = false := decide_eq_false (by omega)
  have n3' : decide (33 < 1 + (l.length : Int)) = false := decide_eq_false (by omega)
  have HO := Lib.hid (order_one_r _ h1 hk0 hk1 hl0 (by omega) hr)
  have HB := Lib.hid (fun w1 (kk : Chg [] (w.alloc (.cells #[.int .i64 num, .slice (some ⟨g, 0, none⟩) 1 c] 94)) w1) => blocks_one_r w1 (num := num) (h1.keep kk) (by omega))
  have HC := Lib.hid (fun w1 (kk : Chg [] (w.alloc (.cells #[.int .i64 num, .slice (some ⟨g, 0, none⟩) 1 c] 94)) w1) => contputs_200_r w1 (hp.keep0 kk) hk (by omega))
  clear h h1 hp hr hk
  go_enter Tryz.func129, Tryz.ntmps129
  go_wp2_with fail
  generalize w.alloc (.cells #[.int .i64 num, .slice (some ⟨g, 0, none⟩) 1 c] 94) = w1 at *
  generalize hz : w.heap.size = z at *
  refine HO.out.mono ?_
  rintro e w2 ⟨rfl, k2⟩
  have b02 := k2.cell b0 (by simp)
  have b12 := k2.cell b1 (by simp)
  go_wp2_with fail
  refine (HB.out w2 k2).mono ?_
  rintro e w3 ⟨rfl, k3⟩
  have k23 := k2.then k3
  have b13 := k23.cell b1 (by simp)
  have c03 := k23.cell c0 (by simp)
  have c13 := k23.cell c1 (by simp)
  clear HO HB
  go_wp2_with fail
  go_loopw [3, 4, 39] (fun _ _ i wr => (i = .int .i64 0 ∧ wr = w3) ∨ (i = .int .i64 1 ∧ Chg [] w1 wr)) (fun _ _ i _ => 1 - (intOf i).toNat)
  case atStart => exact Or.inl ⟨rfl, rfl⟩
  case round =>
    rcases hrel with ⟨rfl, rfl⟩ | ⟨rfl, kr⟩
    · have ka : Chg [] wr (wr.alloc (.cells #[.int .i64 k, .slice pb l.length cb] 128)) := Chg.alloc wr _
      have A0 := heap_new wr (.cells #[.int .i64 k, .slice pb l.length cb] 128)
      have HC4 := Lib.hid (HC.out _ ((k23.then ka).drew))
      go_wp2_with fail
      generalize wr.alloc (.cells #[.int .i64 k, .slice pb l.length cb] 128) = w4 at *
      generalize wr.heap.size = z4 at *
      have a1 : w4.cell? ⟨z4, 1, none⟩ = some (.slice pb l.length cb) := cell_is A0 1 rfl
      have a1d : w4.drew.cell? ⟨z4, 1, none⟩ = some (.slice pb l.length cb) := a1
      refine region_tail 24 (by kernel_rfl) (by kernel_rfl) ?_
      simp only [List.take_succ_cons, List.take_zero, List.drop_succ_cons, List.drop_zero]
      repeat (go_big_quiet_step (fail))
      refine wpQuiet_nil ?_
      go_wp2_with fail
      refine HC4.out.mono ?_
      rintro e w6 ⟨rfl, k6⟩
      have kf := ((k23.then ka).drew).then k6
      clear HC4 HC k6
      go_wp2_with fail
      go_roundw
      case rel => exact Or.inr ⟨rfl, kf⟩
      case measure => decide
    · go_wp2_with fail
      go_ret
      exact ⟨rfl, k0.then kr⟩
end Go.Proofs.YtnelakpdmjfolaaGreat
namespace Go.Proofs.YtnelakpdmjfolaaGreat
open Go.RowKit Go.Lib

theorem bod_at (k n : Nat) : (bodL k n)[8]? = some 1 ∧ (bodL k n)[9]? = some 0 ∧ (bodL k n)[10]? = some 0 ∧ (bodL k n)[11]? = some (UInt8.ofNat n) := by
  have h : (leB k 8).length = 8 := leB_length _ _
  unfold bodL
  refine ⟨?_, ?_, ?_, ?_⟩ <;> rw [List.getElem?_append_right (by omega), h] <;> rfl
/-- .. when one block of another type has changed. -/
theorem TxR.keepS {w w' : World} {lo x : Nat} {v : Value} {k : Int} {l : List (Int × List UInt8)} {cs : Array Value} {t : TypeId} (h : TxR w lo v k l) (hc : Chg [x] w w') (hx : w.heap[x]? = some (.cells cs t (0, 0))) (ht : t = 94) : TxR w' lo v k l := by
  subst ht
  obtain ⟨g, c, cs2, pv, h1, h2, h3, h4, h5, h6, gp, cap, h7, h8, ⟨csp, h10⟩, h9⟩ := h
  refine ⟨g, c, cs2, pv, h1, h2, h3, hc.heap h4 (by simpa using heap_ne h4 hx (by simp)), h5, h6, gp, cap, h7, h8, ⟨csp, hc.heap h10 (by simpa using heap_ne h10 hx (by simp))⟩, fun j hj => ?_⟩
  obtain ⟨gd, cd, c0, c1, b, n, t⟩ := h9 j hj
  have hgd : gd ∉ [x] := by
    obtain ⟨cs3, hh⟩ := t
    simpa using heap_ne hh hx (by simp)
  have hgp : gp ∉ [x] := by simpa using heap_ne h10 hx (by simp)
  exact ⟨gd, cd, hc.cell c0 hgp, hc.cell c1 hgp, b.chgT hc hgd, n, Bt.keep t hc hgd⟩
/-- what a batch's frames are made into. -/
def BatR (w : World) (num k : Nat) (l : List (Int × List UInt8)) (r : Ending) (w' : World) : Prop :=
  ∃ gv cv, r = .returned (.tuple #[.agg #[.int .i64 num, .slice (some ⟨gv, 0, none⟩) 1 cv], .bool true]) ∧ Chg [] w w' ∧ TxR w' w.heap.size (.slice (some ⟨gv, 0, none⟩) 1 cv) k l
set_option maxRecDepth 100000 in
set_option maxHeartbeats 4000000 in
theorem bbatch_ok (w : World) {lo g2 c2 e num k gp ca : Nat} {l : List (Int × List UInt8)} (hp : PutsAt w lo (.slice (some ⟨gp, 0, none⟩) l.length ca) l) (hca : l.length ≤ ca) (hB : Bs w (some ⟨g2, 0, none⟩) (bodL k l.length)) (hc2 : 12 ≤ c2) (hl0 : 0 < l.length) (hl : l.length ≤ 16) (hk0 : 1 ≤ k) (hk1 : k ≤ 1099511627776) (hn0 : 1 ≤ num) (hn1 : num ≤ 1099511627776) (hr : Rise l) (hk : ∀ x ∈ l, 0 ≤ x.1 ∧ x.1 < 258) :
    Calls Tryz.prog 109 #[.agg #[.int .i64 2, .int .i64 e, .int .i64 num, .int .i64 l.length, .slice (some ⟨g2, 0, none⟩) 12 c2], .slice (some ⟨gp, 0, none⟩) l.length ca] w (BatR w num k l) := by
  have hbl : (bodL k l.length).length = 12 := by simp [bodL, leB_length]
  have hat := bod_at k l.length
  have en : (UInt8.ofNat l.length).toNat = l.length := by simp; omega
  have cell : ∀ (j : Nat) (b : UInt8) (n : Int), (bodL k l.length)[j]? = some b → (b.toNat : Int) = n → w.cell? ⟨g2, j, none⟩ = some (.int .u8 n) := fun j b n h1 h2 => by
    obtain ⟨hj, h3⟩ := List.getElem?_eq_some_iff.1 h1
    have := hB.at_ j hj
    rw [h3, h2, Nat.zero_add] at this
    exact this
  have x8 := cell 8 1 1 hat.1 rfl
  have x9 := cell 9 0 0 hat.2.1 rfl
  have x10 := cell 10 0 0 hat.2.2.1 rfl
  have x11 := cell 11 _ l.length hat.2.2.2 (by rw [en])
  have hpre : (bodL k l.length).take 8 = leB k 8 := cat_take _ _ (leB_length _ _)
  have kA : Chg [] w ((w.alloc (.cells #[.int .i64 2, .int .i64 e, .int .i64 num, .int .i64 l.length, .slice (some ⟨g2, 0, none⟩) 12 c2] 176)).alloc (.cells #[.int .i64 0, .slice none 0 0] 94)) := (Chg.alloc w _).then_alloc _
  have Z1 := (two_new w (.cells #[.int .i64 2, .int .i64 e, .int .i64 num, .int .i64 l.length, .slice (some ⟨g2, 0, none⟩) 12 c2] 176) (.cells #[.int .i64 0, .slice none 0 0] 94))
  have HG := Lib.hid (get64_le _ (c := c2) (hB.chg kA) hbl (by decide) (by decide) hpre (by omega))
  have HP := Lib.hid hp
  have HLt := Lib.hid (World.block_lt_of_cell? _ _ x8 : g2 < w.heap.size)
  have HR := Lib.hid hr
  have HK := Lib.hid hk
  have HN := Lib.hid (And.intro hk0 (And.intro hk1 (And.intro hn0 (And.intro hn1 (And.intro hl0 hl)))))
  have y8 := kA.cell x8 (by simp)
  have y9 := kA.cell x9 (by simp)
  have y10 := kA.cell x10 (by simp)
  have y11 := kA.cell x11 (by simp)
  have hqq : ∀ y : Int, (y != y) = false := fun y => bne_self_eq_false y
  have hc2i : (12 : Int) ≤ c2 := by omega
  have hcai : (l.length : Int) ≤ ca := by omega
  have hmin : min (k : Int) 4611686018427387904 = (k : Int) := by omega
  have hl16 : l.length ≤ 16 := hl
  have hk40 : k ≤ 1099511627776 := hk1
  have hor : bits .or .i64 0 0 = 0 := by decide
  have hor8 : bits .or .u8 0 0 = 0 := by decide
  clear hbl hat en cell x8 x9 x10 x11 hpre hp hr hk hB hk0 hk1 hn0 hn1 hl0 hl hca hc2
  go_enter Tryz.func109, Tryz.ntmps109
  go_wp2_with fail
  generalize (w.alloc (.cells #[.int .i64 2, .int .i64 e, .int .i64 num, .int .i64 l.length, .slice (some ⟨g2, 0, none⟩) 12 c2] 176)).alloc (.cells #[.int .i64 0, .slice none 0 0] 94) = w1 at *
  generalize hzz : w.heap.size = z at *
  have HZz := Lib.hid hzz
  refine HG.out.mono ?_
  rintro r w2 ⟨rfl, rfl⟩
  have HZ := Lib.hid Z1
  have q4 : w1.cell? ⟨z, 4, none⟩ = some (.slice (some ⟨g2, 0, none⟩) 12 c2) := cell_is Z1.1 4 rfl
  have q2 : w1.cell? ⟨z, 2, none⟩ = some (.int .i64 num) := cell_is Z1.1 2 rfl
  have t0 : w1.cell? ⟨z + 1, 0, none⟩ = some (.int .i64 0) := cell_is Z1.2 0 rfl
  have u0 := unfrozen Z1.2 0
  clear Z1 HG hzz
  go_wp2_with fail
  go_quiet (fail)
  go_wp2_with fail
  have kS : Chg [z + 1] w1 ((w1.drewN nq).setCell ⟨z + 1, 0, none⟩ (.int .i64 num)) := ((Chg.refl [z + 1] w1).drewN nq).then_set (fun _ => by simp) 0 _
  have Z4 : ((w1.drewN nq).setCell ⟨z + 1, 0, none⟩ (.int .i64 num)).heap[z + 1]? = some (.cells #[.int .i64 num, .slice none 0 0] 94 (0, 0)) := heap_set (show (w1.drewN nq).heap[z + 1]? = _ from HZ.out.2) 0 _ rfl
  have k4 : Chg [] w ((w1.drewN nq).setCell ⟨z + 1, 0, none⟩ (.int .i64 num)) := kA.trans kS (fun x hx hlt => by have := HZz.out; simp at hx; omega)
  have hgz : g2 ∉ [z + 1] := by
    have h1 := HLt.out
    simp
    omega
  have x9 := kS.cell y9 hgz
  have x10 := kS.cell y10 hgz
  have x11 := kS.cell y11 hgz
  have HP4 := Lib.hid (HP.out.keep0 k4)
  clear kS kA y8 y9 y10 y11 q4 q2 t0 u0 HZ HP
  generalize (w1.drewN nq).setCell ⟨z + 1, 0, none⟩ (.int .i64 num) = w4 at *
  go_loopw [1, 5, 11, 12, 13, 69] (fun p _ t _ _ i wr => (i = .int .i64 0 ∧ p = .slice (some ⟨gp, 0, none⟩) l.length ca ∧ t = .int .i64 k ∧ wr = w4) ∨ (i = .int .i64 1 ∧ (∃ a c, p = .slice a 0 c) ∧ Chg [] w wr ∧ ∃ gv cv, wr.heap[z + 1]? = some (.cells #[.int .i64 num, .slice (some ⟨gv, 0, none⟩) 1 cv] 94 (0, 0)) ∧ TxR wr w.heap.size (.slice (some ⟨gv, 0, none⟩) 1 cv) k l)) (fun _ _ _ _ _ i _ => 1 - (intOf i).toNat)
  case atStart => exact Or.inl ⟨rfl, rfl, rfl, rfl⟩
  case round =>
    rcases hrel with ⟨rfl, rfl, rfl, rfl⟩ | ⟨rfl, ⟨a, c, rfl⟩, kr, gv, cv, hb, ht⟩
    · rename World => wr
      go_wp2_with fail
      go_quiet (fail)
      rename Nat => n0
      go_wp2_with fail
      go_quiet (fail)
      go_wp2_with fail
      have Zq : ((wr.drewN n0).drewN nq).heap[z + 1]? = some (.cells #[.int .i64 num, .slice none 0 0] 94 (0, 0)) := Z4
      have kq : Chg [] w ((wr.drewN n0).drewN nq) := (k4.drewN n0).drewN nq
      have HPq := Lib.hid (HP4.out.keep0 (((Chg.refl [] wr).drewN n0).drewN nq))
      clear Z4 k4 HP4 x9 x10 x11
      generalize (wr.drewN n0).drewN nq = w6 at *
      have t1 : w6.cell? ⟨z + 1, 1, none⟩ = some (.slice none 0 0) := cell_is Zq 1 rfl
      have t1d : w6.drew.cell? ⟨z + 1, 1, none⟩ = some (.slice none 0 0) := t1
      have ka : Chg [] w6 (w6.alloc (.cells #[.int .i64 k, .slice (some ⟨gp, 0, none⟩) l.length l.length] 128)).drew := (Chg.alloc w6 _).drew
      have y0 : (w6.alloc (.cells #[.int .i64 k, .slice (some ⟨gp, 0, none⟩) l.length l.length] 128)).drew.heap[w6.heap.size]? = some (.cells #[.int .i64 k, .slice (some ⟨gp, 0, none⟩) l.length l.length] 128 (0, 0)) := heap_new w6 (.cells #[.int .i64 k, .slice (some ⟨gp, 0, none⟩) l.length l.length] 128)
      have Za := ka.heap Zq (by simp)
      have t1a := cell_is Za 1 (v := .slice none 0 0) rfl
      go_region_law
        (first
          | (refine step_append_tx rfl (.tmp 114) (.tmp 121) rfl w6.heap.size 1 _ _ rfl rfl (cell_is y0 0 rfl) (cell_is y0 1 rfl) ⟨rfl, rfl⟩ ?_; intro g5 cp5 w7 o5 k5; have Z7 := k5.heap Za (by simp); have s1 := cell_is Z7 1 (v := .slice none 0 0) rfl; have v1 := unfrozen Z7 1))
      all_goals
        have kS : Chg [z + 1] w7 (w7.setCell ⟨z + 1, 1, none⟩ (.slice (some ⟨g5, 0, none⟩) 1 cp5)) := Chg.set w7 _ _ _
        have ZF : (w7.setCell ⟨z + 1, 1, none⟩ (.slice (some ⟨g5, 0, none⟩) 1 cp5)).heap[z + 1]? = some (.cells #[.int .i64 num, .slice (some ⟨g5, 0, none⟩) 1 cp5] 94 (0, 0)) := heap_set Z7 1 _ rfl
        have kF : Chg [] w (w7.setCell ⟨z + 1, 1, none⟩ (.slice (some ⟨g5, 0, none⟩) 1 cp5)) := ((kq.then ka).then k5).new_set (by have := HZz.out; omega) 1 _
        have hpF : PutsAt (w7.setCell ⟨z + 1, 1, none⟩ (.slice (some ⟨g5, 0, none⟩) 1 cp5)) lo (.slice (some ⟨gp, 0, none⟩) l.length ca) l := by
          have hp7 := HPq.out.keep0 (ka.then k5)
          refine hp7.keep kS (Av.row Z7 (by decide)) (fun g hg hm => ?_)
          obtain ⟨-, cs, hh⟩ := hp7.block g hg
          rw [List.mem_singleton] at hm
          subst hm
          rw [Z7] at hh
          cases hh
        have hTx : TxR (w7.setCell ⟨z + 1, 1, none⟩ (.slice (some ⟨g5, 0, none⟩) 1 cp5)) w.heap.size (.slice (some ⟨g5, 0, none⟩) 1 cp5) k l := by
          have hsz := (kq.then ka).size
          rcases o5.2 with ⟨e, h0⟩ | ⟨g', cap', cur', e, hle, hh, hc1, -, -, ht⟩
          · omega
          · cases e
            have hne : g5 ≠ z + 1 := heap_ne hh Z7 (by simp)
            refine ⟨g5, cp5, cur', .slice (some ⟨gp, 0, none⟩) l.length l.length, rfl, hc1, by omega, kS.heap hh (by simpa using hne), ?_, ?_, hpF.read (Nat.le_refl _)⟩
            · have := congrArg (fun l => l[0]?) ht
              simpa [List.getElem?_take] using this
            · have := congrArg (fun l => l[1]?) ht
              simpa [List.getElem?_take] using this
        have HFin := Lib.hid (And.intro kF (And.intro ZF hTx))
        clear kS ZF kF hpF hTx o5 k5 Z7 s1 v1 Za t1a y0 ka t1 t1d Zq kq HPq
        go_wp2_with fail
        all_goals exact ⟨Or.inr ⟨rfl, ⟨_, _, rfl⟩, HFin.out.1, g5, cp5, HFin.out.2⟩, by decide⟩
    · rename World => wr
      have s0 := cell_is hb 0 (v := .int .i64 num) rfl
      have s1 := cell_is hb 1 (v := .slice (some ⟨gv, 0, none⟩) 1 cv) rfl
      have HCk := Lib.hid (bcheck_one_r wr.drew (num := num) (ht.keep (Chg.refl [] wr).drew) (by have := HN.out; omega) (by have := HN.out; omega) (by have := HN.out; omega) (by have := HN.out; omega) HN.out.2.2.2.2.1 HN.out.2.2.2.2.2 HR.out HK.out)
      have HTx := Lib.hid ht
      have HB := Lib.hid hb
      clear Z4 k4 HP4 x9 x10 x11 ht hb
      go_wp2_with fail
      have s0d : wr.drew.cell? ⟨z + 1, 0, none⟩ = some (.int .i64 num) := s0
      have s1d : wr.drew.cell? ⟨z + 1, 1, none⟩ = some (.slice (some ⟨gv, 0, none⟩) 1 cv) := s1
      go_region_held3 (fun wx => wx.cell? ⟨z + 1, 0, none⟩ = some (.int .i64 num) ∧ wx.cell? ⟨z + 1, 1, none⟩ = some (.slice (some ⟨gv, 0, none⟩) 1 cv))
        (first | (exact ⟨s0, s1⟩) | (exact ⟨s0d, s1d⟩) | (exact ⟨r0, r1⟩) | (exact fS))
        (first
          | (go_at_call 129; refine HCk.out.mono ?_; rintro e w6 ⟨rfl, k6⟩; have hb6 := k6.heap (show wr.drew.heap[z + 1]? = _ from HB.out) (by simp)
             have r0 := cell_is hb6 0 (v := .int .i64 num) rfl
             have r1 := cell_is hb6 1 (v := .slice (some ⟨gv, 0, none⟩) 1 cv) rfl
             have v0 := unfrozen hb6 0
             have v1 := unfrozen hb6 1
             have hbF : ((w6.setCell ⟨z + 1, 0, none⟩ (.int .i64 num)).setCell ⟨z + 1, 1, none⟩ (.slice (some ⟨gv, 0, none⟩) 1 cv)).heap[z + 1]? = some (.cells #[.int .i64 num, .slice (some ⟨gv, 0, none⟩) 1 cv] 94 (0, 0)) := heap_set (heap_set hb6 0 _ rfl) 1 _ rfl
             have fS : ((w6.setCell ⟨z + 1, 0, none⟩ (.int .i64 num)).setCell ⟨z + 1, 1, none⟩ (.slice (some ⟨gv, 0, none⟩) 1 cv)).cell? ⟨z + 1, 0, none⟩ = some (.int .i64 num) ∧ ((w6.setCell ⟨z + 1, 0, none⟩ (.int .i64 num)).setCell ⟨z + 1, 1, none⟩ (.slice (some ⟨gv, 0, none⟩) 1 cv)).cell? ⟨z + 1, 1, none⟩ = some (.slice (some ⟨gv, 0, none⟩) 1 cv) := ⟨cell_is hbF 0 rfl, cell_is hbF 1 rfl⟩))
      all_goals
        have kF : Chg [] w ((w6.setCell ⟨z + 1, 0, none⟩ (.int .i64 num)).setCell ⟨z + 1, 1, none⟩ (.slice (some ⟨gv, 0, none⟩) 1 cv)) := (((kr.drew.then k6).new_set (by have := HZz.out; omega) 0 _).new_set (by have := HZz.out; omega) 1 _)
        have kS : Chg [z + 1] w6 ((w6.setCell ⟨z + 1, 0, none⟩ (.int .i64 num)).setCell ⟨z + 1, 1, none⟩ (.slice (some ⟨gv, 0, none⟩) 1 cv)) := ((Chg.refl [z + 1] w6).then_set (fun _ => by simp) 0 _).then_set (fun _ => by simp) 1 _
        have hT6 := (HTx.out.keep (Chg.refl [] wr).drew).keep k6
        have hTF : TxR ((w6.setCell ⟨z + 1, 0, none⟩ (.int .i64 num)).setCell ⟨z + 1, 1, none⟩ (.slice (some ⟨gv, 0, none⟩) 1 cv)) w.heap.size (.slice (some ⟨gv, 0, none⟩) 1 cv) k l := hT6.keepS kS hb6 (by decide)
        have HFin := Lib.hid (And.intro kF hTF)
        obtain ⟨n0, n1⟩ := id fS
        clear kF kS hT6 hTF fS hbF v0 v1 r0 r1 hb6 k6 s0 s1 s0d s1d HTx HB HCk
        go_wp2_with fail
        refine bodyPost_ret (v := .tuple #[.agg #[.int .i64 num, .slice (some ⟨gv, 0, none⟩) 1 cv], .bool true]) (by simp [results, Tryz.results109, go_sem, n0, n1]) rfl ?_
        exact ⟨gv, cv, rfl, HFin.out⟩
end Go.Proofs.YtnelakpdmjfolaaGreat
namespace Go.Proofs.YtnelakpdmjfolaaGreat
open Go.RowKit Go.Lib

/-- what Decode leaves of one batch. -/
def BDecR (w : World) (e num k : Nat) (l : List (Int × List UInt8)) (r : Ending) (w' : World) : Prop :=
  ∃ gv cv, r = .returned (.tuple #[.agg #[.int .i64 num, .slice (some ⟨gv, 0, none⟩) 1 cv], .int .i64 e, .int .i64 ((l.length : Nat) + 1), .int .i64 0]) ∧ Chg [] w w' ∧ TxR w' w.heap.size (.slice (some ⟨gv, 0, none⟩) 1 cv) k l
theorem TxR.low {w : World} {lo lo' : Nat} {v : Value} {k : Int} {l : List (Int × List UInt8)} (h : TxR w lo v k l) (hl : lo' ≤ lo) : TxR w lo' v k l := by
  obtain ⟨g, c, cs, pv, h1, h2, h3, h4⟩ := h
  exact ⟨g, c, cs, pv, h1, h2, Nat.le_trans hl h3, h4⟩
set_option maxRecDepth 100000 in
set_option maxHeartbeats 4000000 in
theorem bdecode_ok (w : World) {G o m c e num k : Nat} {l : List (Int × List UInt8)} {more : List (List UInt8)} (hX : RowsX w G o (batL e num k l ++ more)) (hm : (batL e num k l ++ more).length = m) (hmc : m ≤ c) (hm1 : m ≤ 1000) (he : e < 4294967296) (hn0 : 1 ≤ num) (hnum : num ≤ 1099511627776) (hk0 : 1 ≤ k) (hk1 : k ≤ 1099511627776) (hl0 : 0 < l.length) (hl : l.length ≤ 16) (hr : Rise l) (hk : ∀ x ∈ l, 0 ≤ x.1 ∧ x.1 < 258) (h40 : ∀ x ∈ l, x.2.length = 40) :
    Calls Tryz.prog 70 #[.slice (some ⟨G, o, none⟩) m c] w (BDecR w e num k l) := by
  have kA : Chg [] w (w.alloc (.cells #[.int .i64 0, .slice none 0 0] 94)) := Chg.alloc w _
  have A0 := heap_new w (.cells #[.int .i64 0, .slice none 0 0] 94)
  have HRow := Lib.hid (brow_ok _ (hX.keep kA) hm hmc hm1 he hnum hl0 hl hk h40)
  have HB := Lib.hid (fun w1 lo g2 c2 gp ca hp hca hB hc2 => bbatch_ok w1 (lo := lo) (g2 := g2) (c2 := c2) (e := e) (num := num) (k := k) (gp := gp) (ca := ca) (l := l) hp hca hB hc2 hl0 hl hk0 hk1 hn0 hnum hr hk)
  have HL := Lib.hid (And.intro hl0 hl)
  have hl16 : l.length ≤ 16 := hl
  clear hX hm hmc hm1 he hn0 hnum hk0 hk1 hl0 hl hr hk h40
  go_enter Tryz.func70, Tryz.ntmps70
  go_wp2_with fail
  generalize w.alloc (.cells #[.int .i64 0, .slice none 0 0] 94) = w1 at *
  generalize hzz : w.heap.size = z at *
  have HZz := Lib.hid hzz
  clear hzz
  refine HRow.out.mono ?_
  rintro r w2 ⟨pv, g2, c2, rfl, k2, hp2, hb2, ht2, hg2, hc2⟩
  obtain ⟨gp, ca, rfl, hca⟩ : ∃ gp ca, pv = .slice (some ⟨gp, 0, none⟩) l.length ca ∧ l.length ≤ ca := by
    obtain ⟨xs, ho, -⟩ := hp2
    rcases ho.2 with ⟨_, h0⟩ | ⟨g, cap, cur, e1, _, _, h1, _⟩
    · have := HL.out.1; omega
    · exact ⟨g, cap, e1, h1⟩
  have A2 := k2.heap A0 (by simp)
  have kB : Chg [] w2 (w2.alloc (.cells #[.int .i64 2, .int .i64 e, .int .i64 num, .int .i64 l.length, .slice (some ⟨g2, 0, none⟩) 12 c2] 176)) := Chg.alloc w2 _
  have B0 := heap_new w2 (.cells #[.int .i64 2, .int .i64 e, .int .i64 num, .int .i64 l.length, .slice (some ⟨g2, 0, none⟩) 12 c2] 176)
  have A3 := kB.heap A2 (by simp)
  have k3 := (kA.then k2).then kB
  have HBt := Lib.hid (HB.out _ _ _ _ _ _ (hp2.keep0 kB) hca (hb2.chg kB) hc2)
  have hzB : w2.heap.size ≠ z := by have := heap_lt A2; omega
  clear hp2 hb2 ht2 HRow HB A2 k2 A0 kA
  go_wp2_with fail
  generalize w2.alloc (.cells #[.int .i64 2, .int .i64 e, .int .i64 num, .int .i64 l.length, .slice (some ⟨g2, 0, none⟩) 12 c2] 176) = w3 at *
  generalize hbb : w2.heap.size = B at *
  clear hbb
  refine HBt.out.mono ?_
  rintro r w4 ⟨gv, cv, rfl, k4, ht4⟩
  have A4 := k4.heap A3 (by simp)
  have B4 := k4.heap B0 (by simp)
  have kk4 := k3.then k4
  have r0 := cell_is A4 0 (v := .int .i64 0) rfl
  have r1 := cell_is A4 1 (v := .slice none 0 0) rfl
  have v0 := unfrozen A4 0
  have v1 := unfrozen A4 1
  have HT := Lib.hid (And.intro kk4 (And.intro ht4 k3.size))
  have HA := Lib.hid (And.intro A4 B4)
  clear A4 B4 A3 B0 k3 k4 kk4 ht4 HBt kB
  go_wp2_with fail
  have A5 : ((w4.setCell ⟨z, 0, none⟩ (.int .i64 num)).setCell ⟨z, 1, none⟩ (.slice (some ⟨gv, 0, none⟩) 1 cv)).heap[z]? = some (.cells #[.int .i64 num, .slice (some ⟨gv, 0, none⟩) 1 cv] 94 (0, 0)) := heap_set (heap_set HA.out.1 0 _ rfl) 1 _ rfl
  have kS : Chg [z] w4 ((w4.setCell ⟨z, 0, none⟩ (.int .i64 num)).setCell ⟨z, 1, none⟩ (.slice (some ⟨gv, 0, none⟩) 1 cv)) := ((Chg.refl [z] w4).then_set (fun _ => by simp) 0 _).then_set (fun _ => by simp) 1 _
  have B5 := kS.heap HA.out.2 (by simpa using hzB)
  have HF := Lib.hid (show Chg [] w ((w4.setCell ⟨z, 0, none⟩ (.int .i64 num)).setCell ⟨z, 1, none⟩ (.slice (some ⟨gv, 0, none⟩) 1 cv)) ∧ TxR ((w4.setCell ⟨z, 0, none⟩ (.int .i64 num)).setCell ⟨z, 1, none⟩ (.slice (some ⟨gv, 0, none⟩) 1 cv)) w.heap.size (.slice (some ⟨gv, 0, none⟩) 1 cv) k l from
    ⟨HT.out.1.trans kS (fun x hx hlt => by have := HZz.out; simp at hx; omega), (HT.out.2.1.keepS kS HA.out.1 rfl).low HT.out.2.2⟩)
  clear kS HT HA r0 r1 v0 v1
  generalize ((w4.setCell ⟨z, 0, none⟩ (.int .i64 num)).setCell ⟨z, 1, none⟩ (.slice (some ⟨gv, 0, none⟩) 1 cv)) = w5 at *
  have s0 := cell_is A5 0 (v := .int .i64 num) rfl
  have s1 := cell_is A5 1 (v := .slice (some ⟨gv, 0, none⟩) 1 cv) rfl
  have b1 := cell_is B5 1 (v := .int .i64 e) rfl
  have f0 := unfrozen A5 0
  have f1 := unfrozen A5 1
  have f0d : w5.drew.frozen? ⟨z, 0, none⟩ = false := f0
  have f1d : w5.drew.frozen? ⟨z, 1, none⟩ = false := f1
  have fd : w5.drew.cell? ⟨z, 0, none⟩ = some (.int .i64 num) ∧ w5.drew.cell? ⟨z, 1, none⟩ = some (.slice (some ⟨gv, 0, none⟩) 1 cv) ∧ w5.drew.cell? ⟨B, 1, none⟩ = some (.int .i64 e) := ⟨s0, s1, b1⟩
  have r0 := fd.1
  have r1 := fd.2.1
  have kT : Chg [z] w5 ((w5.drew.setCell ⟨z, 0, none⟩ (.int .i64 num)).setCell ⟨z, 1, none⟩ (.slice (some ⟨gv, 0, none⟩) 1 cv)) := ((Chg.refl [z] w5).drew.then_set (fun _ => by simp) 0 _).then_set (fun _ => by simp) 1 _
  have A6 : ((w5.drew.setCell ⟨z, 0, none⟩ (.int .i64 num)).setCell ⟨z, 1, none⟩ (.slice (some ⟨gv, 0, none⟩) 1 cv)).heap[z]? = some (.cells #[.int .i64 num, .slice (some ⟨gv, 0, none⟩) 1 cv] 94 (0, 0)) := heap_set (heap_set (show w5.drew.heap[z]? = _ from A5) 0 _ rfl) 1 _ rfl
  have fS1 : ((w5.drew.setCell ⟨z, 0, none⟩ (.int .i64 num)).setCell ⟨z, 1, none⟩ (.slice (some ⟨gv, 0, none⟩) 1 cv)).cell? ⟨z, 0, none⟩ = some (.int .i64 num) ∧ ((w5.drew.setCell ⟨z, 0, none⟩ (.int .i64 num)).setCell ⟨z, 1, none⟩ (.slice (some ⟨gv, 0, none⟩) 1 cv)).cell? ⟨z, 1, none⟩ = some (.slice (some ⟨gv, 0, none⟩) 1 cv) ∧ ((w5.drew.setCell ⟨z, 0, none⟩ (.int .i64 num)).setCell ⟨z, 1, none⟩ (.slice (some ⟨gv, 0, none⟩) 1 cv)).cell? ⟨B, 1, none⟩ = some (.int .i64 e) := ⟨cell_is A6 0 rfl, cell_is A6 1 rfl, kT.cell b1 (by simpa using hzB)⟩
  have fS2 : ((w5.setCell ⟨z, 0, none⟩ (.int .i64 num)).setCell ⟨z, 1, none⟩ (.slice (some ⟨gv, 0, none⟩) 1 cv)).drew.cell? ⟨z, 0, none⟩ = some (.int .i64 num) ∧ ((w5.setCell ⟨z, 0, none⟩ (.int .i64 num)).setCell ⟨z, 1, none⟩ (.slice (some ⟨gv, 0, none⟩) 1 cv)).drew.cell? ⟨z, 1, none⟩ = some (.slice (some ⟨gv, 0, none⟩) 1 cv) ∧ ((w5.setCell ⟨z, 0, none⟩ (.int .i64 num)).setCell ⟨z, 1, none⟩ (.slice (some ⟨gv, 0, none⟩) 1 cv)).drew.cell? ⟨B, 1, none⟩ = some (.int .i64 e) := fS1
  have hwl : IntKind.i64.wrap ((l.length : Int) + 1) = (l.length : Int) + 1 := by rw [IntKind.wrap_i64]; omega
  have HG := Lib.hid (And.intro A5 (And.intro A6 kT))
  clear kT A6 A5 B5
  go_region_held3 (fun wx => wx.cell? ⟨z, 0, none⟩ = some (.int .i64 num) ∧ wx.cell? ⟨z, 1, none⟩ = some (.slice (some ⟨gv, 0, none⟩) 1 cv) ∧ wx.cell? ⟨B, 1, none⟩ = some (.int .i64 e))
    (first | (exact ⟨s0, s1, b1⟩) | (exact fd) | (with_reducible exact fS1) | (with_reducible exact fS2))
    (first | (fail))
  all_goals
    have kF : Chg [z] w5 ((w5.setCell ⟨z, 0, none⟩ (.int .i64 num)).setCell ⟨z, 1, none⟩ (.slice (some ⟨gv, 0, none⟩) 1 cv)).drew := (((Chg.refl [z] w5).then_set (fun _ => by simp) 0 _).then_set (fun _ => by simp) 1 _).drew
    have HFin := Lib.hid (show Chg [] w ((w5.setCell ⟨z, 0, none⟩ (.int .i64 num)).setCell ⟨z, 1, none⟩ (.slice (some ⟨gv, 0, none⟩) 1 cv)).drew ∧ TxR ((w5.setCell ⟨z, 0, none⟩ (.int .i64 num)).setCell ⟨z, 1, none⟩ (.slice (some ⟨gv, 0, none⟩) 1 cv)).drew w.heap.size (.slice (some ⟨gv, 0, none⟩) 1 cv) k l from
      ⟨HF.out.1.trans kF (fun x hx hlt => by have := HZz.out; simp at hx; omega), HF.out.2.keepS kF HG.out.1 rfl⟩)
    obtain ⟨n0, n1, -⟩ := id fS2
    clear kF
    go_wp2_with fail
    refine bodyPost_ret (v := .tuple #[.agg #[.int .i64 num, .slice (some ⟨gv, 0, none⟩) 1 cv], .int .i64 e, .int .i64 ((l.length : Nat) + 1), .int .i64 0]) (by simp [results, Tryz.results70, go_sem, n0, n1]) rfl ?_
    exact ⟨gv, cv, rfl, HFin.out⟩
end Go.Proofs.YtnelakpdmjfolaaGreat
namespace Go.Proofs.YtnelakpdmjfolaaGreat
open Go.RowKit Go.Lib

theorem RowsC.x {w : World} {base : Nat} {v : Value} {l : List (List UInt8)} (h : RowsC w base v l) (hl : 0 < l.length) : ∃ g c, v = .slice (some ⟨g, 0, none⟩) l.length c ∧ l.length ≤ c ∧ RowsX w g 0 l ∧ base ≤ g := by
  obtain ⟨xs, ho, hx⟩ := h
  rcases ho.2 with ⟨_, h0⟩ | ⟨g, cap, cur, rfl, hA, hg, hc1, hc2, hc3, ht⟩
  · omega
  · refine ⟨g, cap, rfl, hc1, fun i hi => ?_, hA⟩
    obtain ⟨gi, ci, h1, h0, h2, h3, h4⟩ := hx i hi
    refine ⟨gi, ci, ?_, h0, h2, h4⟩
    rw [Nat.zero_add]
    refine cell_is hg _ ?_
    rw [← ht, List.getElem?_take_of_lt (by omega), Array.getElem?_toList] at h1
    exact h1
theorem RowsX.drop {w : World} {g : Nat} {l : List (List UInt8)} (h : RowsX w g 0 l) (o : Nat) : RowsX w g o (l.drop o) := fun i hi => by
  have hi2 : o + i < l.length := by rw [List.length_drop] at hi; omega
  obtain ⟨gi, ci, h1, h2, h3, h4⟩ := h (o + i) hi2
  rw [Nat.zero_add] at h1
  exact ⟨gi, ci, h1, h2, by rw [List.getElem_drop]; exact h3, h4⟩
/-- all these rows begin as a batch's do. -/
def Kd (l : List (List UInt8)) : Prop := ∀ x ∈ l, ∃ a t, x = a :: t ∧ ((a.toNat : Int) = 1 ∨ (a.toNat : Int) = 2)
theorem Kd.app {l k : List (List UInt8)} (h : Kd l) (h2 : Kd k) : Kd (l ++ k) := fun x hx => by
  rcases List.mem_append.1 hx with hx | hx
  · exact h x hx
  · exact h2 x hx
theorem encF_kd (kind epoch seq lba : Nat) (body : List UInt8) (hk : kind = 1 ∨ kind = 2) : ∃ a t, encF kind epoch seq lba body = a :: t ∧ ((a.toNat : Int) = 1 ∨ (a.toNat : Int) = 2) := by
  obtain ⟨rest, e⟩ := encF_parts kind epoch seq lba body
  rw [e]
  refine ⟨UInt8.ofNat kind, _, rfl, ?_⟩
  rcases hk with rfl | rfl
  · exact Or.inl (by decide)
  · exact Or.inr (by decide)
theorem batL_kind (e num k : Nat) (l : List (Int × List UInt8)) : Kd (batL e num k l) := by
  intro x hx
  rcases List.mem_append.1 hx with hx | hx
  · obtain ⟨y, -, rfl⟩ := List.mem_map.1 hx
    exact encF_kd 1 _ _ _ _ (Or.inl rfl)
  · rw [List.mem_singleton] at hx
    subst hx
    exact encF_kd 2 _ _ _ _ (Or.inr rfl)
/-- the log of some batches, each of one transaction: its time, its puts. -/
def logL (e : Nat) : Nat → List (Nat × List (Int × List UInt8)) → List (List UInt8)
  | _, [] => []
  | n, b :: bs => batL e n b.1 b.2 ++ logL e (n + 1) bs
theorem logL_kind (e n : Nat) (bs : List (Nat × List (Int × List UInt8))) : Kd (logL e n bs) := by
  induction bs generalizing n with
  | nil => intro x hx; simp [logL] at hx
  | cons b bs ih => exact (batL_kind _ _ _ _).app (ih _)
theorem logL_drop (e n : Nat) (bs : List (Nat × List (Int × List UInt8))) (i : Nat) : (logL e n bs).drop (logL e n (bs.take i)).length = logL e (n + i) (bs.drop i) := by
  induction i generalizing n bs with
  | zero => simp [logL]
  | succ i ih =>
    cases bs with
    | nil => simp [logL]
    | cons b bs =>
      simp only [List.take_succ_cons, List.drop_succ_cons, logL, List.length_append]
      rw [List.drop_length_add_append, ih (n + 1)]
      congr 1
      omega
theorem logL_one (e n : Nat) (bs : List (Nat × List (Int × List UInt8))) (i : Nat) (h : i < bs.length) : logL e (n + i) (bs.drop i) = batL e (n + i) bs[i].1 bs[i].2 ++ logL e (n + i + 1) (bs.drop (i + 1)) := by
  rw [List.drop_eq_getElem_cons h]
  rfl
theorem logL_len (e n : Nat) (bs : List (Nat × List (Int × List UInt8))) (i : Nat) (h : i < bs.length) : (logL e n (bs.take (i + 1))).length = (logL e n (bs.take i)).length + (bs[i].2.length + 1) := by
  induction i generalizing n bs with
  | zero =>
    cases bs with
    | nil => simp at h
    | cons b bs => simp [logL, batL_length]
  | succ i ih =>
    cases bs with
    | nil => simp at h
    | cons b bs =>
      simp only [List.take_succ_cons, logL, List.length_append]
      have := ih (n + 1) bs (by simpa using h)
      simp only [List.getElem_cons_succ]
      omega
theorem logL_le (e n : Nat) (bs : List (Nat × List (Int × List UInt8))) (i : Nat) (h : i < bs.length) : (logL e n (bs.take i)).length < (logL e n bs).length := by
  have h1 := logL_drop e n bs i
  rw [logL_one e n bs i h] at h1
  have h2 := congrArg List.length h1
  rw [List.length_drop, List.length_append, batL_length] at h2
  omega
/-- what blocks hold behind some puts. -/
def appD (ps : List (Int × List UInt8)) : Int → List UInt8 := ps.foldl (fun D x j => if j = x.1 then x.2 else D j) (fun _ => [])
/-- which blocks hold something behind some puts. -/
def appK (ps : List (Int × List UInt8)) : List Int := ps.foldl (fun K x => if x.1 ∈ K then K else K ++ [x.1]) []
theorem appD_snoc (ps : List (Int × List UInt8)) (x : Int × List UInt8) : appD (ps ++ [x]) = fun j => if j = x.1 then x.2 else appD ps j := by
  simp [appD, List.foldl_append]
theorem appK_snoc (ps : List (Int × List UInt8)) (x : Int × List UInt8) : appK (ps ++ [x]) = if x.1 ∈ appK ps then appK ps else appK ps ++ [x.1] := by
  unfold appK
  rw [List.foldl_append]
  rfl
theorem putL_fst (L : List (Int × Value)) (k : Int) (v : Value) : (putL L k v).map Prod.fst = if k ∈ L.map Prod.fst then L.map Prod.fst else L.map Prod.fst ++ [k] := by
  induction L with
  | nil => simp [putL]
  | cons p l ih =>
    simp only [putL]
    by_cases h : k = p.1
    · simp [h]
    · rw [if_neg h, List.map_cons, ih]
      simp only [List.map_cons, List.mem_cons, h, false_or]
      split <;> simp
/-- the last time of some batches. -/
def lastT (bs : List (Nat × List (Int × List UInt8))) : Nat := bs.foldl (fun _ b => b.1) 0
theorem lastT_take (bs : List (Nat × List (Int × List UInt8))) (i : Nat) (h : i < bs.length) : lastT (bs.take (i + 1)) = bs[i].1 := by
  rw [List.take_succ_eq_append_getElem h]
  unfold lastT
  rw [List.foldl_append]
  rfl
/-- all puts of some batches. -/
def allP (bs : List (Nat × List (Int × List UInt8))) : List (Int × List UInt8) := bs.flatMap fun b => b.2
theorem allP_take (bs : List (Nat × List (Int × List UInt8))) (i : Nat) (h : i < bs.length) : allP (bs.take (i + 1)) = allP (bs.take i) ++ bs[i].2 := by
  rw [List.take_succ_eq_append_getElem h]
  unfold allP
  rw [List.flatMap_append]
  simp
set_option maxRecDepth 100000 in
set_option maxHeartbeats 2000000 in
theorem idxf_rows (w : World) {g c m : Nat} {l : List (List UInt8)} (h : RowsX w g 0 l) (hm : l.length = m) (hmc : m ≤ c) (hm1 : m ≤ 1000) (hk : Kd l) : Calls Tryz.prog 69 #[.slice (some ⟨g, 0, none⟩) m c, .func (.func 30) #[] #[]] w fun e w' => e = .returned (.int .i64 (-1)) ∧ w = w' := by
  have HX := Lib.hid h
  have HK := Lib.hid hk
  clear h hk
  go_enter Tryz.func69, Tryz.ntmps69
  go_wp2_with fail
  go_loop [8] (fun i => ∃ j : Nat, j ≤ m ∧ i = .int .i64 j) (fun i => m - (intOf i).toNat)
  case atStart => exact ⟨0, by omega, rfl⟩
  case round =>
    obtain ⟨j, hj, rfl⟩ := hrel
    by_cases hlt : j < m
    · obtain ⟨gi, ci, d0, hci, hb, -⟩ := HX.out j (by omega)
      rw [Nat.zero_add] at d0
      obtain ⟨a, t, e, ha⟩ := HK.out _ (List.getElem_mem (show j < l.length by omega))
      rw [e] at hb
      have HS := Lib.hid (strange_any w (m := 64) (c := ci) hb (by decide))
      have hf : decide (¬ ((a.toNat : Int) = 1) ∧ ¬ ((a.toNat : Int) = 2)) = false := by
        rcases ha with h1 | h1 <;> simp [h1]
      rw [hf] at HS
      clear hb hf ha e
      go_wp2_with fail
      refine HS.out.mono ?_
      rintro r w2 ⟨rfl, rfl⟩
      go_wp2_with fail
      go_round
      case rel => exact ⟨j + 1, by omega, by go_num⟩
      case measure => simp [intOf]; omega
    · obtain rfl : j = m := by omega
      go_wp2_with fail
      go_ret
      exact ⟨rfl, rfl⟩
set_option maxRecDepth 100000 in
theorem contf_rows (w : World) {g c m : Nat} {l : List (List UInt8)} (h : RowsX w g 0 l) (hm : l.length = m) (hmc : m ≤ c) (hm1 : m ≤ 1000) (hk : Kd l) : Calls Tryz.prog 29 #[.slice (some ⟨g, 0, none⟩) m c, .func (.func 30) #[] #[]] w fun e w' => e = .returned (.bool false) ∧ w = w' := by
  have HI := Lib.hid (idxf_rows w h hm hmc hm1 hk)
  clear h hk
  go_enter Tryz.func29, Tryz.ntmps29
  go_wp2_with fail
  refine HI.out.mono ?_
  rintro e w2 ⟨rfl, rfl⟩
  go_wp2_with fail
  go_ret
  exact ⟨rfl, rfl⟩
end Go.Proofs.YtnelakpdmjfolaaGreat
namespace Go.Proofs.YtnelakpdmjfolaaGreat
open Go.RowKit Go.Lib

/-- block P is a store that is being mounted. -/
def StoreM (w : World) (P N S : Nat) (m : Option Addr) (pos num : Nat) : Prop :=
  w.heap[P]? = some (.cells #[.pointer (some ⟨N, 0, none⟩), .int .i64 0, .int .i64 3, .int .i64 6, .int .i64 7, .pointer m, .pointer (some ⟨S, 0, none⟩), .int .i64 pos, .int .i64 num, .bool false] 72 (0, 0))
/-- block R is a state: the last time, and a map of blocks. -/
def StateM (w : World) (R r last : Nat) : Prop := w.heap[R]? = some (.cells #[.int .i64 last, .map (some r)] 89 (0, 0))
/-- how far a log is taken in. -/
structure Tk (w wr : World) (P N S R r : Nat) (m : Option Addr) (pos num last : Nat) (ps : List (Int × List UInt8)) : Prop where
  chg : Chg [P, R, r] w wr
  store : StoreM wr P N S m pos num
  state : StateM wr R r last
  map : ∃ L, MapAt wr r L ∧ BufD wr L (appD ps) ∧ L.map Prod.fst = appK ps
theorem Tk.then {w wr wz : World} {P N S R r : Nat} {m : Option Addr} {pos num last : Nat} {ps : List (Int × List UInt8)} (h : Tk w wr P N S R r m pos num last ps) (hc : Chg [] wr wz) : Tk w wz P N S R r m pos num last ps := by
  obtain ⟨L, h1, h2, h3⟩ := h.map
  exact ⟨h.chg.then (hc.mono (fun x hx _ => by cases hx)), hc.heap h.store (by simp), hc.heap h.state (by simp), L, h1.keep hc (by simp), h2.keep hc, h3⟩
theorem Tk.ne {w wr : World} {P N S R r : Nat} {m : Option Addr} {pos num last : Nat} {ps : List (Int × List UInt8)} (h : Tk w wr P N S R r m pos num last ps) : P ≠ R ∧ r ≠ P ∧ r ≠ R := by
  obtain ⟨L, h1, h2, h3⟩ := h.map
  exact ⟨heap_ne h.store h.state (by simp), map_cells h1 h.store, map_cells h1 h.state⟩
theorem Tk.av {w wr : World} {P N S R r : Nat} {m : Option Addr} {pos num last : Nat} {ps : List (Int × List UInt8)} (h : Tk w wr P N S R r m pos num last ps) {ts : List Nat} (h1 : 72 ∉ ts) (h2 : 89 ∉ ts) : Av wr [P, R, r] ts := fun x hx cs t fr hh ht => by
  obtain ⟨L, hm, -, -⟩ := h.map
  simp only [List.mem_cons, List.not_mem_nil, or_false] at hx
  rcases hx with rfl | rfl | rfl
  · rw [h.store] at hh
    cases hh
    exact h1 ht
  · rw [h.state] at hh
    cases hh
    exact h2 ht
  · exact (map_cells hm hh) rfl
/-- .. when a put is taken in. -/
theorem Tk.push {w wr wz : World} {P N S R r g c : Nat} {m : Option Addr} {pos num last : Nat} {ps : List (Int × List UInt8)} {x : Int × List UInt8} (h : Tk w wr P N S R r m pos num last ps) (hb : Bs wr (some ⟨g, 0, none⟩) x.2) (hb4 : x.2.length = 40) (hbt : Bt wr g)
    (hm : ∀ L, MapAt wr r L → MapAt wz r (putL L x.1 (.slice (some ⟨g, 0, none⟩) 40 c))) (hc : Chg [r] wr wz) : Tk w wz P N S R r m pos num last (ps ++ [x]) := by
  obtain ⟨n1, n2, n3⟩ := h.ne
  obtain ⟨L, h1, h2, h3⟩ := h.map
  have hne : ∀ {k}, Bt wr k → k ∉ [r] := by
    rintro k ⟨cs, hk⟩ hm'
    rw [List.mem_singleton] at hm'
    exact (map_cells h1 hk) hm'.symm
  refine ⟨h.chg.then (hc.mono (fun y hy _ => by simp at hy; simp [hy])), hc.heap h.store (by simpa using n2.symm), hc.heap h.state (by simpa using n3.symm), _, hm L h1, ?_, ?_⟩
  · intro k v hv
    rw [getL_put] at hv
    rw [appD_snoc]
    by_cases e : k = x.1
    · rw [if_pos e] at hv
      cases hv
      simp only [if_pos e]
      exact ⟨g, c, rfl, hb.chgT hc (hne hbt), hb4, Bt.keep hbt hc (hne hbt)⟩
    · rw [if_neg e] at hv
      obtain ⟨g', c', e1, e2, e3, e4⟩ := h2 k v hv
      simp only [if_neg e]
      exact ⟨g', c', e1, e2.chgT hc (hne e4), e3, Bt.keep e4 hc (hne e4)⟩
  · rw [putL_fst, appK_snoc, h3]
/-- .. when a cell of the state, or of the store, is turned. -/
theorem Tk.set {w wr : World} {P N S R r g : Nat} {m : Option Addr} {pos num last pos' num' last' : Nat} {ps : List (Int × List UInt8)} (h : Tk w wr P N S R r m pos num last ps) {wz : World} (hg : g = P ∨ g = R) (hc : Chg [g] wr wz) (h1 : StoreM wz P N S m pos' num') (h2 : StateM wz R r last') : Tk w wz P N S R r m pos' num' last' ps := by
  obtain ⟨L, hm, hD, hK⟩ := h.map
  have hav : Av wr [g] [5] := by
    rcases hg with rfl | rfl
    · exact Av.row h.store (by decide)
    · exact Av.row h.state (by decide)
  have hr : r ∉ [g] := by
    obtain ⟨n1, n2, n3⟩ := h.ne
    rcases hg with rfl | rfl
    · simpa using n2
    · simpa using n3
  refine ⟨h.chg.then (hc.mono (fun y hy _ => ?_)), h1, h2, L, hm.keep hc hr, ?_, hK⟩
  · rw [List.mem_singleton] at hy
    subst hy
    rcases hg with rfl | rfl <;> simp
  · intro k v hv
    obtain ⟨g', c', e1, e2, e3, e4⟩ := hD k v hv
    have hn : g' ∉ [g] := Bt.av e4 hav (by simp)
    exact ⟨g', c', e1, e2.chgT hc hn, e3, Bt.keep e4 hc hn⟩
theorem Tk.stamp {w wr : World} {P N S R r : Nat} {m : Option Addr} {pos num last : Nat} {ps : List (Int × List UInt8)} (h : Tk w wr P N S R r m pos num last ps) (k : Nat) : Tk w (wr.setCell ⟨R, 0, none⟩ (.int .i64 k)) P N S R r m pos num k ps :=
  h.set (Or.inr rfl) (Chg.set wr R 0 _) (heap_set_ne h.store h.ne.1 0 _) (heap_set h.state 0 _ rfl)
theorem Tk.step {w wr : World} {P N S R r : Nat} {m : Option Addr} {pos num last : Nat} {ps : List (Int × List UInt8)} (h : Tk w wr P N S R r m pos num last ps) (pos' num' : Nat) : Tk w ((wr.setCell ⟨P, 7, none⟩ (.int .i64 pos')).setCell ⟨P, 8, none⟩ (.int .i64 num')) P N S R r m pos' num' last ps :=
  h.set (Or.inl rfl) ((Chg.set wr P 7 _).then (Chg.set _ P 8 _)) (heap_set (heap_set h.store 7 _ rfl) 8 _ rfl) (heap_set_ne (heap_set_ne h.state h.ne.1.symm 7 _) h.ne.1.symm 8 _)
theorem upd121 {w : World} {r : Nat} {L : List (Int × Value)} (hM : MapAt w r L) (k : Int) (v : Value) :
    (Instr.mapUpdate 87 (.map (some r)) (.int .i64 k) v).run Tryz.prog w = .ok () (updW w 87 r k v) ∧ MapAt (updW w 87 r k v) r (putL L k v) ∧ Chg [r] w (updW w 87 r k v) :=
  updW_is (mty := 87) (kt := 3) (et := 38) (by kernel_rfl) (by kernel_rfl) hM k v
theorem PutsR.keepA {w w' : World} {T : List Nat} {lo : Nat} {v : Value} {l : List (Int × List UInt8)} (h : PutsR w lo v l) (hc : Chg T w w') (hT : Av w T [41, 5]) : PutsR w' lo v l := by
  obtain ⟨g, cap, h1, h2, ⟨cs, h0⟩, h3⟩ := h
  have hg : g ∉ T := hT.ne h0 (by simp)
  refine ⟨g, cap, h1, h2, ⟨cs, hc.heap h0 hg⟩, fun k hk => ?_⟩
  obtain ⟨gd, cd, c0, c1, b, n, t⟩ := h3 k hk
  have hd : gd ∉ T := Bt.av t hT (by simp)
  exact ⟨gd, cd, hc.cell c0 hg, hc.cell c1 hg, b.chgT hc hd, n, Bt.keep t hc hd⟩
theorem RowsX.keepA {w w' : World} {T : List Nat} {g o : Nat} {l : List (List UInt8)} (h : RowsX w g o l) (hc : Chg T w w') (hg : g ∉ T) (hT : Av w T [5]) : RowsX w' g o l := fun i hi => by
  obtain ⟨gi, ci, h1, h2, h3, h4⟩ := h i hi
  have hn : gi ∉ T := Bt.av h4 hT (by simp)
  exact ⟨gi, ci, hc.cell h1 hg, h2, h3.chgT hc hn, Bt.keep h4 hc hn⟩
/-- what of a log is left. -/
noncomputable def mz (P m : Nat) (w : World) : Nat := m - ((w.cell? ⟨P, 7, none⟩).map fun v => (intOf v).toNat).getD 0
theorem mz_is {w : World} {P N S pos num m : Nat} {q : Option Addr} (h : StoreM w P N S q pos num) : mz P m w = m - pos := by
  have e : w.cell? ⟨P, 7, none⟩ = some (.int .i64 pos) := cell_is h 7 rfl
  simp [mz, e, intOf]
/-- batches that may stand in a log. -/
structure BsOk (bs : List (Nat × List (Int × List UInt8))) : Prop where
  time : ∀ i (h : i < bs.length), lastT (bs.take i) < bs[i].1 ∧ bs[i].1 ≤ 1099511627776
  puts : ∀ i (h : i < bs.length), 0 < bs[i].2.length ∧ bs[i].2.length ≤ 16 ∧ Rise bs[i].2 ∧ (∀ x ∈ bs[i].2, 0 ≤ x.1 ∧ x.1 < 258) ∧ ∀ x ∈ bs[i].2, x.2.length = 40
  len : (logL 0 1 bs).length ≤ 1000
  cnt : bs.length ≤ 1000
/-- what replay leaves. -/
def RepR (w : World) (P N S R r : Nat) (m : Option Addr) (bs : List (Nat × List (Int × List UInt8))) (e : Ending) (w' : World) : Prop :=
  e = .returned (.bool false) ∧ Tk w w' P N S R r m (logL 0 1 bs).length bs.length (lastT bs) (allP bs)
theorem wrap64_one {i num : Nat} (h : num = 1 + i) (hi : i ≤ 1000) : wrap64 ((i : Int) + 1) = (num : Nat) := by
  unfold wrap64
  omega
theorem wrap_one {i num : Nat} (h : num = 1 + i) (hi : i ≤ 1000) : IntKind.i64.wrap ((i : Int) + 1) = (num : Nat) := by
  rw [IntKind.wrap_i64]
  omega
set_option maxRecDepth 100000 in
set_option maxHeartbeats 8000000 in
theorem replay_many (w : World) {P N S R r G c m : Nat} {q : Option Addr} {bs : List (Nat × List (Int × List UInt8))} (hB : BsOk bs) (h : Tk w w P N S R r q 0 0 0 []) (hS : SlotAt w S N) (hX : RowsX w G 0 (logL 0 1 bs)) (hm : (logL 0 1 bs).length = m) (hmc : m ≤ c) (hG : G ∉ [P, R, r]) :
    Calls Tryz.prog 31 #[.pointer (some ⟨P, 0, none⟩), .pointer (some ⟨R, 0, none⟩), .slice (some ⟨G, 0, none⟩) m c] w (RepR w P N S R r q bs) := by
  have c6 : w.cell? ⟨P, 6, none⟩ = some (.pointer (some ⟨S, 0, none⟩)) := cell_is h.store 6 rfl
  have HL := Lib.hid (load_any w hS)
  have HX := Lib.hid hX
  have HT := Lib.hid h
  have HB := Lib.hid hB
  have HG := Lib.hid hG
  have HM := Lib.hid hm
  have hm1 : m ≤ 1000 := by have := hB.len; omega
  clear hX h hS hB hG hm
  go_enter Tryz.func31, Tryz.ntmps31
  go_wp2_with fail
  go_step3
  go_wp2_with fail
  refine HL.out.mono ?_
  rintro e w1 ⟨rfl, k1⟩
  have HT1 := Lib.hid (HT.out.then k1)
  clear k1 HL c6
  go_wp2_with fail
  go_step3
  go_wp2_with fail
  go_loopw [6] (fun b wr => b = .bool false ∧ ∃ i : Nat, i ≤ bs.length ∧ Tk w wr P N S R r q (logL 0 1 (bs.take i)).length i (lastT (bs.take i)) (allP (bs.take i))) (fun _ wr => mz P m wr)
  case atStart => exact ⟨rfl, 0, by omega, by simpa [logL, lastT, allP] using HT1.out⟩
  case round =>
    obtain ⟨rfl, i, hi, hT⟩ := hrel
    by_cases hlt : i < bs.length
    · have hpos := logL_le 0 1 bs i hlt
      have hlen := logL_len 0 1 bs i hlt
      rw [HM.out] at hpos
      have hdr := logL_drop 0 1 bs i
      have hone := logL_one 0 1 bs i hlt
      have hXr := (HX.out.keepA hT.chg HG.out (HT.out.av (ts := [5]) (by decide) (by decide))).drop (logL 0 1 (bs.take i)).length
      rw [hdr, hone] at hXr
      have hml : (batL 0 (1 + i) bs[i].1 bs[i].2 ++ logL 0 (1 + i + 1) (bs.drop (i + 1))).length = m - (logL 0 1 (bs.take i)).length := by
        rw [← hone, ← hdr, List.length_drop, HM.out]
      obtain ⟨htm0, htm1⟩ := HB.out.time i hlt
      obtain ⟨hl0, hl1, hl2, hl3, hl4⟩ := HB.out.puts i hlt
      have hcnt := HB.out.cnt
      have hTi := lastT_take bs i hlt
      have hPi := allP_take bs i hlt
      generalize hp : (logL 0 1 (bs.take i)).length = pos at *
      generalize hq : (logL 0 1 (bs.take (i + 1))).length = pos2 at *
      generalize lastT (bs.take i) = last at *
      generalize allP (bs.take i) = ps at *
      generalize bs[i].2 = l at *
      generalize bs[i].1 = k at *
      obtain ⟨num, hnum⟩ : ∃ num : Nat, num = 1 + i := ⟨_, rfl⟩
      have HDc := Lib.hid (bdecode_ok wr (c := c - pos) hXr hml (by omega) (by omega) (by decide) (by omega) (by omega) (by omega) htm1 hl0 hl1 hl2 hl3 hl4)
      rw [← hnum] at HDc
      clear hXr hml hdr hone
      have p0 : wr.cell? ⟨P, 7, none⟩ = some (.int .i64 pos) := cell_is hT.store 7 rfl
      have hp1 : (pos : Int) < m := by omega
      have HTr := Lib.hid hT
      have HMz := Lib.hid (mz_is (m := m) hT.store)
      have HI := Lib.hid (And.intro hl0 (And.intro hl1 (And.intro hlen (And.intro hTi (And.intro hPi (And.intro hp hq))))))
      have hi1 : i ≤ 1000 := by omega
      have HW := Lib.hid (And.intro (wrap64_one hnum hi1) (wrap_one hnum hi1))
      have HN := Lib.hid hnum
      clear hT hl0 hl1 hl2 hl3 hl4 hlen hTi hPi hp hq hnum
      go_wp2_with fail
      refine HDc.out.mono ?_
      rintro e w2 ⟨gv, cv, rfl, k2, ht⟩
      rw [show ((0 : Nat) : Int) = 0 from rfl]
      have kB : Chg [] w2 (w2.alloc (.cells #[.int .i64 (num : Nat), .slice (some ⟨gv, 0, none⟩) 1 cv] 94)) := Chg.alloc w2 _
      have B0 := heap_new w2 (.cells #[.int .i64 (num : Nat), .slice (some ⟨gv, 0, none⟩) 1 cv] 94)
      have hTB := (HTr.out.then k2).then kB
      have htB := ht.keep kB
      obtain ⟨g', c', pb, cb, e, hc1, -, -, t0, t1, hcb, hpR⟩ := htB.open_
      cases e
      obtain ⟨gp, cap, e, hcap, -⟩ := id hpR
      cases e
      have b0 := cell_is B0 0 (v := .int .i64 (num : Nat)) rfl
      have b1 := cell_is B0 1 (v := .slice (some ⟨gv, 0, none⟩) 1 cv) rfl
      have p8 : (w2.alloc (.cells #[.int .i64 (num : Nat), .slice (some ⟨gv, 0, none⟩) 1 cv] 94)).cell? ⟨P, 8, none⟩ = some (.int .i64 i) := cell_is hTB.store 8 rfl
      have r0 : (w2.alloc (.cells #[.int .i64 (num : Nat), .slice (some ⟨gv, 0, none⟩) 1 cv] 94)).cell? ⟨R, 0, none⟩ = some (.int .i64 last) := cell_is hTB.state 0 rfl
      have n0 : decide (k ≤ last) = false := decide_eq_false (by omega)
      have n1 : ((num : Int) != (num : Int)) = false := bne_self_eq_false _
      have HB5 := Lib.hid (And.intro hTB hpR)
      have hcv : (1 : Int) ≤ cv := by omega
      have hcbi : (l.length : Int) ≤ cb := by omega
      clear k2 ht kB hTB htB hpR HTr p0 HDc
      go_wp2_with fail
      generalize w2.heap.size = z at *
      generalize w2.alloc (.cells #[.int .i64 (num : Nat), .slice (some ⟨gv, 0, none⟩) 1 cv] 94) = w4 at *
      obtain ⟨hwi, hwk⟩ := id HW.out
      go_quiet (fail)
      clear hwi hwk
      have kq : Chg [] w4 (w4.drewN nq) := (Chg.refl [] w4).drewN nq
      have b1' := kq.cell b1 (by simp)
      have t0' := kq.cell t0 (by simp)
      have t1' := kq.cell t1 (by simp)
      have HT5 := Lib.hid (HB5.out.1.then kq)
      have HP5 := Lib.hid (HB5.out.2.keep0 kq)
      clear kq b0 b1 t0 t1 p8 r0 HB5 B0
      generalize w4.drewN nq = w5 at *
      go_wp2_with fail
      go_loopw [76] (fun ii wz => (ii = .int .i64 0 ∧ wz = w5) ∨ (ii = .int .i64 1 ∧ Tk w wz P N S R r q pos i k (ps ++ l))) (fun ii _ => 1 - (intOf ii).toNat)
      case atStart => exact Or.inl ⟨rfl, rfl⟩
      case round =>
        rcases hrel with ⟨rfl, rfl⟩ | ⟨rfl, hT6⟩
        · have ky : Chg [] wr (wr.alloc (.cells #[.int .i64 (k : Nat), .slice (some ⟨gp, 0, none⟩) l.length cb] 128)) := Chg.alloc wr _
          have y0 := heap_new wr (.cells #[.int .i64 (k : Nat), .slice (some ⟨gp, 0, none⟩) l.length cb] 128)
          have HT6 := Lib.hid (HT5.out.then ky)
          have HP6 := Lib.hid (HP5.out.keep0 ky)
          have y1 := cell_is y0 1 (v := .slice (some ⟨gp, 0, none⟩) l.length cb) rfl
          have HY := Lib.hid y0
          clear ky y0
          go_wp2_with fail
          generalize wr.alloc (.cells #[.int .i64 (k : Nat), .slice (some ⟨gp, 0, none⟩) l.length cb] 128) = w6 at *
          generalize wr.heap.size = y at *
          go_loopw [83] (fun jv wy => ∃ j : Nat, j ≤ l.length ∧ jv = .int .i64 j ∧ Chg [P, R, r] w6 wy ∧ Tk w wy P N S R r q pos i last (ps ++ l.take j)) (fun jv _ => l.length - (intOf jv).toNat)
          case atStart => exact ⟨0, by omega, rfl, Chg.refl _ _, by simpa using HT6.out⟩
          case round =>
            obtain ⟨j, hj, rfl, k6, hTj⟩ := hrel
            have hl16 := HI.out.2.1
            by_cases hjl : j < l.length
            · obtain ⟨g, cap, gd, cd, hv, -, d0, d1, hb, hb4, hbt⟩ := (HP6.out.keepA k6 (HT6.out.av (by decide) (by decide))).get j hjl
              cases hv
              have htk : l.take (j + 1) = l.take j ++ [l[j]] := List.take_succ_eq_append_getElem hjl
              have HTk := Lib.hid htk
              generalize l[j] = x at *
              have kz : Chg [] wr (wr.alloc (.cells #[.int .i64 x.1, .slice (some ⟨gd, 0, none⟩) 40 cd] 41)) := Chg.alloc wr _
              have z0 := heap_new wr (.cells #[.int .i64 x.1, .slice (some ⟨gd, 0, none⟩) 40 cd] 41)
              have hTz := hTj.then kz
              have HJ := Lib.hid (And.intro (k6.then (kz.mono (fun x hx _ => by cases hx))) (And.intro hTz (And.intro (hb.chg kz) (And.intro hb4 (Bt.keep hbt kz (by simp))))))
              have r1 : (wr.alloc (.cells #[.int .i64 x.1, .slice (some ⟨gd, 0, none⟩) 40 cd] 41)).cell? ⟨R, 1, none⟩ = some (.map (some r)) := cell_is hTz.state 1 rfl
              have x0 := cell_is z0 0 (v := .int .i64 x.1) rfl
              have x1 := cell_is z0 1 (v := .slice (some ⟨gd, 0, none⟩) 40 cd) rfl
              clear kz hTz hb hb4 hbt hTj k6 htk z0
              go_upto_region 12 with fail
              generalize wr.alloc (.cells #[.int .i64 x.1, .slice (some ⟨gd, 0, none⟩) 40 cd] 41) = w7 at *
              generalize wr.heap.size = y2 at *
              go_still_tail 8, (by kernel_rfl)
              change wpList _ _ _ _ _ w7.drew
              have kd : Chg [] w7 w7.drew := (Chg.refl [] w7).drew
              have HJ2 := Lib.hid (And.intro (HJ.out.1.then (kd.mono (fun x hx _ => by cases hx))) (And.intro (HJ.out.2.1.then kd) (And.intro (HJ.out.2.2.1.chg kd) (And.intro HJ.out.2.2.2.1 (Bt.keep HJ.out.2.2.2.2 kd (by simp))))))
              clear kd HJ r1 x0 x1
              generalize w7.drew = w8 at *
              obtain ⟨L, hm8, hD8, hK8⟩ := HJ2.out.2.1.map
              obtain ⟨hU, hmU, kU⟩ := upd121 hm8 x.1 (.slice (some ⟨gd, 0, none⟩) 40 cd)
              have HU := Lib.hid (And.intro hmU kU)
              clear hmU kU hm8 hD8 hK8
              go_wp2_with fail
              go_roundw
              case rel =>
                refine ⟨j + 1, hjl, by go_num, HJ2.out.1.then (HU.out.2.mono (fun y hy _ => by simp at hy; simp [hy])), ?_⟩
                rw [HTk.out, ← List.append_assoc]
                exact HJ2.out.2.1.push HJ2.out.2.2.1 HJ2.out.2.2.2.1 HJ2.out.2.2.2.2 (fun L' h' => (upd121 h' _ _).2.1) HU.out.2
              case measure => simp [intOf]; omega
            · obtain rfl : l.length = j := by omega
              rw [List.take_length] at hTj
              have r0 : wr.cell? ⟨R, 0, none⟩ = some (.int .i64 last) := cell_is hTj.state 0 rfl
              have v0 := unfrozen hTj.state 0
              have yk : wr.cell? ⟨y, 0, none⟩ = some (.int .i64 (k : Nat)) := k6.cell (cell_is HY.out 0 rfl) ((HT6.out.av (ts := [128]) (by decide) (by decide)).ne HY.out (by simp))
              have hJ := hTj.stamp k
              have HJ := Lib.hid hJ
              clear hTj hJ k6
              go_wp2_with fail
              exact ⟨Or.inr ⟨rfl, HJ.out⟩, by decide⟩
        · have p7 : wr.cell? ⟨P, 7, none⟩ = some (.int .i64 pos) := cell_is hT6.store 7 rfl
          have p8 : wr.cell? ⟨P, 8, none⟩ = some (.int .i64 i) := cell_is hT6.store 8 rfl
          have v7 := unfrozen hT6.store 7
          have v8 := unfrozen hT6.store 8
          have hl16 := HI.out.2.1
          have hJ := hT6.step pos2 (i + 1)
          rw [show ((pos2 : Nat) : Int) = (pos : Int) + ((l.length : Int) + 1) by have := HI.out.2.2.1; omega, show ((i + 1 : Nat) : Int) = (i : Int) + 1 by omega] at hJ
          have HJ := Lib.hid hJ
          clear hJ hT6
          go_wp2_with fail
          refine ⟨⟨rfl, i + 1, hlt, ?_⟩, ?_⟩
          · rw [HI.out.2.2.2.1, HI.out.2.2.2.2.1, HI.out.2.2.2.2.2.2]
            have := HJ.out
            rwa [show (pos : Int) + ((l.length : Int) + 1) = ((pos2 : Nat) : Int) by have := HI.out.2.2.1; omega, show (i : Int) + 1 = ((i + 1 : Nat) : Int) by omega] at *
          · rw [mz_is HJ.out.store, HMz.out]
            have := HI.out.2.2.1
            omega
    · have hib : bs.length = i := by omega
      subst hib
      rw [List.take_length, HM.out] at hT
      have p0 : wr.cell? ⟨P, 7, none⟩ = some (.int .i64 m) := cell_is hT.store 7 rfl
      have HTr := Lib.hid hT
      clear hT
      go_wp2_with fail
      go_ret
      exact ⟨rfl, by rw [HM.out]; exact HTr.out⟩
end Go.Proofs.YtnelakpdmjfolaaGreat
