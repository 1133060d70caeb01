/- The statement StoreNothing: nothing is no store; for every input that can be read. -/
import Derived.Test.YtkhionhicegfmaaGreatRows
import Derived.ProofKit
import Derived.OpenShut
import Derived.Lib.SlBytesRowKit
import Derived.Lib.SmallJoins
import Derived.Deep.Slices
import Derived.Deep.Fields
import Derived.ChangeMaps5
import Derived.Test.YtkhionhicegfmaaGreatCb
import Derived.Test.YtkhionhicegfmaaGreatCj
namespace Go.Proofs.YtkhionhicegfmaaGreat
open Go.RowKit Go.Lib

theorem Ow.chg0 {base : Nat} {w0 w w' : World} (h : Chg [] w0 w) (k : Ow base w w') (hb : w0.heap.size ≤ base) : Chg [] w0 w' := by
  obtain ⟨T, h1, h2⟩ := k
  exact h.trans h1 (fun x hx hlt => by have := (h2 x hx).1; omega)
/-- a store with an open transaction: base, its parts. -/
def A1 (lw : Nat) (d : Ids) (ops : Int) (q : Int → List UInt8) (L : List (Int × Value)) (w : World) : Prop :=
  ∃ base d', d'.P = d.P ∧ d'.N = d.N ∧ Fr base d' (begP (s00 lw)) (StoF lw d' (begS (s00 lw) d'.T) (g00 lw ops)) ∧ Su w base d' (begP (s00 lw)) (StoF lw d' (begS (s00 lw) d'.T) (g00 lw ops)) q L 0 ∧ lw ≤ d'.T ∧ lw ≤ base
theorem A1.keep {lw : Nat} {d : Ids} {ops : Int} {q : Int → List UInt8} {L : List (Int × Value)} {w w' : World} (h : A1 lw d ops q L w) (hc : Chg [] w w') : A1 lw d ops q L w' := by
  obtain ⟨base, d', h1, h2, h3, h4, h5, h6⟩ := h
  exact ⟨base, d', h1, h2, h3, h4.keep h3 hc, h5, h6⟩
theorem A1.size {lw : Nat} {d : Ids} {ops : Int} {q : Int → List UInt8} {L : List (Int × Value)} {w : World} (h : A1 lw d ops q L w) : lw ≤ w.heap.size := by
  obtain ⟨base, d', h1, h2, h3, h4, h5, h6⟩ := h
  have hS : Sto w lw d' (begS (s00 lw) d'.T) (g00 lw ops) := h4.env
  exact hS.slo
/-- what begin leaves. -/
theorem beg24 (w : World) {lw : Nat} {d : Ids} {ops : Int} (h : Sto w lw d (s00 lw) (g00 lw ops)) : Calls Tryz.prog 16 #[.pointer (some ⟨d.P, 0, none⟩)] w fun e w' => e = .returned (.tuple #[.int .i64 1, .int .i64 0]) ∧ Cs lw w w' ∧ ∃ q, A1 lw d ops q [] w' := by
  have hl : d.rx < w.heap.size ∧ d.rb < w.heap.size ∧ d.r < w.heap.size := ⟨h.mx.ver.m.lt, h.mx.book.2.lt, h.mx.map.lt⟩
  have hlw : lw ≤ w.heap.size := h.slo
  refine (sbegin_gen w h rfl (show (0 : Int) ≤ 0 by decide) (show (0 : Int) ≤ 1099511627776 by decide) (show (0 : Int) ≤ 0 by decide) (show (0 : Int) ≤ 1000000 by decide)).mono ?_
  rintro e w' ⟨rfl, T, W, rw, Q, V, c1, hT, hSu⟩
  exact ⟨rfl, c1, _, w.heap.size, { d with T := T, W := W, rw := rw, Q := Q, V := V }, rfl, rfl, fr_sto hl rfl rfl rfl rfl rfl, hSu, Nat.le_trans hlw hT, hlw⟩
/-- .. a put of forty bytes is written. -/
theorem wri24 (w : World) {lw : Nat} {d : Ids} {ops : Int} {q : Int → List UInt8} {E D c cp : Nat} {b : Int} {l : List UInt8} (h : A1 lw d ops q [] w) (e0 : w.cell? ⟨E, 0, none⟩ = some (.int .i64 b)) (e1 : w.cell? ⟨E, 1, none⟩ = some (.slice (some ⟨D, 0, none⟩) 40 c)) (hb : Bs w (some ⟨D, 0, none⟩) l) (hl : l.length = 40) (h0 : 0 ≤ b) (h1 : b < 258) :
    Calls Tryz.prog 17 #[.pointer (some ⟨d.P, 0, none⟩), .int .i64 1, .slice (some ⟨E, 0, none⟩) 1 cp] w fun e w' => e = .returned (.int .i64 0) ∧ (∃ base, lw ≤ base ∧ Ow base w w') ∧ ∃ v, A1 lw d ops (putQ q b l) [(b, v)] w' := by
  obtain ⟨base, d', eP, eN, hf, hs, hT, hbs⟩ := h
  rw [← eP]
  refine (swrite_gen w (cp := cp) (eo := 0) hf hs e0 e1 hb hl h0 h1 (by simp)).mono ?_
  rintro e w' ⟨v, rfl, ho, hs'⟩
  exact ⟨rfl, ⟨base, hbs, ho⟩, v, base, d', eP, eN, hf, hs', hT, hbs⟩
/-- a store with a transaction that waits. -/
def A3 (lw : Nat) (d : Ids) (ops : Int) (q : Int → List UInt8) (L : List (Int × Value)) (w : World) : Prop :=
  ∃ d' gq cq, d'.P = d.P ∧ d'.N = d.N ∧ Sto w lw d' (comS (begS (s00 lw) d'.T) gq cq) (g00 lw ops) ∧ Wtx w d' (comS (begS (s00 lw) d'.T) gq cq) gq cq 1 1 0 0 L q ∧ lw ≤ d'.T
theorem A3.keep {lw : Nat} {d : Ids} {ops : Int} {q : Int → List UInt8} {L : List (Int × Value)} {w w' : World} (h : A3 lw d ops q L w) (hc : Chg [] w w') : A3 lw d ops q L w' := by
  obtain ⟨d', gq, cq, h1, h2, h3, h4, h5⟩ := h
  exact ⟨d', gq, cq, h1, h2, h3.keep hc, h4.keep hc, h5⟩
theorem com24 (w : World) {lw : Nat} {d : Ids} {ops : Int} {q : Int → List UInt8} {L : List (Int × Value)} (h : A1 lw d ops q L w) (hl0 : 0 < L.length) (hl : L.length ≤ 12) : Calls Tryz.prog 19 #[.pointer (some ⟨d.P, 0, none⟩), .int .i64 1] w fun e w' => e = .returned (.int .i64 0) ∧ Cs lw w w' ∧ A3 lw d ops q L w' := by
  have hsz := h.size
  obtain ⟨base, d', eP, eN, hf, hs, hT, hbs⟩ := h
  rw [← eP]
  refine (scommit_sto w (loq := lw) (n := 0) (k := 1) hf hs rfl (World.ownsRow_nil _ _ _ _) hsz (Nat.le_refl _) rfl ⟨fun p hp => (by cases hp), fun b x hx => (by cases hx)⟩ rfl (show (0 : Int) < 1099511627776 by decide) (show (0 : Int) ≤ 0 by decide) hl hl0 (by omega) rfl rfl hT).mono ?_
  rintro e w' ⟨rfl, gq, cq, h1, h2, h3⟩
  exact ⟨rfl, h3, d', gq, cq, eP, eN, h1, h2, hT⟩
/-- a device with one batch, all of it for good. -/
def A4 (d : Ids) (l : List (Int × List UInt8)) (w : World) : Prop :=
  ∃ base A c ops Z vs gs zs, DevG w base d.N A c ops Z vs gs zs ∧ (∀ j, j < 8 → gs j = (zs j).length) ∧ (∀ j, j ≠ 6 → zs j = []) ∧ zs 6 = logL 0 1 [(1, l)]
theorem A4.keep {d : Ids} {l : List (Int × List UInt8)} {w w' : World} (h : A4 d l w) (hc : Chg [] w w') : A4 d l w' := by
  obtain ⟨base, A, c, ops, Z, vs, gs, zs, h1, h2⟩ := h
  exact ⟨base, A, c, ops, Z, vs, gs, zs, h1.keep hc (Av.nil _ _), h2⟩
theorem flu24 (w : World) {lw : Nat} {d : Ids} {ops : Int} {q : Int → List UInt8} {L : List (Int × Value)} (h : A3 lw d ops q L w) (hops : 0 ≤ ops ∧ ops ≤ 2) : Calls Tryz.prog 20 #[.pointer (some ⟨d.P, 0, none⟩)] w fun e w' => e = .returned (.int .i64 0) ∧ Cs lw w w' ∧ A4 d (putsL L q) w' := by
  obtain ⟨d', gq, cq, eP, eN, hS, hW, hT⟩ := h
  have hlw : lw ≤ w.heap.size := hS.slo
  have hL := hW.len
  rw [← eP]
  refine (sflush_ok w (k := 1) hS hW rfl hT hlw (by decide) (show (0 : Int) < 1 by decide) (by decide) (fun c => (show 0 + 16 < 1000000 by decide)) (show (0 : Int) ≤ 0 by decide) (show (0 : Int) ≤ 100000000 by decide) (by show 0 + L.length + 1 ≤ 96; omega) (by show 0 + L.length + 1 ≤ 96; omega) (show 0 ≤ ops by omega) (show ops ≤ 100000 by omega) (show 0 < 4294967296 by decide) (show 0 < 1000000000 by decide)).mono ?_
  rintro e w' ⟨rfl, z, Lv', v6, h1, h2, -⟩
  refine ⟨rfl, h2, _, d'.A, d'.c, _, d'.Z, _, _, _, by rw [← eN]; exact h1.dev, fun j hj => ?_, fun j hj => ?_, ?_⟩
  · simp [doneG, goodF, hj]
  · simp [doneG, upF, hj, g00]
  · simp [doneG, upF, g00, logL]
end Go.Proofs.YtkhionhicegfmaaGreat
namespace Go.Proofs.YtkhionhicegfmaaGreat
open Go.RowKit Go.Lib

theorem data1 (w : World) : Calls Tryz.prog 18 #[.int .i64 1] w fun e w' => ∃ g, e = .returned (.slice (some ⟨g, 0, none⟩) 40 40) ∧ Chg [] w w' ∧ w.heap.size ≤ g ∧ Fo w' g (datB 1) := data_ex w 1 (by decide)
theorem sortI_one (k : Int) : sortI [k] = [k] := by simp [sortI]
theorem putsL_one (k : Int) (v : Value) (D : Int → List UInt8) : putsL [(k, v)] D = [(k, D k)] := by simp [putsL, sortI]
theorem fin_one (k : Int) (b : List UInt8) : finL [(k, b)] = [(k, b)] := by simp [finL, appK, appD, sortI]
theorem getL_mem {L : List (Int × Value)} {k : Int} {v : Value} (h : getL L k = some v) : k ∈ L.map Prod.fst := by
  induction L with
  | nil => cases h
  | cons p l ih =>
    simp only [getL] at h
    by_cases e : k = p.1
    · simp [e]
    · rw [if_neg e] at h
      exact List.mem_cons_of_mem _ (ih h)
theorem ver_one {w : World} {lo X rx : Nat} {last : Int} {L : List (Int × Value)} {k : Int} {b : List UInt8} (h : VerG w lo X rx last L (applyV (fun _ => []) k [(5, b)])) (hk : ∀ p ∈ L, 0 ≤ p.1 ∧ p.1 < 258) : L.map Prod.fst = [5] ∧ dumpL L (applyV (fun _ => []) k [(5, b)]) = [(5, b)] := by
  have hv : ∀ j, applyV (fun _ => []) k [(5, b)] j = if j = 5 then [(k, b)] else [] := fun j => by simp [applyV, addV]
  have h5 : L.map Prod.fst = [5] := by
    have hall : ∀ x ∈ L.map Prod.fst, x = 5 := by
      intro x hx
      obtain ⟨v, hg⟩ := getL_key hx
      obtain ⟨p, hp, rfl⟩ := List.mem_map.1 hx
      have hb := hk p hp
      rcases h.row p.1 hb.1 hb.2 with ⟨e, -⟩ | ⟨_, _, _, e⟩
      · rw [hg] at e; cases e
      · rw [hv] at e
        by_cases e5 : p.1 = 5
        · exact e5
        · rw [if_neg e5] at e
          exact absurd rfl e
    have hmem : (5 : Int) ∈ L.map Prod.fst := by
      rcases h.row 5 (by decide) (by decide) with ⟨-, e⟩ | ⟨v, e, -⟩
      · rw [hv] at e
        simp at e
      · exact getL_mem e
    have hnd := h.m.nodup
    generalize L.map Prod.fst = K at *
    match K, hall, hmem, hnd with
    | [x], hall, _, _ => rw [hall x (by simp)]
    | x :: y :: K, hall, _, hnd =>
      have e1 := hall x (by simp)
      have e2 := hall y (by simp)
      subst e1
      subst e2
      simp at hnd
  refine ⟨h5, ?_⟩
  rw [dumpL, h5, sortI_one]
  simp [hv, lastB]
theorem bs_one (b : List UInt8) (hb : b.length = 40) : BsOk [(1, [(5, b)])] := by
  refine ⟨fun i h => ?_, fun i h => ?_, ?_, by simp⟩
  · obtain rfl : i = 0 := by simpa using h
    exact ⟨by simp [lastT], by simp⟩
  · obtain rfl : i = 0 := by simpa using h
    refine ⟨by simp, by simp, fun j hj => by simp at hj, fun x hx => ?_, fun x hx => ?_⟩
    · have : x = (5, b) := by simpa using hx
      subst this
      exact ⟨show (0 : Int) ≤ 5 by decide, show (5 : Int) < 258 by decide⟩
    · have : x = (5, b) := by simpa using hx
      subst this
      exact hb
  · simp [logL, batL_length]
theorem fin_all (k : Nat) (b : List UInt8) : finL (allP [(k, [(5, b)])]) = [(5, b)] := fin_one 5 b
/-- a device that a crash left is mounted. -/
theorem mount_one (w : World) {b : List UInt8} {w0 : World} {N A c : Nat} {Z : List Nat} {vs : Nat → Value} {gs : Nat → Nat} {zs : Nat → List (List UInt8)} {base : Nat} (hb : b.length = 40) (hD : DevG w base N A c 0 Z vs gs zs) (hz : zs 0 = [] ∧ zs 3 = [] ∧ zs 7 = []) (h6 : zs 6 = logL 0 1 [(1, [(5, b)])]) (k : Chg [] w0 w) (lN : w0.heap.size ≤ N) (lZ : ∀ z ∈ Z, w0.heap.size ≤ z) :
    Calls Tryz.prog 13 #[.pointer (some ⟨N, 0, none⟩)] w fun e w' => ∃ P S M X rx B r lo Lv pos num, e = .returned (.tuple #[.pointer (some ⟨P, 0, none⟩), .int .i64 0]) ∧ Chg [] w0 w' ∧ StoreG w' P N S M pos num ∧ MgrG w' M X B r (.slice none 0 0) 0 0 1 1 1 false ∧ VerG w' lo X rx 1 Lv (applyV (fun _ => []) 1 [(5, b)]) ∧ (∀ p ∈ Lv, 0 ≤ p.1 ∧ p.1 < 258) ∧ Lv.length ≤ 1000 := by
  have e6 : (zs 6).length = 2 := by rw [h6]; simp [logL, batL_length]
  have hf : (finL (allP [(1, [(5, b)])])).length = 1 := by rw [fin_all]; rfl
  have hlt : ∀ z ∈ Z, z < w.heap.size := fun z hz => by
    obtain ⟨j, hj, e⟩ := List.getElem_of_mem hz
    rw [← e]
    exact heap_lt (hD.zone j hj)
  refine (kmount w hD.k hz h6 (bs_one b hb) (by simp) (by omega) (by omega) (by omega) hlt (heap_lt hD.hdr) (by decide) (by decide) (by decide) (by decide) (show 0 < 1 ∧ 1 ≤ 1099511627776 by decide) (fun x hx => ?_)).mono ?_
  · have : x = (5, b) := by simpa [allP] using hx
    subst this
    exact ⟨show (0 : Int) ≤ 5 by decide, show (5 : Int) < 258 by decide⟩
  · rintro e w' ⟨P, S, M, X, rx, B, rb, r, lo, Lv, rfl, h⟩
    rw [fin_all] at h
    have hV : VerG w' lo X rx 1 Lv (applyV (fun _ => []) 1 [(5, b)]) := h.ver
    refine ⟨P, S, M, X, rx, B, r, lo, Lv, _, _, rfl, k.trans h.chg (fun x hx hlt => ?_), h.store, h.mgr, hV, h.keys, ?_⟩
    · rcases List.mem_cons.1 hx with e | hx
      · omega
      · have := lZ x hx; omega
    · have := congrArg List.length (ver_one hV h.keys).1
      rw [List.length_map] at this
      simp at this
      omega
/-- what stands in a world of law 24. -/
def W24 (w0 : World) (K G : Nat) (d : Ids) (F : World → Prop) (w : World) : Prop :=
  F w ∧ w.heap[K]? = some (.cells #[.pointer (some ⟨d.N, 0, none⟩), .pointer (some ⟨d.P, 0, none⟩), .pointer (some ⟨G, 0, none⟩), .int .i64 0] 56 (0, 0)) ∧ Chg [] w0 w
theorem W24.keep {w0 : World} {K G : Nat} {d : Ids} {F : World → Prop} {w w' : World} (hF : ∀ a b, F a → Chg [] a b → F b) (h : W24 w0 K G d F w) (hc : Chg [] w w') : W24 w0 K G d F w' := ⟨hF _ _ h.1 hc, hc.heap h.2.1 (by simp), h.2.2.then hc⟩
theorem W24.p {w0 : World} {K G : Nat} {d : Ids} {F : World → Prop} {w : World} (h : W24 w0 K G d F w) : w.cell? ⟨K, 1, none⟩ = some (.pointer (some ⟨d.P, 0, none⟩)) := cell_is h.2.1 1 rfl
theorem W24.n {w0 : World} {K G : Nat} {d : Ids} {F : World → Prop} {w : World} (h : W24 w0 K G d F w) : w.cell? ⟨K, 0, none⟩ = some (.pointer (some ⟨d.N, 0, none⟩)) := cell_is h.2.1 0 rfl
set_option maxRecDepth 100000 in
set_option maxHeartbeats 8000000 in
theorem awake24 (w : World) : Calls Tryz.prog 10 #[] w fun e w' => e = .returned (.bool true) ∧ Chg [] w w' := by
  go_enter Tryz.func10, Tryz.ntmps10
  go_wp2_with fail
  refine (least24 w).mono ?_
  rintro e w1 ⟨rfl, k1⟩
  go_wp2_with fail
  refine (fresh24 w1).mono ?_
  rintro e w2 ⟨K, G, d, ops, rfl, k2, hK, hS, ho⟩
  have c1 : w2.cell? ⟨K, 1, none⟩ = some (.pointer (some ⟨d.P, 0, none⟩)) := cell_is hK 1 rfl
  have HB := Lib.hid (beg24 w2 hS)
  have H2 := Lib.hid (And.intro k1 (And.intro k2 (And.intro hK ho)))
  clear k1 k2 hK hS ho
  go_wp2_with fail
  refine HB.out.mono ?_
  rintro e w3 ⟨rfl, cs3, q, hA3⟩
  have h3 : W24 w1 K G d (A1 w1.heap.size d ops q []) w3 := ⟨hA3, cs3.heap H2.out.2.2.1 (by decide), Cs.chg0 H2.out.2.1 cs3 (Nat.le_refl _)⟩
  have f1 : ∀ a b, A1 w1.heap.size d ops q [] a → Chg [] a b → A1 w1.heap.size d ops q [] b := fun a b h k => h.keep k
  have hWr : ∀ w4 D, W24 w1 K G d (A1 w1.heap.size d ops q []) w4 → Fo w4 D (datB 1) → ∀ wx E cp, Chg [] w4 wx → wx.heap[E]? = some (.cells #[.int .i64 5, .slice (some ⟨D, 0, none⟩) 40 40] 43 (0, 0)) →
      Calls Tryz.prog 17 #[.pointer (some ⟨d.P, 0, none⟩), .int .i64 1, .slice (some ⟨E, 0, none⟩) 1 cp] wx fun e w' => e = .returned (.int .i64 0) ∧ ∃ v, W24 w1 K G d (A1 w1.heap.size d ops (putQ q 5 (datB 1)) [(5, v)]) w' := fun w4 D h4 hF wx E cp kx hE => by
    have hx := h4.keep f1 kx
    refine (wri24 wx (cp := cp) hx.1 (cell_is hE 0 rfl) (cell_is hE 1 rfl) (hF.bs.chg kx) (datB_length 1) (by decide) (by decide)).mono ?_
    rintro e w' ⟨rfl, ⟨b, hb, o⟩, v, hA⟩
    exact ⟨rfl, v, hA, o.heap hx.2.1 (by decide), Ow.chg0 hx.2.2 o hb⟩
  have hCo : ∀ v wx, W24 w1 K G d (A1 w1.heap.size d ops (putQ q 5 (datB 1)) [(5, v)]) wx → Calls Tryz.prog 19 #[.pointer (some ⟨d.P, 0, none⟩), .int .i64 1] wx fun e w' => e = .returned (.int .i64 0) ∧ W24 w1 K G d (A3 w1.heap.size d ops (putQ q 5 (datB 1)) [(5, v)]) w' := fun v wx hx => by
    refine (com24 wx hx.1 (by simp) (by simp)).mono ?_
    rintro e w' ⟨rfl, c, hA⟩
    exact ⟨rfl, hA, c.heap hx.2.1 (by decide), Cs.chg0 hx.2.2 c (Nat.le_refl _)⟩
  have hFl : ∀ v wx, W24 w1 K G d (A3 w1.heap.size d ops (putQ q 5 (datB 1)) [(5, v)]) wx → Calls Tryz.prog 20 #[.pointer (some ⟨d.P, 0, none⟩)] wx fun e w' => e = .returned (.int .i64 0) ∧ W24 w1 K G d (A4 d [(5, datB 1)]) w' := fun v wx hx => by
    refine (flu24 wx hx.1 H2.out.2.2.2).mono ?_
    rintro e w' ⟨rfl, c, hA⟩
    rw [putsL_one, show putQ q 5 (datB 1) 5 = datB 1 by simp [putQ]] at hA
    exact ⟨rfl, hA, c.heap hx.2.1 (by decide), Cs.chg0 hx.2.2 c (Nat.le_refl _)⟩
  have f1' : ∀ {v : Value} a b, A1 w1.heap.size d ops (putQ q 5 (datB 1)) [(5, v)] a → Chg [] a b → A1 w1.heap.size d ops (putQ q 5 (datB 1)) [(5, v)] b := fun a b h k => h.keep k
  have f3 : ∀ {v : Value} a b, A3 w1.heap.size d ops (putQ q 5 (datB 1)) [(5, v)] a → Chg [] a b → A3 w1.heap.size d ops (putQ q 5 (datB 1)) [(5, v)] b := fun a b h k => h.keep k
  have HWr := Lib.hid hWr
  have HCo := Lib.hid hCo
  have HFl := Lib.hid hFl
  clear hWr hCo hFl hA3 cs3 c1 HB
  have p3 := h3.p
  have p3d : w3.drew.cell? ⟨K, 1, none⟩ = some (.pointer (some ⟨d.P, 0, none⟩)) := p3
  go_wp2_with fail
  go_region_held3 (fun wx => wx.cell? ⟨K, 1, none⟩ = some (.pointer (some ⟨d.P, 0, none⟩)))
    (first
      | (exact p3)
      | (exact p3d)
      | (exact pA _)
      | (exact p5)
      | (exact p5d)
      | (exact p6)
      | (exact p6d)
      | (exact p7)
      | (exact p7d))
    (first
      | (go_at_call 18; refine (data1 _).mono ?_; rintro e w4 ⟨D, rfl, k4, lD, hF⟩; have h4 : W24 w1 K G d (A1 w1.heap.size d ops q []) w4 := (by first | exact h3.keep f1 k4 | exact h3.keep f1 ((Chg.refl [] w3).drew.then k4)); have p3 := h4.p; have p3d : w4.drew.cell? ⟨K, 1, none⟩ = some (.pointer (some ⟨d.P, 0, none⟩)) := p3; have pA : ∀ o, (w4.alloc o).cell? ⟨K, 1, none⟩ = some (.pointer (some ⟨d.P, 0, none⟩)) := fun o => (Chg.alloc (S := []) w4 o).cell p3 (by simp))
      | (go_at_call 17; refine (HWr.out w4 D h4 hF _ _ _ (by first | exact Chg.alloc _ _ | exact (Chg.alloc _ _).drew | exact (Chg.refl [] _).drew.then_alloc _) (by first | exact heap_new _ _)).mono ?_; rintro e w5 ⟨rfl, v5, h5⟩; have p5 := h5.p; have p5d : w5.drew.cell? ⟨K, 1, none⟩ = some (.pointer (some ⟨d.P, 0, none⟩)) := p5)
      | (go_at_call 19; refine (HCo.out v5 _ (by first | exact h5 | exact h5.keep f1' (Chg.refl [] w5).drew)).mono ?_; rintro e w6 ⟨rfl, h6⟩; have p6 := h6.p; have p6d : w6.drew.cell? ⟨K, 1, none⟩ = some (.pointer (some ⟨d.P, 0, none⟩)) := p6)
      | (go_at_call 20; refine (HFl.out v5 _ (by first | exact h6 | exact h6.keep f3 (Chg.refl [] w6).drew)).mono ?_; rintro e w7 ⟨rfl, h7⟩; have p7 := h7.p; have p7d : w7.drew.cell? ⟨K, 1, none⟩ = some (.pointer (some ⟨d.P, 0, none⟩)) := p7))
  all_goals
    have n7 := h7.n
    obtain ⟨base, A, c, ops', Z, vs, gs, zs, hD, hgs, hz, hz6⟩ := h7.1
    have hz96 : ∀ j, j < 8 → (zs j).length ≤ 96 := fun j hj => by
      by_cases e : j = 6
      · subst e
        rw [hz6]
        simp [logL, batL_length]
      · rw [hz j e]
        simp
    have HCr := Lib.hid (crash_ok w7 hD.k hgs hz96 (pick_nil w7) (pick_nil w7))
    have H7 := Lib.hid (H2.out.1.then h7.2.2)
    have HZ := Lib.hid (And.intro hz hz6)
    clear h7 hD hgs hz hz6 hz96 h6 h5 h4 h3 p3 p3d pA p5 p5d p6 p6d p7 p7d hF k4 lD f1 f1' f3
    go_wp2_with fail
    refine HCr.out.mono ?_
    rintro e w8 ⟨N', A', c', Z', vs', rfl, k8, hD8, lN, lA, lZ⟩
    have HMt := Lib.hid (mount_one w8 (datB_length 1) hD8 ⟨by simp [cutZ, HZ.out.1], by simp [cutZ, HZ.out.1], by simp [cutZ, HZ.out.1]⟩ (by simp [cutZ, HZ.out.2]) k8 lN lZ)
    clear hD8 HCr HZ k8 lN lA lZ
    go_wp2_with fail
    refine HMt.out.mono ?_
    rintro e w9 ⟨P, S, M, X, rx, B, r, lo, Lv, pos, num, rfl, k9, hSt, hMg, hVe, hke, hle⟩
    have HDp := Lib.hid (sdump_ok w9 hSt hMg hVe hke hle)
    have HLa := Lib.hid (And.intro hSt hMg)
    have HEq := Lib.hid (ver_one hVe hke).2
    have H9 := Lib.hid (H7.out.then k9)
    clear HMt k9 hSt hMg hVe hke hle
    go_wp2_with fail
    refine HDp.out.mono ?_
    rintro e w10 ⟨v, rfl, k10, hp⟩
    rw [HEq.out] at hp
    obtain ⟨g, cap, gd, cd, hv, hcap, d0, d1, hb, -, -⟩ := hp.get 0 (by simp)
    have hv2 : v = .slice (some ⟨g, 0, none⟩) 1 cap := hv
    subst hv2
    have d0' : w10.cell? ⟨g, 0, none⟩ = some (.int .i64 5) := d0
    have d1' : w10.cell? ⟨g, 1, none⟩ = some (.slice (some ⟨gd, 0, none⟩) 40 cd) := d1
    have hb' : Bs w10 (some ⟨gd, 0, none⟩) (datB 1) := hb
    have hcap1 : 1 ≤ cap := hcap
    have kk : Chg [] w10 w10 := Chg.refl _ _
    have hh : ∀ wx, Chg [] w10 wx → wx.cell? ⟨g, 0, none⟩ = some (.int .i64 5) ∧ wx.cell? ⟨g, 1, none⟩ = some (.slice (some ⟨gd, 0, none⟩) 40 cd) := fun wx k => ⟨k.cell d0' (by simp), k.cell d1' (by simp)⟩
    have HH := Lib.hid hh
    have HBb := Lib.hid hb'
    have HK := Lib.hid k10
    clear hp hv hcap d0 d1 hb hb' hh HDp HEq
    go_wp2_with fail
    go_region_held3 (fun wx => wx.cell? ⟨g, 0, none⟩ = some (.int .i64 5) ∧ wx.cell? ⟨g, 1, none⟩ = some (.slice (some ⟨gd, 0, none⟩) 40 cd))
      (first
        | (exact HH.out _ kk)
        | (exact HH.out _ kk.drew))
      (first
        | (go_at_call 18; refine (data1 _).mono ?_; rintro e w11 ⟨D2, rfl, k11, lD2, hF2⟩; replace kk : Chg [] w10 w11 := (by first | exact kk.then k11 | exact kk.drew.then k11))
        | (go_at_call 24; refine (bytes_same _ (by first | exact HBb.out.chg kk | exact HBb.out.chg kk.drew) (by first | exact hF2.bs | exact hF2.bs.chg (Chg.refl [] w11).drew) (datB_length 1)).mono ?_; rintro e w12 ⟨rfl, k12⟩; replace kk : Chg [] w10 w12 := (by first | exact kk.then k12 | exact kk.drew.then k12))
        | (go_at_call 14; refine (slast_ok _ (by first | exact (HK.out.then kk).heap HLa.out.1 (by simp) | exact (HK.out.then kk.drew).heap HLa.out.1 (by simp)) (by first | exact (HK.out.then kk).heap HLa.out.2 (by simp) | exact (HK.out.then kk.drew).heap HLa.out.2 (by simp))).mono ?_; rintro e w13 ⟨rfl, rfl⟩))
    all_goals
      have HF := Lib.hid ((H9.out.then HK.out).then kk)
      clear kk k11 k12 hF2
      go_wp2_with fail
      go_ret
      exact ⟨rfl, HF.out⟩
end Go.Proofs.YtkhionhicegfmaaGreat
namespace Go.Proofs.YtkhionhicegfmaaGreat
open Go.RowKit Go.Lib

set_option maxRecDepth 100000 in
theorem dgone_nil (w : World) : Calls Tryz.prog 73 #[.pointer none] w fun e w' => e = .returned (.bool true) ∧ w = w' := by
  go_enter Tryz.func73, Tryz.ntmps73
  go_wp2_with fail
  go_ret
  exact ⟨rfl, rfl⟩
set_option maxRecDepth 100000 in
theorem geometry_nil (w : World) : Calls Tryz.prog 46 #[.pointer none] w fun e w' => e = .returned (.agg #[.int .i64 0, .int .i64 0]) ∧ Chg [] w w' := by
  have g0 := heap_new w (.cells #[.int .i64 0, .int .i64 0] 29)
  have hc : Chg [] w (w.alloc (.cells #[.int .i64 0, .int .i64 0] 29)) := Chg.alloc _ _
  go_enter Tryz.func46, Tryz.ntmps46
  go_wp2_with fail
  have hz := Nat.le_refl w.heap.size
  generalize hzz : w.heap.size = z at *
  generalize w.alloc (.cells #[.int .i64 0, .int .i64 0] 29) = w1 at *
  refine (dgone_nil w1).mono ?_
  rintro e w2 ⟨rfl, rfl⟩
  have c0 := cell_is g0 0 rfl
  have c1 := cell_is g0 1 rfl
  have f0 := unfrozen g0 0
  have f1 := unfrozen g0 1
  clear g0
  go_wp2_with fail
  refine bodyPost_ret (v := .agg #[.int .i64 0, .int .i64 0]) (by simp [results, Tryz.results46, go_sem, c0, c1]) rfl ?_
  exact ⟨rfl, (hc.new_set (by omega) _ _).new_set (by omega) _ _⟩
set_option maxRecDepth 100000 in
theorem may_nil (w : World) : Calls Tryz.prog 92 #[.agg #[.int .i64 0, .int .i64 0]] w fun e w' => e = .returned (.bool false) ∧ Chg [] w w' := by
  have g0 := heap_new w (.cells #[.int .i64 0, .int .i64 0] 29)
  have hc : Chg [] w (w.alloc (.cells #[.int .i64 0, .int .i64 0] 29)) := Chg.alloc _ _
  have c0 := cell_is g0 0 rfl
  have c1 := cell_is g0 1 rfl
  go_enter Tryz.func92, Tryz.ntmps92
  go_wp2_with fail
  go_ret
  exact ⟨rfl, hc⟩
set_option maxRecDepth 100000 in
theorem split_nil (w : World) : Calls Tryz.prog 45 #[.agg #[.int .i64 0, .int .i64 0]] w fun e w' => e = .returned (.tuple #[.agg #[.int .i64 0, .int .i64 0, .int .i64 0, .int .i64 0], .int .i64 1]) ∧ Chg [] w w' := by
  have y := two_new w (.cells #[.int .i64 0, .int .i64 0] 29) (.cells #[.int .i64 0, .int .i64 0, .int .i64 0, .int .i64 0] 99)
  have hc := chg_two w (.cells #[.int .i64 0, .int .i64 0] 29) (.cells #[.int .i64 0, .int .i64 0, .int .i64 0, .int .i64 0] 99)
  have a0 := cell_is y.1 0 rfl
  have a1 := cell_is y.1 1 rfl
  go_enter Tryz.func45, Tryz.ntmps45
  go_wp2_with fail
  have y1 := y.2
  clear y
  generalize (w.alloc (.cells #[.int .i64 0, .int .i64 0] 29)).alloc (.cells #[.int .i64 0, .int .i64 0, .int .i64 0, .int .i64 0] 99) = w1 at *
  refine (may_nil w1).mono ?_
  rintro e w2 ⟨rfl, k2⟩
  have y2 := k2.heap y1 (by simp)
  have kk := hc.then k2
  have c0 := cell_is y2 0 rfl
  have c1 := cell_is y2 1 rfl
  have c2 := cell_is y2 2 rfl
  have c3 := cell_is y2 3 rfl
  have f0 := unfrozen y2 0
  have f1 := unfrozen y2 1
  have f2 := unfrozen y2 2
  have f3 := unfrozen y2 3
  clear y1 y2 k2 hc a0 a1
  go_wp2_with fail
  refine bodyPost_ret (v := .tuple #[.agg #[.int .i64 0, .int .i64 0, .int .i64 0, .int .i64 0], .int .i64 1]) (by simp [results, Tryz.results45, go_sem, c0, c1, c2, c3]) rfl ?_
  exact ⟨rfl, (((kk.new_set (by omega) _ _).new_set (by omega) _ _).new_set (by omega) _ _).new_set (by omega) _ _⟩
set_option maxRecDepth 100000 in
theorem mount_nil (w : World) : Calls Tryz.prog 13 #[.pointer none] w fun e w' => e = .returned (.tuple #[.pointer none, .int .i64 1]) ∧ Chg [] w w' := by
  go_enter Tryz.func13, Tryz.ntmps13
  go_wp2_with fail
  refine (geometry_nil w).mono ?_
  rintro e w1 ⟨rfl, k1⟩
  go_wp2_with fail
  refine (split_nil w1).mono ?_
  rintro e w2 ⟨rfl, k2⟩
  have HK := Lib.hid ((k1.then k2).then_alloc (.cells #[.int .i64 0, .int .i64 0, .int .i64 0, .int .i64 0] 99))
  clear k1 k2
  go_wp2_with fail
  go_ret2
  exact ⟨rfl, HK.out⟩
set_option maxRecDepth 100000 in
theorem sdead_nil (w : World) : Calls Tryz.prog 30 #[.pointer none] w fun e w' => e = .returned (.bool true) ∧ w = w' := by
  go_enter Tryz.func30, Tryz.ntmps30
  go_wp2_with fail
  go_ret
  exact ⟨rfl, rfl⟩
set_option maxRecDepth 100000 in
theorem smgr_nil (w : World) : Calls Tryz.prog 58 #[.pointer none] w fun e w' => e = .returned (.pointer none) ∧ w = w' := by
  go_enter Tryz.func58, Tryz.ntmps58
  go_wp2_with fail
  go_ret
  exact ⟨rfl, rfl⟩
set_option maxRecDepth 100000 in
theorem tgone_nil (w : World) : Calls Tryz.prog 105 #[.pointer none] w fun e w' => e = .returned (.bool true) ∧ w = w' := by
  go_enter Tryz.func105, Tryz.ntmps105
  go_wp2_with fail
  go_ret
  exact ⟨rfl, rfl⟩
set_option maxRecDepth 100000 in
theorem sbegin_nil (w : World) : Calls Tryz.prog 16 #[.pointer none] w fun e w' => e = .returned (.tuple #[.int .i64 0, .int .i64 12]) ∧ w = w' := by
  go_enter Tryz.func16, Tryz.ntmps16
  go_wp2_with fail
  refine (sdead_nil w).mono ?_
  rintro e w1 ⟨rfl, rfl⟩
  go_wp2_with fail
  go_ret2
  exact ⟨rfl, rfl⟩
set_option maxRecDepth 100000 in
theorem scommit_nil (w : World) (h : Int) : Calls Tryz.prog 19 #[.pointer none, .int .i64 h] w fun e w' => e = .returned (.int .i64 12) ∧ w = w' := by
  go_enter Tryz.func19, Tryz.ntmps19
  go_wp2_with fail
  refine (sdead_nil w).mono ?_
  rintro e w1 ⟨rfl, rfl⟩
  go_wp2_with fail
  go_ret
  exact ⟨rfl, rfl⟩
set_option maxRecDepth 100000 in
theorem sflush_nil (w : World) : Calls Tryz.prog 20 #[.pointer none] w fun e w' => e = .returned (.int .i64 12) ∧ w = w' := by
  go_enter Tryz.func20, Tryz.ntmps20
  go_wp2_with fail
  refine (sdead_nil w).mono ?_
  rintro e w1 ⟨rfl, rfl⟩
  go_wp2_with fail
  go_ret
  exact ⟨rfl, rfl⟩
set_option maxRecDepth 100000 in
theorem scheck_nil (w : World) : Calls Tryz.prog 21 #[.pointer none] w fun e w' => e = .returned (.int .i64 12) ∧ w = w' := by
  go_enter Tryz.func21, Tryz.ntmps21
  go_wp2_with fail
  refine (sdead_nil w).mono ?_
  rintro e w1 ⟨rfl, rfl⟩
  go_wp2_with fail
  go_ret
  exact ⟨rfl, rfl⟩
set_option maxRecDepth 100000 in
theorem sclean_nil (w : World) : Calls Tryz.prog 28 #[.pointer none] w fun e w' => e = .returned (.int .i64 0) ∧ w = w' := by
  go_enter Tryz.func28, Tryz.ntmps28
  go_wp2_with fail
  refine (sdead_nil w).mono ?_
  rintro e w1 ⟨rfl, rfl⟩
  go_wp2_with fail
  go_ret
  exact ⟨rfl, rfl⟩
set_option maxRecDepth 100000 in
theorem sblocks_nil (w : World) : Calls Tryz.prog 29 #[.pointer none] w fun e w' => e = .returned (.int .i64 0) ∧ w = w' := by
  go_enter Tryz.func29, Tryz.ntmps29
  go_wp2_with fail
  go_ret
  exact ⟨rfl, rfl⟩
set_option maxRecDepth 100000 in
theorem sdump_nil (w : World) : Calls Tryz.prog 15 #[.pointer none] w fun e w' => e = .returned (.slice none 0 0) ∧ w = w' := by
  have HD : Hid (Calls Tryz.prog 60 #[.pointer none] w fun e w' => e = .returned (.slice none 0 0) ∧ w = w') := Lib.hid (by
    go_enter Tryz.func60, Tryz.ntmps60
    go_wp2_with fail
    refine (tgone_nil w).mono ?_
    rintro e w1 ⟨rfl, rfl⟩
    go_wp2_with fail
    go_ret
    exact ⟨rfl, rfl⟩)
  go_enter Tryz.func15, Tryz.ntmps15
  go_wp2_with fail
  refine (smgr_nil w).mono ?_
  rintro e w1 ⟨rfl, rfl⟩
  go_wp2_with fail
  refine HD.out.mono ?_
  rintro e w1 ⟨rfl, rfl⟩
  go_wp2_with fail
  go_ret
  exact ⟨rfl, rfl⟩
set_option maxRecDepth 100000 in
theorem sresult_nil (w : World) (h : Int) : Calls Tryz.prog 22 #[.pointer none, .int .i64 h] w fun e w' => e = .returned (.tuple #[.int .i64 0, .int .i64 0, .int .i64 0]) ∧ w = w' := by
  have HD : Hid (Calls Tryz.prog 72 #[.pointer none, .int .i64 h] w fun e w' => e = .returned (.tuple #[.int .i64 0, .int .i64 0, .int .i64 0]) ∧ w = w') := Lib.hid (by
    go_enter Tryz.func72, Tryz.ntmps72
    go_wp2_with fail
    refine (tgone_nil w).mono ?_
    rintro e w1 ⟨rfl, rfl⟩
    go_wp2_with fail
    refine bodyPost_ret (v := .tuple #[.int .i64 0, .int .i64 0, .int .i64 0]) (by simp [results, Tryz.results72, go_sem]) rfl ?_
    exact ⟨rfl, rfl⟩)
  go_enter Tryz.func22, Tryz.ntmps22
  go_wp2_with fail
  refine (smgr_nil w).mono ?_
  rintro e w1 ⟨rfl, rfl⟩
  go_wp2_with fail
  refine HD.out.mono ?_
  rintro e w1 ⟨rfl, rfl⟩
  go_wp2_with fail
  refine bodyPost_ret (v := .tuple #[.int .i64 0, .int .i64 0, .int .i64 0]) (by simp [results, Tryz.results22, go_sem]) rfl ?_
  exact ⟨rfl, rfl⟩
set_option maxRecDepth 100000 in
set_option maxHeartbeats 2000000 in
theorem law5_any (h : Int) (w : World) : Calls Tryz.prog 5 #[.int .i64 h] w fun e w' => e = .returned (.bool true) ∧ Chg [] w w' := by
  go_enter Tryz.func5, Tryz.ntmps5
  go_wp2_with fail
  refine (mount_nil w).mono ?_
  rintro e w1 ⟨rfl, k1⟩
  have HK := Lib.hid k1
  clear k1
  go_wp2_with fail
  refine (sbegin_nil w1).mono ?_
  rintro e w2 ⟨rfl, rfl⟩
  go_wp2_with fail
  refine (sresult_nil w1 h).mono ?_
  rintro e w2 ⟨rfl, rfl⟩
  go_wp2_with fail
  refine (scommit_nil w1 h).mono ?_
  rintro e w2 ⟨rfl, rfl⟩
  go_wp2_with fail
  refine (sflush_nil w1).mono ?_
  rintro e w2 ⟨rfl, rfl⟩
  go_wp2_with fail
  refine (scheck_nil w1).mono ?_
  rintro e w2 ⟨rfl, rfl⟩
  go_wp2_with fail
  refine (sclean_nil w1).mono ?_
  rintro e w2 ⟨rfl, rfl⟩
  go_wp2_with fail
  refine (sblocks_nil w1).mono ?_
  rintro e w2 ⟨rfl, rfl⟩
  go_wp2_with fail
  refine (sdump_nil w1).mono ?_
  rintro e w2 ⟨rfl, rfl⟩
  go_wp2_with fail
  refine (sdead_nil w1).mono ?_
  rintro e w2 ⟨rfl, rfl⟩
  go_wp2_with fail
  refine (awake24 w1).mono ?_
  rintro e w2 ⟨rfl, k2⟩
  have HK2 := Lib.hid (HK.out.then k2)
  clear k2
  go_wp2_with fail
  go_ret
  exact ⟨rfl, HK2.out⟩
end Go.Proofs.YtkhionhicegfmaaGreat
namespace Go.Proofs.YtkhionhicegfmaaGreat
open Go.ChangeShapes Go.WideShapes Go.ChangeAt Go.RowKit Go.Deep Go.Joins
set_option maxRecDepth 100000

theorem ownk : ownKnob Tryz.prog.godebug = none := by kernel_rfl
/-- what a contract with 'Below' gives of a row's sentence. -/
theorem post_below {H : Type} {enc : TypeId × Value → H} {f : Func} {s : ChangeSpec} {W W' : World} {args : Array Value} {v : Value} {ds gs : List (DataW H)} {before pa pv : List MemPlace} (hb : Below W.heap.size W W')
    (hW : DataW.Whole enc Tryz.prog f.params.toList s.vars false W args.toList ds gs before)
    (hres : DataW.TrodAll enc Tryz.prog W' W.heap.size (fun _ => false) false f.resultTypes.toList (v.resultList f.resultTypes.size) (s.fn H (ds ++ gs)).results [])
    (hargs : DataW.TrodAll enc Tryz.prog W' 0 (fun b => decide (b < W.heap.size)) true f.params.toList args.toList (s.fn H (ds ++ gs)).args pa)
    (hvars : DataW.TrodVars enc Tryz.prog W' (fun b => decide (b < W.heap.size)) s.vars (s.fn H (ds ++ gs)).vars pv) :
    s.post enc Tryz.prog f false true false false W args v W' :=
  ⟨ds, gs, before, [], pa, pv, hW, hres, hargs, hvars, hb.frame _, fun h => by cases h⟩

end Go.Proofs.YtkhionhicegfmaaGreat
namespace Go.Proofs.YtkhionhicegfmaaGreat
open Go.ChangeShapes Go.WideShapes Go.ChangeAt Go.RowKit Go.Deep Go.Joins
set_option maxRecDepth 100000
namespace Law5
theorem contract (H : Type) (enc : TypeId × Value → H) (W : World) (base : Nat) (args : Array Value) (ds gs : List (DataW H)) (before : List MemPlace)
    (hval : ∀ (j : Nat) t v, Tryz.f5.params[j]? = some t → args[j]? = some v → Value.okWide Tryz.prog W .any base t v)
    (hW : DataW.Whole enc Tryz.prog Tryz.f5.params.toList Rows.storeNothingSpec.vars false W args.toList ds gs before) :
    Calls Tryz.prog 5 args W fun e W' => ∃ v, e = .returned v ∧ Rows.storeNothingSpec.post enc Tryz.prog Tryz.f5 false true false false W args v W' := by
  have hW' := hW
  obtain ⟨p, q, hA0, hV, rfl, hfz, hnd⟩ := hW
  have hA : DataW.TrodAll enc Tryz.prog W 0 (fun _ => true) true Tryz.f5.params.toList args.toList ds p := hA0
  rw [Tryz.params5] at hA hval
  obtain ⟨v0, vs0, d0, ds0, p0, q0, hargs, rfl, rfl, h0, r0⟩ := trodAll_cons hA
  obtain ⟨rfl, rfl, rfl⟩ := trodAll_nil r0
  obtain rfl : args = #[v0] := by cases args; simp_all
  obtain ⟨rfl, rfl⟩ := trodVars_none hV
  obtain ⟨a0, rfl, rfl, rfl, w0⟩ := open_int Tryz.underlying3 (hval 0 3 v0 rfl rfl) h0
  refine (law5_any a0 W).mono fun e W' ⟨he, hc⟩ => ?_
  subst he
  exact ⟨_, rfl, post_below hc.below0 hW' (trodAll_mk1 (shut_bool Tryz.underlying4 _)) (trodAll_cons_mk (shut_int Tryz.underlying3 w0) trodAll_mk0) rfl⟩
theorem lifted (os : Os) (started : os.Started) (H : Type) (enc : TypeId × Value → H) :
    ReturnsInHanded {} Tryz.checked os 5 .any (Rows.storeNothingSpec.pre6 enc Tryz.prog Tryz.f5 Rows.storeNothingRow.domain false) (Rows.storeNothingSpec.post enc Tryz.prog Tryz.f5 false true false false) := by
  refine returnsInHanded_of_change (C := Tryz.checked) ownk started (by kernel_rfl) Tryz.func5
    (ChangeSpec.witness6 (enc := enc) (C := Tryz.checked) false ⟨#[], #[.int .i64 0], []⟩ 8 (by kernel_rfl) (by kernel_rfl) (by kernel_rfl) (by kernel_rfl)) ?_
  intro W base args ds gs before hval0 hW hcnd _
  exact contract H enc W base args ds gs before hval0 hW
theorem over : Rows.storeNothingRow.holds Tryz.pinned (OpenSpec.ofChange Rows.storeNothingSpec) :=
  OpenClaim.holds_of_wide 5 Tryz.f5 rfl rfl rfl rfl rfl rfl rfl ⟨rfl, rfl, rfl, rfl, rfl⟩ rfl rfl rfl rfl rfl (by kernel_rfl) Tryz.func5 (by kernel_rfl)
    (of_decide_eq_true (by kernel_rfl)) (by unfold Func.isWrapper; first | (rw [if_pos (by decide +kernel)]; kernel_rfl) | (rw [if_neg (by decide +kernel)]; exact ⟨rfl, rfl⟩))
    (fun os started H enc _ => lifted os started H enc)
theorem said : Rows.StoreNothingSaid := over
end Law5
end Go.Proofs.YtkhionhicegfmaaGreat
