/- Lemmas and walks: Walks: many puts are written into a buffer (wbuf.Write 153): none is out of range, none short, none stands twice. Walks: many puts are written into a buffer (wbuf.Write 153). Walks: many puts are written into a buffer (wbuf.Write 153), the walk. Walks: a transaction writes many puts at once: txn.Write 92, store.Write 48. Walks: store.write where there is no room. Walks: a batch for which there was no room: txn.end 96 with a code, Done 57. Walks: a flush that finds no room. Walks: store.write, where the log goes over from its first zone to its second. Walks: a flush over both of the log's zones. Walks: a transaction is checked, and may be committed, where all versions are no newer than its time and nothing waits. Walks: a store's Begin and Commit, in general. Walks: a new world of law 26, with all that its store holds. Plain: what versions hold behind a transaction. Walks: store.Begin, and which blocks it changes. -/
import Derived.Test.YtnelakpdmjfolaaGreatCd
import Derived.Test.YtnelakpdmjfolaaGreatCe
import Derived.Test.YtnelakpdmjfolaaGreatCf
import Derived.Test.YtnelakpdmjfolaaGreatCg
import Derived.Test.YtnelakpdmjfolaaGreatCh
namespace Go.Proofs.YtnelakpdmjfolaaGreat
open Go.RowKit Go.Lib

/-- a row of puts that is read. -/
def PutsW (w : World) (E eo : Nat) (l : List (Int × List UInt8)) : Prop := ∀ i (h : i < l.length), w.cell? ⟨E, eo + i * 2, none⟩ = some (.int .i64 l[i].1) ∧ ∃ g o c, w.cell? ⟨E, eo + i * 2 + 1, none⟩ = some (.slice (some ⟨g, o, none⟩) 40 c) ∧ Bs w (some ⟨g, o, none⟩) l[i].2 ∧ l[i].2.length = 40
theorem PutsW.keep {w w' : World} {E eo : Nat} {l : List (Int × List UInt8)} (h : PutsW w E eo l) (hc : Chg [] w w') : PutsW w' E eo l := fun i hi => by
  obtain ⟨h1, g, o, c, h2, h3, h4⟩ := h i hi
  exact ⟨hc.cell h1 (by simp), g, o, c, hc.cell h2 (by simp), h3.chg hc, h4⟩
set_option maxRecDepth 100000 in
set_option maxHeartbeats 1000000 in
theorem idx_far (w : World) {E eo cp n K W rw : Nat} {l : List (Int × List UInt8)} {L : List (Int × Value)} (hp : PutsW w E eo l) (hn : l.length = n) (h : BufAt w W rw L) (hK : w.cell? ⟨K, 0, none⟩ = some (.pointer (some ⟨W, 0, none⟩))) (hk : ∀ p ∈ l, 0 ≤ p.1 ∧ p.1 < 258) (hm : n ≤ 1000) :
    Calls Tryz.prog 137 #[.slice (some ⟨E, eo, none⟩) n cp, .func (.func 121) #[] #[.pointer (some ⟨K, 0, none⟩)]] w fun e w' => e = .returned (.int .i64 (-1)) ∧ Chg [] w w' := by
  have HH := Lib.hid (And.intro hp (And.intro h hK))
  clear hp h hK
  go_enter Tryz.func137, Tryz.ntmps137
  go_wp2_with fail
  go_loopw [8, 5] (fun i _ wr => ∃ j : Nat, i = .int .i64 j ∧ j ≤ n ∧ Chg [] w wr) (fun i _ _ => n - (intOf i).toNat)
  case atStart => exact ⟨0, rfl, by omega, Chg.refl _ _⟩
  case round =>
    obtain ⟨j, rfl, hj, hc⟩ := hrel
    by_cases hlt : j < n
    · have hlti : (j : Int) < n := by omega
      obtain ⟨h1, g, o, c, h2, h3, h4⟩ := HH.out.1.keep hc j (by omega)
      have hr := hk _ (List.getElem_mem (by omega : j < l.length))
      have HG := Lib.hid (far_one (c := c) (D := g) (o := o) wr (HH.out.2.1.keep hc (by simp) (by simp)) (hc.cell HH.out.2.2 (by simp)) hr.1 hr.2)
      have HC := Lib.hid hc
      clear hc h3 h4 hr
      generalize (l[j]'(by omega)).1 = b at *
      go_wp2_with fail
      refine HG.out.mono ?_
      rintro e w2 ⟨rfl, hc2⟩
      have HC2 := Lib.hid (HC.out.then hc2)
      clear hc2 HG h1 h2
      go_wp2_with fail
      go_roundw
      case rel => exact ⟨j + 1, by go_num, hlt, HC2.out⟩
      case measure => simp [intOf]; omega
    · obtain rfl : j = n := by omega
      have HC := Lib.hid hc
      clear hc
      go_wp2_with fail
      go_ret
      exact ⟨rfl, HC.out⟩
set_option maxRecDepth 100000 in
set_option maxHeartbeats 1000000 in
theorem idx_short (w : World) {E eo cp n : Nat} {l : List (Int × List UInt8)} (hp : PutsW w E eo l) (hn : l.length = n) (hm : n ≤ 1000) :
    Calls Tryz.prog 137 #[.slice (some ⟨E, eo, none⟩) n cp, .func (.func 122) #[] #[]] w fun e w' => e = .returned (.int .i64 (-1)) ∧ Chg [] w w' := by
  have HH := Lib.hid hp
  clear hp
  go_enter Tryz.func137, Tryz.ntmps137
  go_wp2_with fail
  go_loopw [8, 5] (fun i _ wr => ∃ j : Nat, i = .int .i64 j ∧ j ≤ n ∧ Chg [] w wr) (fun i _ _ => n - (intOf i).toNat)
  case atStart => exact ⟨0, rfl, by omega, Chg.refl _ _⟩
  case round =>
    obtain ⟨j, rfl, hj, hc⟩ := hrel
    by_cases hlt : j < n
    · have hlti : (j : Int) < n := by omega
      obtain ⟨h1, g, o, c, h2, h3, h4⟩ := HH.out.keep hc j (by omega)
      have HG := Lib.hid (short_one (c := c) (D := g) (o := o) (b := (l[j]'(by omega)).1) wr)
      have HC := Lib.hid hc
      clear hc h3 h4
      generalize (l[j]'(by omega)).1 = b at *
      go_wp2_with fail
      refine HG.out.mono ?_
      rintro e w2 ⟨rfl, hc2⟩
      have HC2 := Lib.hid (HC.out.then hc2)
      clear hc2 HG h1 h2
      go_wp2_with fail
      go_roundw
      case rel => exact ⟨j + 1, by go_num, hlt, HC2.out⟩
      case measure => simp [intOf]; omega
    · obtain rfl : j = n := by omega
      have HC := Lib.hid hc
      clear hc
      go_wp2_with fail
      go_ret
      exact ⟨rfl, HC.out⟩
set_option maxRecDepth 100000 in
theorem cont_far (w : World) {E eo cp n K W rw : Nat} {l : List (Int × List UInt8)} {L : List (Int × Value)} (hp : PutsW w E eo l) (hn : l.length = n) (h : BufAt w W rw L) (hK : w.cell? ⟨K, 0, none⟩ = some (.pointer (some ⟨W, 0, none⟩))) (hk : ∀ p ∈ l, 0 ≤ p.1 ∧ p.1 < 258) (hm : n ≤ 1000) :
    Calls Tryz.prog 113 #[.slice (some ⟨E, eo, none⟩) n cp, .func (.func 121) #[] #[.pointer (some ⟨K, 0, none⟩)]] w fun e w' => e = .returned (.bool false) ∧ Chg [] w w' := by
  have HI := Lib.hid (idx_far w (cp := cp) hp hn h hK hk hm)
  clear hp h hK
  go_enter Tryz.func113, Tryz.ntmps113
  go_wp2_with fail
  refine HI.out.mono ?_
  rintro e w2 ⟨rfl, hc⟩
  go_wp2_with fail
  go_ret
  exact ⟨rfl, hc⟩
set_option maxRecDepth 100000 in
theorem cont_short (w : World) {E eo cp n : Nat} {l : List (Int × List UInt8)} (hp : PutsW w E eo l) (hn : l.length = n) (hm : n ≤ 1000) :
    Calls Tryz.prog 113 #[.slice (some ⟨E, eo, none⟩) n cp, .func (.func 122) #[] #[]] w fun e w' => e = .returned (.bool false) ∧ Chg [] w w' := by
  have HI := Lib.hid (idx_short w (cp := cp) hp hn hm)
  clear hp
  go_enter Tryz.func113, Tryz.ntmps113
  go_wp2_with fail
  refine HI.out.mono ?_
  rintro e w2 ⟨rfl, hc⟩
  go_wp2_with fail
  go_ret
  exact ⟨rfl, hc⟩
/-- how often each of the first numbers was met, none twice. -/
def metL (l : List (Int × List UInt8)) : Nat → List (Int × Value)
  | 0 => []
  | j + 1 => match l[j]? with | some p => putL (metL l j) p.1 (.int .i64 1) | none => metL l j
theorem metL_get {l : List (Int × List UInt8)} (hd : (l.map Prod.fst).Nodup) : ∀ j, j ≤ l.length → ∀ i, (h : i < l.length) → j ≤ i → getL (metL l j) l[i].1 = none
  | 0, _, i, h, _ => rfl
  | j + 1, hj, i, h, hji => by
    have ih := metL_get hd j (by omega) i h (by omega)
    simp only [metL, List.getElem?_eq_getElem (show j < l.length by omega)]
    rw [getL_put, if_neg, ih]
    intro e
    have hne := (List.pairwise_iff_getElem.1 hd) j i (by simp; omega) (by simpa using h) (by omega)
    simp only [List.getElem_map] at hne
    exact hne e.symm
set_option maxRecDepth 100000 in
set_option maxHeartbeats 2000000 in
theorem twice_many (w : World) {E eo cp n : Nat} {l : List (Int × List UInt8)} (hp : PutsW w E eo l) (hn : l.length = n) (hd : (l.map Prod.fst).Nodup) (hm : n ≤ 1000) :
    Calls Tryz.prog 123 #[.slice (some ⟨E, eo, none⟩) n cp] w fun e w' => e = .returned (.bool false) ∧ Chg [] w w' := by
  have hmk := @run_makeMap Tryz.prog
  have k1 : Chg [] w (w.alloc (.map #[] 0)) := Chg.alloc w _
  have m1 : MapAt (w.alloc (.map #[] 0)) w.heap.size [] := ⟨#[], 0, heap_new w _, rfl, MapKept.stamped_empty 0⟩
  have HH := Lib.hid (And.intro hp hd)
  have HM := Lib.hid (And.intro k1 m1)
  have hw0 : w.heap.size ≤ w.heap.size := Nat.le_refl _
  clear hp hd k1 m1
  go_enter Tryz.func123, Tryz.ntmps123
  go_wp2_with fail
  go_step3
  go_wp2_with fail
  generalize hw1 : w.alloc (.map #[] 0) = w1 at *
  generalize hR : w.heap.size = R at *
  go_step3
  go_wp2_with fail
  go_loopw [9, 5] (fun i _ wr => ∃ j : Nat, i = .int .i64 j ∧ j ≤ n ∧ Chg [] w wr ∧ MapAt wr R (metL l j)) (fun i _ _ => n - (intOf i).toNat)
  case atStart => exact ⟨0, rfl, by omega, HM.out.1, HM.out.2⟩
  case round =>
    obtain ⟨j, rfl, hj, hc, hM⟩ := hrel
    by_cases hlt : j < n
    · have hlti : (j : Int) < n := by omega
      obtain ⟨h1, g, o, c, h2, h3, h4⟩ := HH.out.1.keep hc j (by omega)
      have hg0 := metL_get HH.out.2 j (by omega) j (by omega) (Nat.le_refl _)
      have hme : metL l (j + 1) = putL (metL l j) (l[j]'(by omega)).1 (.int .i64 1) := by simp only [metL, List.getElem?_eq_getElem (show j < l.length by omega)]
      clear h3 h4
      generalize (l[j]'(by omega)).1 = b at *
      have k2 : Chg [] wr (wr.alloc (.cells #[.int .i64 b, .slice (some ⟨g, o, none⟩) 40 c] 41)) := Chg.alloc wr _
      have g2 := heap_new wr (.cells #[.int .i64 b, .slice (some ⟨g, o, none⟩) 40 c] 41)
      have m2 : MapAt (wr.alloc (.cells #[.int .i64 b, .slice (some ⟨g, o, none⟩) 40 c] 41)) R (metL l j) := hM.keep k2 (by simp)
      have l2 : (Instr.lookup 187 (.map (some R)) (.int .i64 b) false).run Tryz.prog (wr.alloc (.cells #[.int .i64 b, .slice (some ⟨g, o, none⟩) 40 c] 41)) = .ok (.int .i64 0) (wr.alloc (.cells #[.int .i64 b, .slice (some ⟨g, o, none⟩) 40 c] 41)) := by
        have := lookup268 m2 b false
        rw [hg0] at this
        exact this
      obtain ⟨u2, m3, k3⟩ := upd268 m2 b (.int .i64 1)
      have l3 : (Instr.lookup 187 (.map (some R)) (.int .i64 b) false).run Tryz.prog (updW (wr.alloc (.cells #[.int .i64 b, .slice (some ⟨g, o, none⟩) 40 c] 41)) 187 R b (.int .i64 1)) = .ok (.int .i64 1) (updW (wr.alloc (.cells #[.int .i64 b, .slice (some ⟨g, o, none⟩) 40 c] 41)) 187 R b (.int .i64 1)) := by
        rw [lookup268 m3 b false, getL_put, if_pos rfl]
        rfl
      have hne : wr.heap.size ≠ R := by have := hM.lt; omega
      have c3 : (updW (wr.alloc (.cells #[.int .i64 b, .slice (some ⟨g, o, none⟩) 40 c] 41)) 187 R b (.int .i64 1)).cell? ⟨wr.heap.size, 0, none⟩ = some (.int .i64 b) := k3.cell (cell_is g2 0 rfl) (by simpa using hne)
      have kk : Chg [] w (updW (wr.alloc (.cells #[.int .i64 b, .slice (some ⟨g, o, none⟩) 40 c] 41)) 187 R b (.int .i64 1)) := by
        refine (hc.then k2).trans k3 ?_
        intro x hx hl
        simp at hx
        omega
      have HK := Lib.hid (And.intro kk m3)
      clear hM m2 m3 g2 k2 k3 kk hc
      go_wp2_with fail
      go_roundw
      case rel => exact ⟨j + 1, by go_num, hlt, HK.out.1, by rw [hme]; exact HK.out.2⟩
      case measure => simp [intOf]; omega
    · obtain rfl : j = n := by omega
      have HC := Lib.hid hc
      clear hc hM
      go_wp2_with fail
      simp only [Exit.noGoto]
      go_ret
      exact ⟨rfl, HC.out⟩
end Go.Proofs.YtnelakpdmjfolaaGreat
namespace Go.Proofs.YtnelakpdmjfolaaGreat
open Go.RowKit Go.Lib

/-- a buffer L' behind the first j of the puts l, that was L. -/
structure Wtn (w : World) (L L' : List (Int × Value)) (l : List (Int × List UInt8)) (j : Nat) : Prop where
  old : ∀ b, (∀ i (h : i < l.length), i < j → l[i].1 ≠ b) → getL L' b = getL L b
  new : ∀ i (h : i < l.length), i < j → ∃ g c, getL L' l[i].1 = some (.slice (some ⟨g, 0, none⟩) 40 c) ∧ Bs w (some ⟨g, 0, none⟩) l[i].2 ∧ Bt w g
  keys : ∀ x ∈ L', x.1 ∈ L.map Prod.fst ∨ ∃ i, ∃ h : i < l.length, i < j ∧ x.1 = l[i].1
theorem Wtn.zero (w : World) (L : List (Int × Value)) (l : List (Int × List UInt8)) : Wtn w L L l 0 := ⟨fun _ _ => rfl, fun i h h0 => by omega, fun x hx => Or.inl (List.mem_map.2 ⟨x, hx, rfl⟩)⟩
theorem bt_ne {w : World} {g r : Nat} {L : List (Int × Value)} (h : Bt w g) (hm : MapAt w r L) : g ≠ r := by
  obtain ⟨cs, hcs⟩ := h
  exact fun e => map_cells hm hcs e.symm
theorem putL_mem' {L : List (Int × Value)} {k : Int} {v : Value} : ∀ x ∈ putL L k v, x = (k, v) ∨ x ∈ L := by
  induction L with
  | nil => intro x hx; simp [putL] at hx; exact Or.inl hx
  | cons p l ih =>
    intro x hx
    simp only [putL] at hx
    split at hx
    · rcases List.mem_cons.1 hx with rfl | hx
      · exact Or.inl rfl
      · exact Or.inr (List.mem_cons_of_mem _ hx)
    · rcases List.mem_cons.1 hx with rfl | hx
      · exact Or.inr List.mem_cons_self
      · rcases ih x hx with h | h
        · exact Or.inl h
        · exact Or.inr (List.mem_cons_of_mem _ h)
theorem Wtn.keep {w w' : World} {S : List Nat} {L L' : List (Int × Value)} {l : List (Int × List UInt8)} {j : Nat} (h : Wtn w L L' l j) (hc : Chg S w w') (hS : ∀ x ∈ S, ∀ g, Bt w g → g ≠ x) : Wtn w' L L' l j :=
  ⟨h.old, fun i hi hj => by
    obtain ⟨g, c, h1, h2, h3⟩ := h.new i hi hj
    have hn : g ∉ S := fun hm => hS g hm g h3 rfl
    exact ⟨g, c, h1, h2.chgT hc hn, Bt.keep h3 hc hn⟩, h.keys⟩
theorem Wtn.succ {w : World} {L L' : List (Int × Value)} {l : List (Int × List UInt8)} {j g c : Nat} (h : Wtn w L L' l j) (hd : (l.map Prod.fst).Nodup) (hj : j < l.length) (hb : Bs w (some ⟨g, 0, none⟩) l[j].2) (ht : Bt w g) : Wtn w L (putL L' l[j].1 (.slice (some ⟨g, 0, none⟩) 40 c)) l (j + 1) := by
  have hne : ∀ i (hi : i < l.length), i < j → l[i].1 ≠ l[j].1 := fun i hi hij => by
    have := (List.pairwise_iff_getElem.1 hd) i j (by simpa using hi) (by simpa using hj) hij
    simpa using this
  refine ⟨fun b hb2 => ?_, fun i hi hij => ?_, fun x hx => ?_⟩
  · rw [getL_put, if_neg (fun e => hb2 j hj (by omega) e.symm), h.old b (fun i hi hij => hb2 i hi (by omega))]
  · rw [getL_put]
    by_cases e : i = j
    · subst e
      rw [if_pos rfl]
      exact ⟨g, c, rfl, hb, ht⟩
    · rw [if_neg (hne i hi (by omega))]
      exact h.new i hi (by omega)
  · rcases putL_mem' x hx with rfl | hx
    · exact Or.inr ⟨j, hj, by omega, rfl⟩
    · rcases h.keys x hx with h1 | ⟨i, hi, hij, e⟩
      · exact Or.inl h1
      · exact Or.inr ⟨i, hi, by omega, e⟩
/-- what a write of many puts looks at. -/
structure WrM (w : World) (K W rw E eo : Nat) (L : List (Int × Value)) (l : List (Int × List UInt8)) : Prop where
  k : w.cell? ⟨K, 0, none⟩ = some (.pointer (some ⟨W, 0, none⟩))
  buf : BufAt w W rw L
  row : PutsW w E eo l
theorem WrM.keep {w w' : World} {K W rw E eo : Nat} {L : List (Int × Value)} {l : List (Int × List UInt8)} (h : WrM w K W rw E eo L l) (hc : Chg [] w w') : WrM w' K W rw E eo L l :=
  ⟨hc.cell h.k (by simp), h.buf.keep hc (by simp) (by simp), h.row.keep hc⟩
theorem WrM.c1 {w : World} {K W rw E eo : Nat} {L : List (Int × Value)} {l : List (Int × List UInt8)} (h : WrM w K W rw E eo L l) : w.cell? ⟨W, 1, none⟩ = some (.int .i64 16) := cell_is h.buf.1 1 rfl
theorem WrM.c2 {w : World} {K W rw E eo : Nat} {L : List (Int × Value)} {l : List (Int × List UInt8)} (h : WrM w K W rw E eo L l) : w.cell? ⟨W, 2, none⟩ = some (.map (some rw)) := cell_is h.buf.1 2 rfl
/-- the row of puts lies elsewhere than in the buffer's map. -/
theorem WrM.keepM {w w' : World} {K W rw E eo : Nat} {L L' : List (Int × Value)} {l : List (Int × List UInt8)} (h : WrM w K W rw E eo L l) (hc : Chg [rw] w w') (hm : MapAt w' rw L') : WrM w' K W rw E eo L' l := by
  have hn : ∀ {b i v}, w.cell? ⟨b, i, none⟩ = some v → b ∉ [rw] := fun hh => by simpa using cell_map h.buf.2 hh
  refine ⟨hc.cell h.k (hn h.k), ⟨hc.heap h.buf.1 (by simpa using (map_cells h.buf.2 h.buf.1).symm), hm⟩, fun i hi => ?_⟩
  obtain ⟨h1, g, o, c, h2, h3, h4⟩ := h.row i hi
  have hg : g ∉ [rw] := by
    rcases h3 with h0 | ⟨b, off, he, hb, hcs⟩
    · rw [h0] at h4; cases h4
    · cases he
      exact hn (hcs 0 (by omega))
  exact ⟨hc.cell h1 (hn h1), g, o, c, hc.cell h2 (hn h2), h3.chgT hc hg, h4⟩
end Go.Proofs.YtnelakpdmjfolaaGreat
namespace Go.Proofs.YtnelakpdmjfolaaGreat
open Go.RowKit Go.Lib

set_option maxRecDepth 100000 in
set_option maxHeartbeats 8000000 in
theorem wwrite_many (w : World) {W rw E eo cp n : Nat} {L : List (Int × Value)} {l : List (Int × List UInt8)} (h : BufAt w W rw L) (hp : PutsW w E eo l) (hn : l.length = n) (h0 : 0 < n) (hd : (l.map Prod.fst).Nodup) (hk : ∀ p ∈ l, 0 ≤ p.1 ∧ p.1 < 258) (hroom : L.length + n ≤ 16) :
    Calls Tryz.prog 83 #[.pointer (some ⟨W, 0, none⟩), .slice (some ⟨E, eo, none⟩) n cp] w fun e w' => ∃ L', e = .returned (.int .i64 0) ∧ Chg [rw] w w' ∧ BufAt w' W rw L' ∧ Wtn w' L L' l n := by
  have k1 : Chg [] w (w.alloc (.cells #[.pointer (some ⟨W, 0, none⟩)] 142)) := Chg.alloc w _
  have H : WrM (w.alloc (.cells #[.pointer (some ⟨W, 0, none⟩)] 142)) w.heap.size W rw E eo L l :=
    ⟨cell_is (heap_new w _) 0 rfl, h.keep k1 (by simp) (by simp), hp.keep k1⟩
  have hn0 : ¬ (n : Int) = 0 := by omega
  have hnb : ((n : Int) == 0) = false := beq_eq_false_iff_ne.2 hn0
  have hnd : decide ((n : Int) = 0) = false := decide_eq_false hn0
  have HD := Lib.hid hd
  clear h hp hd
  go_enter Tryz.func83, Tryz.ntmps83
  go_wp2_with fail
  generalize w.alloc (.cells #[.pointer (some ⟨W, 0, none⟩)] 142) = w1 at *
  generalize w.heap.size = K at *
  refine (cont_far w1 H.row hn H.buf H.k hk (by omega)).mono ?_
  rintro e w2 ⟨rfl, k2⟩
  have H2 := H.keep k2
  have kk2 := k1.then k2
  clear H k1 k2
  go_wp2_with fail
  refine (cont_short w2 H2.row hn (by omega)).mono ?_
  rintro e w3 ⟨rfl, k3⟩
  have H3 := H2.keep k3
  have kk3 := kk2.then k3
  clear H2 kk2 k3
  go_wp2_with fail
  refine (twice_many w3 H3.row hn HD.out (by omega)).mono ?_
  rintro e w4 ⟨rfl, k4⟩
  have H4 := H3.keep k4
  have kk4 := kk3.then k4
  clear H3 kk3 k4
  have c1 := H4.c1
  have c2 := H4.c2
  have c0 := H4.k
  have hlen : (Builtin.len_ #[87] 3 #[.map (some rw)]).run Tryz.prog w4 = .ok (.int .i64 L.length) w4 := run_len_im ty151 H4.buf.2 3
  have HX := Lib.hid (And.intro H4 kk4)
  go_wp2_with fail
  clear c0 c1 c2 hlen H4 kk4
  go_loopw [5, 37] (fun x i wr => ∃ j m : Nat, i = .int .i64 j ∧ j ≤ n ∧ x = .int .i64 m ∧ m ≤ L.length + j ∧ WrM wr K W rw E eo L l ∧ Chg [] w wr) (fun _ i _ => n - (intOf i).toNat)
  case atStart => exact ⟨0, L.length, rfl, by omega, rfl, by omega, HX.out.1, HX.out.2⟩
  case round =>
    obtain ⟨j, m, rfl, hj, rfl, hm, H6, kk6⟩ := hrel
    by_cases hlt : j < n
    · have hlti : (j : Int) < n := by omega
      obtain ⟨e0, D, o, c, e1, hb, hl⟩ := H6.row j (by omega)
      clear hb hl
      generalize (l[j]'(by omega)).1 = b at *
      have k5 : Chg [] wr (wr.alloc (.cells #[.int .i64 b, .slice (some ⟨D, o, none⟩) 40 c] 41)) := Chg.alloc wr _
      have g5 : (wr.alloc (.cells #[.int .i64 b, .slice (some ⟨D, o, none⟩) 40 c] 41)).cell? ⟨wr.heap.size, 0, none⟩ = some (.int .i64 b) := cell_is (heap_new wr _) 0 rfl
      have H5 := H6.keep k5
      have d0 := H5.k
      have d2 := H5.c2
      have hlk : (Instr.lookup 87 (.map (some rw)) (.int .i64 b) true).run Tryz.prog (wr.alloc (.cells #[.int .i64 b, .slice (some ⟨D, o, none⟩) 40 c] 41)).drew = .ok (.tuple #[(getL L b).getD (.slice none 0 0), .bool (getL L b).isSome]) (wr.alloc (.cells #[.int .i64 b, .slice (some ⟨D, o, none⟩) 40 c] 41)).drew := lookup151 (w := (wr.alloc (.cells #[.int .i64 b, .slice (some ⟨D, o, none⟩) 40 c] 41)).drew) H5.buf.2 b true
      generalize hgl : getL L b = gl at *
      have HY := Lib.hid (And.intro (H5.keep (Chg.refl [] _).drew) (kk6.then (k5.then (Chg.refl [] _).drew)))
      clear H6 kk6 H5 k5
      go_wp2_with fail
      generalize wr.alloc (.cells #[.int .i64 b, .slice (some ⟨D, o, none⟩) 40 c] 41) = w5 at *
      generalize wr.heap.size = z at *
      go_region_held3 (fun wx => wx.cell? ⟨K, 0, none⟩ = some (.pointer (some ⟨W, 0, none⟩)) ∧ wx.cell? ⟨W, 2, none⟩ = some (.map (some rw)) ∧ wx.cell? ⟨z, 0, none⟩ = some (.int .i64 b)) (first | (exact ⟨d0, d2, g5⟩)) (fail)
      have hwm : IntKind.i64.wrap ((m : Int) + 1) = ((m + 1 : Nat) : Int) := by rw [IntKind.wrap_i64]; omega
      cases gl with
      | none =>
        go_wp2_with fail
        go_roundw
        case rel => exact ⟨j + 1, m + 1, by go_num, hlt, by go_num, by omega, HY.out.1, HY.out.2⟩
        case measure => simp [intOf]; omega
      | some y =>
        go_wp2_with fail
        go_roundw
        case rel => exact ⟨j + 1, m, by go_num, hlt, rfl, by omega, HY.out.1, HY.out.2⟩
        case measure => simp [intOf]; omega
    · obtain rfl : j = n := by omega
      have c0 := H6.k
      have c1 := H6.c1
      have hng : ¬ (16 : Int) < m := by omega
      have HZ := Lib.hid (And.intro H6 kk6)
      clear H6 kk6 HX
      go_wp2_with fail
      clear c0 c1
      go_loopw [64] (fun i wr => ∃ (q : Nat) (L' : List (Int × Value)), i = .int .i64 q ∧ q ≤ j ∧ WrM wr K W rw E eo L' l ∧ Chg [rw] w wr ∧ Wtn wr L L' l q) (fun i _ => j - (intOf i).toNat)
      case atStart => exact ⟨0, L, rfl, by omega, HZ.out.1, HZ.out.2.mono (fun x hx _ => by cases hx), Wtn.zero _ _ _⟩
      case round =>
        obtain ⟨q, L', rfl, hq, H7, k7, hW⟩ := hrel
        by_cases hlt : q < j
        · have hlti : (q : Int) < j := by omega
          obtain ⟨e0, D, o, c, e1, hb, hl⟩ := H7.row q (by omega)
          have HD2 := Lib.hid (fun w (g c : Nat) (h : Wtn w L L' l q) (hb : Bs w (some ⟨g, 0, none⟩) (l[q]'(by omega)).2) (ht : Bt w g) => h.succ (c := c) HD.out (by omega) hb ht)
          generalize (l[q]'(by omega)).1 = b at *
          generalize (l[q]'(by omega)).2 = dat at *
          have k8 : Chg [] wr (wr.alloc (.cells #[.int .i64 b, .slice (some ⟨D, o, none⟩) 40 c] 41)) := Chg.alloc wr _
          have g7 : (wr.alloc (.cells #[.int .i64 b, .slice (some ⟨D, o, none⟩) 40 c] 41)).cell? ⟨wr.heap.size, 0, none⟩ = some (.int .i64 b) := cell_is (heap_new wr _) 0 rfl
          have g8 : (wr.alloc (.cells #[.int .i64 b, .slice (some ⟨D, o, none⟩) 40 c] 41)).cell? ⟨wr.heap.size, 1, none⟩ = some (.slice (some ⟨D, o, none⟩) 40 c) := cell_is (heap_new wr _) 1 rfl
          have H8 := H7.keep k8
          have hb8 := hb.chg k8
          have d0 := H8.k
          have d2 := H8.c2
          have HW8 := Lib.hid (And.intro (k7.trans (k8.then (Chg.refl [] _).drew) (fun x hx => by cases hx)) (hW.keep (k8.then (Chg.refl [] _).drew) (fun x hx => by cases hx)))
          clear hb H7 k7 hW k8
          go_wp2_with fail
          generalize wr.alloc (.cells #[.int .i64 b, .slice (some ⟨D, o, none⟩) 40 c] 41) = w5 at *
          generalize wr.heap.size = z at *
          have H7d := H8.keep (Chg.refl [] w5).drew
          have hb7d : Bs w5.drew (some ⟨D, o, none⟩) dat := hb8.chg (Chg.refl [] w5).drew
          have hsz := H8.buf.2.lt
          go_region_held3 (fun wx => wx.cell? ⟨K, 0, none⟩ = some (.pointer (some ⟨W, 0, none⟩)) ∧ wx.cell? ⟨W, 2, none⟩ = some (.map (some rw)) ∧ wx.cell? ⟨z, 0, none⟩ = some (.int .i64 b) ∧ wx.cell? ⟨z, 1, none⟩ = some (.slice (some ⟨D, o, none⟩) 40 c))
            (first
              | (exact ⟨d0, d2, g7, g8⟩)
              | (exact ⟨H9.k, H9.c2, q7, q8⟩)
              | (exact ⟨k10.cell H9.k (by simpa using cell_map H9.buf.2 H9.k), k10.cell H9.c2 (by simpa using cell_map H9.buf.2 H9.c2), k10.cell q7 (by simpa using cell_map H9.buf.2 q7), k10.cell q8 (by simpa using cell_map H9.buf.2 q8)⟩))
            (first
              | (go_at_call 65; refine (clone_bt w5.drew (l := dat) hl (by decide) (by decide) hb7d).mono ?_; rintro e w6 ⟨g, c', rfl, k9, hb9, l9, ht9⟩; have H9 := H7d.keep k9; have q7 : w6.cell? ⟨z, 0, none⟩ = some (.int .i64 b) := k9.cell g7 (by simp); have q8 : w6.cell? ⟨z, 1, none⟩ = some (.slice (some ⟨D, o, none⟩) 40 c) := k9.cell g8 (by simp); obtain ⟨hmu, m8, k10⟩ := upd151 H9.buf.2 b (.slice (some ⟨g, 0, none⟩) 40 c')))
          have hgr : g ≠ rw := bt_ne ht9 H9.buf.2
          have hnew := H9.keepM k10 m8
          have kf := (HW8.out.1.trans k9 (fun x hx => by cases hx)).then k10
          have hwt := (HW8.out.2.keep k9 (fun x hx => by cases hx)).keep k10 (fun x hx g2 hg2 e => by simp at hx; subst hx; exact bt_ne hg2 H9.buf.2 e)
          have hs := HD2.out _ g c' hwt (hb9.chgT k10 (by simpa using hgr)) (Bt.keep ht9 k10 (by simpa using hgr))
          have HF := Lib.hid (And.intro hnew (And.intro kf hs))
          clear hmu hnew kf hwt hs ht9 hb9 k9 k10 m8
          go_wp2_with fail
          go_roundw
          case rel => exact ⟨q + 1, _, by go_num, hlt, HF.out.1, HF.out.2.1, HF.out.2.2⟩
          case measure => simp [intOf]; omega
        · obtain rfl : q = j := by omega
          have HQ := Lib.hid (And.intro H7.buf (And.intro k7 hW))
          clear H7 k7 hW
          go_wp2_with fail
          go_ret
          exact ⟨L', rfl, HQ.out.2.1, HQ.out.1, HQ.out.2.2⟩
end Go.Proofs.YtnelakpdmjfolaaGreat
namespace Go.Proofs.YtnelakpdmjfolaaGreat
open Go.RowKit Go.Lib

/-- blocks behind puts. -/
def putA (q : Int → List UInt8) (l : List (Int × List UInt8)) (b : Int) : List UInt8 := match l.find? (fun p => decide (p.1 = b)) with | some p => p.2 | none => q b
theorem putA_at {q : Int → List UInt8} {l : List (Int × List UInt8)} (hd : (l.map Prod.fst).Nodup) (i : Nat) (hi : i < l.length) : putA q l l[i].1 = l[i].2 := by
  unfold putA
  have : l.find? (fun p => decide (p.1 = l[i].1)) = some l[i] := by
    rw [List.find?_eq_some_iff_getElem]
    refine ⟨by simp, i, hi, rfl, fun j hj => ?_⟩
    have := (List.pairwise_iff_getElem.1 hd) j i (by simp; omega) (by simpa using hi) hj
    simpa using this
  rw [this]
theorem putA_not {q : Int → List UInt8} {l : List (Int × List UInt8)} {b : Int} (h : ∀ i (hi : i < l.length), l[i].1 ≠ b) : putA q l b = q b := by
  unfold putA
  have : l.find? (fun p => decide (p.1 = b)) = none := by
    rw [List.find?_eq_none]
    intro p hp
    obtain ⟨i, hi, rfl⟩ := List.getElem_of_mem hp
    simpa using h i hi
  rw [this]
theorem nodup_subK (l : List Int) : ∀ S : List Int, l.Nodup → (∀ x ∈ l, x ∈ S) → l.length ≤ S.length := by
  induction l with
  | nil => intro S _ _; exact Nat.zero_le _
  | cons a l ih =>
    intro S hn hs
    simp only [List.nodup_cons] at hn
    have ha := hs a List.mem_cons_self
    have := ih (S.erase a) hn.2 (fun x hx => by
      have hne : x ≠ a := fun e => hn.1 (e ▸ hx)
      exact (List.mem_erase_of_ne hne).2 (hs x (List.mem_cons_of_mem _ hx)))
    rw [List.length_erase_of_mem ha] at this
    have := List.length_pos_of_mem ha
    simp only [List.length_cons]
    omega
theorem Wtn.len {w : World} {L L' : List (Int × Value)} {l : List (Int × List UInt8)} {n : Nat} (h : Wtn w L L' l n) (hn : l.length = n) (hd : (L'.map Prod.fst).Nodup) : L'.length ≤ L.length + n := by
  have := nodup_subK (L'.map Prod.fst) (L.map Prod.fst ++ l.map Prod.fst) hd (fun x hx => by
    obtain ⟨p, hp, rfl⟩ := List.mem_map.1 hx
    rcases h.keys p hp with h1 | ⟨i, hi, -, e⟩
    · exact List.mem_append_left _ h1
    · exact List.mem_append_right _ (by rw [e]; exact List.mem_map.2 ⟨_, List.getElem_mem hi, rfl⟩))
  simpa [hn] using this
theorem Wtn.pos {w : World} {L L' : List (Int × Value)} {l : List (Int × List UInt8)} {n : Nat} (h : Wtn w L L' l n) (hn : l.length = n) (h0 : 0 < n) : 0 < L'.length := by
  obtain ⟨g, c, h1, -⟩ := h.new 0 (by omega) h0
  exact List.length_pos_of_mem (getL_memk h1)
variable {base : Nat} {d : Ids} {p : Par} {F : World → Prop}
set_option maxRecDepth 100000 in
theorem twrite_many (w : World) {q : Int → List UInt8} {L : List (Int × Value)} {n m E eo cp : Nat} {l : List (Int × List UInt8)} (hf : Fr base d p F) (h : Su w base d p F q L n)
    (hp : PutsW w E eo l) (hn : l.length = m) (h0 : 0 < m) (hd : (l.map Prod.fst).Nodup) (hk : ∀ p ∈ l, 0 ≤ p.1 ∧ p.1 < 258) (hroom : L.length + m ≤ 16) :
    Calls Tryz.prog 39 #[.pointer (some ⟨d.M, 0, none⟩), .int .i64 p.h, .slice (some ⟨E, eo, none⟩) m cp] w fun e w' =>
    ∃ L', e = .returned (.int .i64 0) ∧ Chg [d.rw] w w' ∧ BufAt w' d.W d.rw L' ∧ Wtn w' L L' l m := by
  have t4 : w.cell? ⟨d.T, 4, none⟩ = some (.pointer (some ⟨d.W, 0, none⟩)) := cell_is h.tx 4 rfl
  have HO := Lib.hid (topen_gen w (hf.need _ h.env) h.tx)
  have HW := Lib.hid (wwrite_many w (cp := cp) h.buf hp hn h0 hd hk hroom)
  clear h hp hd hk
  go_enter Tryz.func39, Tryz.ntmps39
  go_wp2_with fail
  refine HO.out.mono ?_
  rintro e w1 ⟨rfl, rfl⟩
  go_wp2_with fail
  refine HW.out.mono ?_
  rintro e w1 ⟨L', rfl, k, hbf, hw⟩
  have HX := Lib.hid (And.intro k (And.intro hbf hw))
  clear k hbf hw
  go_wp2_with fail
  go_ret
  exact ⟨L', rfl, HX.out.1, HX.out.2.1, HX.out.2.2⟩
set_option maxRecDepth 100000 in
theorem swrite_many (w : World) {q : Int → List UInt8} {L : List (Int × Value)} {n m E eo cp : Nat} {l : List (Int × List UInt8)} (hf : Fr base d p F) (h : Su w base d p F q L n)
    (hp : PutsW w E eo l) (hn : l.length = m) (h0 : 0 < m) (hd : (l.map Prod.fst).Nodup) (hk : ∀ p ∈ l, 0 ≤ p.1 ∧ p.1 < 258) (hroom : L.length + m ≤ 16) :
    Calls Tryz.prog 12 #[.pointer (some ⟨d.P, 0, none⟩), .int .i64 p.h, .slice (some ⟨E, eo, none⟩) m cp] w fun e w' =>
    ∃ L', e = .returned (.int .i64 0) ∧ Ow base w w' ∧ Su w' base d p F (putA q l) L' n ∧ 0 < L'.length ∧ L'.length ≤ L.length + m := by
  have c5 := (hf.need _ h.env).p5
  have HO := Lib.hid (dead_gen w (hf.need _ h.env))
  have HW := Lib.hid (twrite_many w (cp := cp) hf h hp hn h0 hd hk hroom)
  have HS := Lib.hid (And.intro h (And.intro hp (And.intro hd hk)))
  have HF := Lib.hid hf
  clear h hp hd hk hf
  go_enter Tryz.func12, Tryz.ntmps12
  go_wp2_with fail
  refine HO.out.mono ?_
  rintro e w1 ⟨rfl, rfl⟩
  go_wp2_with fail
  refine HW.out.mono ?_
  rintro e w1 ⟨L', rfl, kc, hbf, hw⟩
  go_wp2_with fail
  go_ret
  obtain ⟨h, hp, hd, hk⟩ := HS.out
  have hr : ∀ {x : Nat} {cs : Array Value} {t : TypeId}, w.heap[x]? = some (.cells cs t (0, 0)) → x ∉ [d.rw] := fun hx => by simpa using (map_cells h.buf.2 hx).symm
  have how : Ow base w w1 := by
    refine ⟨[d.rw], kc, fun x hx => ?_⟩
    rw [List.mem_singleton] at hx
    subst hx
    exact ⟨h.high.2.2, fun cs t fr hh => absurd rfl (map_cells h.buf.2 hh)⟩
  refine ⟨L', rfl, how, ⟨HF.out.keep _ _ how h.env, kc.heap h.tx (hr h.tx), hbf, fun x hx => ?_, fun x hx hx' => ?_, h.vw.keep kc (av_map h.buf.2 _), h.sp.keep kc (av_map h.buf.2 _), h.high⟩, hw.pos hn h0, hw.len hn hbf.2.nodup⟩
  · rcases hw.keys x hx with h1 | ⟨i, hi, -, e⟩
    · obtain ⟨y, hy, e⟩ := List.mem_map.1 h1
      rw [← e]; exact h.keys y hy
    · rw [e]; exact hk _ (List.getElem_mem hi)
  · by_cases hxb : ∃ i, ∃ hi : i < l.length, l[i].1 = x
    · obtain ⟨i, hi, rfl⟩ := hxb
      obtain ⟨g, c, h1, h2, h3⟩ := hw.new i hi (by omega)
      rw [putA_at hd i hi]
      exact Or.inr ⟨g, c, h1, h2, by obtain ⟨-, _, _, _, _, _, h40⟩ := hp i hi; exact h40, h3⟩
    · have hno : ∀ i (hi : i < l.length), l[i].1 ≠ x := fun i hi e => hxb ⟨i, hi, e⟩
      rw [putA_not hno]
      have hg' := hw.old x (fun i hi _ => hno i hi)
      rcases h.blk x hx hx' with ⟨hg, hz⟩ | ⟨g2, c2, hg, hb2, hl2, cs, ht2⟩
      · exact Or.inl ⟨by rw [hg']; exact hg, hz⟩
      · exact Or.inr ⟨g2, c2, by rw [hg']; exact hg, hb2.chgT kc (hr ht2), hl2, cs, kc.heap ht2 (hr ht2)⟩
end Go.Proofs.YtnelakpdmjfolaaGreat
namespace Go.Proofs.YtnelakpdmjfolaaGreat
open Go.RowKit Go.Lib

set_option maxRecDepth 100000 in
set_option maxHeartbeats 8000000 in
theorem swrite_full (w : World) {base lo N A c P S M pos num cnt k : Nat} {ops num0 : Int} {Z : List Nat} {vs : Nat → Value} {gs : Nat → Nat} {zs : Nat → List (List UInt8)} {v : Value} {l : List (Int × List UInt8)}
    (hP : StoreG w P N S M pos num) (HL : ∀ w1, Chg [] w w1 → Calls Tryz.prog 26 #[.pointer (some ⟨S, 0, none⟩)] w1 fun e w' => ∃ u, e = .returned (.tuple #[u, .int .i64 cnt]) ∧ Chg [] w1 w')
    (hD : DevG w base N A c ops Z vs gs zs) (hT : TxOne w lo v k l) (hk0 : 1 ≤ k) (hk1 : k ≤ 1099511627776) (hcnt : cnt < 4294967296) (hnum : num < 1099511627776) (hl0 : 0 < l.length) (hl : l.length ≤ 16) (hr : Rise l) (hk : ∀ x ∈ l, 0 ≤ x.1 ∧ x.1 < 258)
    (hpos : 192 < pos + l.length + 1) (hpos2 : pos ≤ 192) (_h6 : 6 < Z.length) :
    Calls Tryz.prog 42 #[.pointer (some ⟨P, 0, none⟩), .agg #[.int .i64 num0, v]] w fun e w' => e = .returned (.int .i64 9) ∧ Chg [] w w' := by
  obtain ⟨gt, ct, pbt, cbt, rfl, -, -, -, -, -, -, -⟩ := hT.open_
  have k0 : Chg [] w (w.alloc (.cells #[.int .i64 num0, .slice (some ⟨gt, 0, none⟩) 1 ct] 94)) := Chg.alloc w _
  have K0 := heap_new w (.cells #[.int .i64 num0, .slice (some ⟨gt, 0, none⟩) 1 ct] 94)
  have hP0 := k0.heap hP (by simp)
  have p6 : (w.alloc (.cells #[.int .i64 num0, .slice (some ⟨gt, 0, none⟩) 1 ct] 94)).cell? ⟨P, 6, none⟩ = some (.pointer (some ⟨S, 0, none⟩)) := cell_is hP0 6 rfl
  have HL0 := Lib.hid (HL _ k0)
  have HP := Lib.hid hP
  have HD := Lib.hid hD
  have HT := Lib.hid hT
  clear HL hP hD hT
  go_enter Tryz.func42, Tryz.ntmps42
  go_wp2_with fail
  generalize w.alloc (.cells #[.int .i64 num0, .slice (some ⟨gt, 0, none⟩) 1 ct] 94) = w1 at *
  generalize hz : w.heap.size = K at *
  refine HL0.out.mono ?_
  rintro e w2 ⟨u, rfl, k2'⟩
  have k2 := k0.then k2'
  have K2 := k2'.heap K0 (by simp)
  have hP2 := k2.heap HP.out (by simp)
  have p8 : w2.cell? ⟨P, 8, none⟩ = some (.int .i64 num) := cell_is hP2 8 rfl
  have q0 : w2.cell? ⟨K, 0, none⟩ = some (.int .i64 num0) := cell_is K2 0 rfl
  have z0 : w2.frozen? ⟨K, 0, none⟩ = false := unfrozen K2 0
  have kS : Chg [] w (w2.setCell ⟨K, 0, none⟩ (.int .i64 ((num : Int) + 1))) := k2.new_set (by omega) 0 _
  have K3 : (w2.setCell ⟨K, 0, none⟩ (.int .i64 ((num : Int) + 1))).heap[K]? = some (.cells #[.int .i64 ((num : Int) + 1), .slice (some ⟨gt, 0, none⟩) 1 ct] 94 (0, 0)) := heap_set K2 0 _ rfl
  have a0 : (w2.setCell ⟨K, 0, none⟩ (.int .i64 ((num : Int) + 1))).cell? ⟨K, 0, none⟩ = some (.int .i64 ((num : Int) + 1)) := cell_is K3 0 rfl
  have a1 : (w2.setCell ⟨K, 0, none⟩ (.int .i64 ((num : Int) + 1))).cell? ⟨K, 1, none⟩ = some (.slice (some ⟨gt, 0, none⟩) 1 ct) := cell_is K3 1 rfl
  have hE := bencode_one _ (e := cnt) (num := num + 1) (HT.out.keep kS) (by omega) (by omega) hk0 hk1 hcnt hl0 hl hr hk
  rw [show ((num + 1 : Nat) : Int) = (num : Int) + 1 by omega] at hE
  have HE := Lib.hid hE
  clear hE
  clear p6 HL0 K0 k2' K2 hP2 K3 hk
  go_wp2_with fail
  obtain ⟨lo3, hlo3⟩ : ∃ lo3, lo3 = (w2.setCell ⟨K, 0, none⟩ (.int .i64 ((num : Int) + 1))).heap.size := ⟨_, rfl⟩
  have HLo := Lib.hid (show w.heap.size ≤ lo3 from by rw [hlo3]; exact kS.size)
  rw [← hlo3] at HE
  clear hlo3
  refine HE.out.mono ?_
  rintro e w3 ⟨v', rfl, k3', hrows⟩
  have k3 := kS.then k3'
  have hP3 := k3.heap HP.out (by simp)
  have hD3 := HD.out.keep k3 (Av.nil _ _)
  have hbl : (batL cnt (num + 1) k l).length = l.length + 1 := batL_length _ _ _ _
  have h64 : ∀ x ∈ batL cnt (num + 1) k l, x.length = 64 := fun x hx => by
    obtain ⟨i, hi, rfl⟩ := List.getElem_of_mem hx
    obtain ⟨-, -, -, -, -, -, -, -, h, -⟩ := hrows.get i hi
    exact h
  obtain ⟨gr, cr, gd', cd', hv', hcr, -, -, -, -⟩ := hrows.get 0 (by omega)
  subst hv'
  have HR := Lib.hid hrows
  have HD3 := Lib.hid hD3
  have HP3 := Lib.hid hP3
  have HGm := Lib.hid (geom_hdr w3 (N := N) (A := A) (c := c) ⟨_, hD3.hdr⟩)
  have p0 : w3.cell? ⟨P, 0, none⟩ = some (.pointer (some ⟨N, 0, none⟩)) := cell_is hP3 0 rfl
  have HBL := Lib.hid hbl
  have hsz3 := k3.size
  have hlr : lo3 ≤ gr := by
    obtain ⟨xs, ho, -⟩ := hrows
    exact (own_elem ho rfl).1
  have HV6 := Lib.hid (show ∀ g, (vs 6).ownBlock = some g → g < w.heap.size from fun g hg => by
    obtain ⟨cs, h5⟩ := (HD.out.rows 6 (by omega)).block g hg
    exact heap_lt h5)
  clear HE kS a0 a1 q0 z0 p8 HD HT k2 k3' hD3 hrows hbl hP3
  obtain ⟨bl, hbl'⟩ : ∃ bl, batL cnt (num + 1) k l = bl := ⟨_, rfl⟩
  rw [hbl'] at HR HBL h64
  rw [hbl']
  have HBb := Lib.hid hbl'
  clear hbl'
  go_wp2_with fail
  refine HGm.out.mono ?_
  rintro e w4 ⟨rfl, k4⟩
  have hP4 := k4.heap HP3.out (by simp)
  have HD4 := Lib.hid (HD3.out.keep k4 (Av.nil _ _))
  have HR4 := Lib.hid (HR.out.keep0 k4)
  have hfs := field_size
  have p7 : w4.cell? ⟨P, 7, none⟩ = some (.int .i64 pos) := cell_is hP4 7 rfl
  have p4 : w4.cell? ⟨P, 4, none⟩ = some (.int .i64 7) := cell_is hP4 4 rfl
  have p3 : w4.cell? ⟨P, 3, none⟩ = some (.int .i64 6) := cell_is hP4 3 rfl
  have hpn : IntKind.i64.wrap ((pos : Int) + (bl.length : Nat)) = (pos : Int) + (bl.length : Nat) := by rw [IntKind.wrap_i64]; have := HBL.out; omega
  have hgt : decide (192 < (pos : Int) + (bl.length : Nat)) = true := decide_eq_true (by have := HBL.out; omega)
  have HP4 := Lib.hid hP4
  have kk4 := k3.then k4
  clear hP4 HGm p0 HP3 HD3 HR k4 k3
  go_wp2_with fail
  go_quiet (fail)
  go_wp2_with fail
  go_ret
  exact ⟨rfl, kk4.then ((Chg.refl [] w4).drewN nq)⟩
end Go.Proofs.YtnelakpdmjfolaaGreat
namespace Go.Proofs.YtnelakpdmjfolaaGreat
open Go.RowKit Go.Lib

set_option maxRecDepth 100000 in
set_option maxHeartbeats 1000000 in
theorem tend_er (w : World) {M X B r T W Q rb : Nat} {qv : Value} {out num bas last given bl h t0 : Int} {rd : Bool} {Lr Lb : List (Int × Value)} {s0 c0 k t : Int} (hM : MgrG w M X B r qv out num bas last given rd) (hr : MapAt w r Lr) (hg : getL Lr h = some (.pointer (some ⟨T, 0, none⟩)))
    (hT : w.heap[T]? = some (.cells #[.int .i64 s0, .int .i64 k, .int .i64 c0, .int .i64 t, .pointer (some ⟨W, 0, none⟩), .pointer (some ⟨Q, 0, none⟩)] 149 (0, 0))) (hB : BookAt w B rb bl Lb) (hb : getL Lb h = some (.int .i64 t0)) :
    Calls Tryz.prog 85 #[.pointer (some ⟨M, 0, none⟩), .int .i64 h, .int .i64 4, .int .i64 9] w fun e w' => e = .returned (.tuple #[]) ∧ Chg [T, rb] w w' ∧ BookAt w' B rb bl (delL Lb h) := by
  have m2 : w.cell? ⟨M, 2, none⟩ = some (.map (some r)) := cell_is hM 2 rfl
  have m1 : w.cell? ⟨M, 1, none⟩ = some (.pointer (some ⟨B, 0, none⟩)) := cell_is hM 1 rfl
  have hl : (Instr.lookup 134 (.map (some r)) (.int .i64 h) false).run Tryz.prog w = .ok (.pointer (some ⟨T, 0, none⟩)) w := by
    have := lookup178 hr h false
    rw [hg] at this
    exact this
  have t0' : w.cell? ⟨T, 0, none⟩ = some (.int .i64 s0) := cell_is hT 0 rfl
  have t1' : w.cell? ⟨T, 1, none⟩ = some (.int .i64 k) := cell_is hT 1 rfl
  have t2' : w.cell? ⟨T, 2, none⟩ = some (.int .i64 c0) := cell_is hT 2 rfl
  have f0 := unfrozen hT 0
  have f1 := unfrozen hT 1
  have f2 := unfrozen hT 2
  have hBT : B ≠ T := heap_ne hB.1 hT (by simp)
  have hrT : rb ≠ T := map_cells hB.2 hT
  have hMT : M ≠ T := heap_ne hM hT (by simp)
  have kS : Chg [T] w (((w.setCell ⟨T, 0, none⟩ (.int .i64 4)).setCell ⟨T, 2, none⟩ (.int .i64 9)).setCell ⟨T, 1, none⟩ (.int .i64 0)) := (((Chg.refl [T] w).then_set (fun _ => by simp) 0 _).then_set (fun _ => by simp) 2 _).then_set (fun _ => by simp) 1 _
  have hBS := hB.keepT kS (by simpa using hBT) (by simpa using hrT)
  have HC := Lib.hid (bclose_ok _ hBS hb)
  have m1S := kS.cell m1 (by simpa using hMT)
  clear hM hr hg hT hB hb hBS
  go_enter Tryz.func85, Tryz.ntmps85
  go_wp2_with fail
  refine HC.out.mono ?_
  rintro e w2 ⟨rfl, h1, h2⟩
  go_wp2_with fail
  refine bodyPost_end (v := .tuple #[]) (by simp [results, Tryz.results85, go_sem]) rfl ?_
  exact ⟨rfl, (kS.mono (fun x hx _ => by simp at hx; simp [hx])).then (h2.mono (fun x hx _ => by simp at hx; simp [hx])), h1⟩
/-- the manager behind a batch that was not written: its transaction is aborted. -/
structure DnN (w wr : World) (M X rx B rb r T : Nat) (s : Gs) (h : Int) : Prop where
  mx : Mx wr M X rx B rb r { s with Lb := delL s.Lb h }
  cd : Cd s.lo M T rb X rx w wr
set_option maxRecDepth 100000 in
set_option maxHeartbeats 8000000 in
theorem tdone_no (w : World) {M X rx B rb r gq cq T W rw Q : Nat} {s : Gs} {hdl k t t0 : Int} {L : List (Int × Value)} {D : Int → List UInt8} (hx : Mx w M X rx B rb r s) (hqv : s.qv = .slice (some ⟨gq, 0, none⟩) 1 cq) (hcq : 1 ≤ cq) (hout : s.out = 1)
    (hq : w.cell? ⟨gq, 0, none⟩ = some (.int .i64 hdl)) (hg : getL s.Lr hdl = some (.pointer (some ⟨T, 0, none⟩))) (hT : TxW w T W Q k t) (hb : BufAt w W rw L) (hD : BufD w L D) (hk : ∀ x ∈ L, 0 ≤ x.1 ∧ x.1 < 258) (hl0 : 0 < L.length) (hl : L.length ≤ 16)
    (hap : ApL s.Lv) (hkeys : ∀ p ∈ s.Lv, 0 ≤ p.1 ∧ p.1 < 258) (hlo : s.lo ≤ w.heap.size) (hlast : s.lastv < k) (hs : ∀ c, (s.vs c).length + 16 < 1000000) (hLb : getL s.Lb hdl = some (.int .i64 t0)) (hn0 : 0 ≤ s.num) (hn1 : s.num ≤ 1000000000) :
    Calls Tryz.prog 43 #[.pointer (some ⟨M, 0, none⟩), .int .i64 9] w fun e w' => e = .returned (.int .i64 0) ∧ ∃ z, DnN w w' M X rx B rb r T { s with qv := .slice (some ⟨z, 0, none⟩) 0 0, out := 0 } hdl ∧ w'.ownsRow w.heap.size 3 1 (.slice (some ⟨z, 0, none⟩) 0 0) 0 [] := by
  have hm := hx.mgr
  rw [hqv, hout] at hm
  have HG := Lib.hid (tgone_x w hx)
  have m4 : w.cell? ⟨M, 4, none⟩ = some (.int .i64 1) := cell_is hm 4 rfl
  have m3 : w.cell? ⟨M, 3, none⟩ = some (.slice (some ⟨gq, 0, none⟩) 1 cq) := cell_is hm 3 rfl
  have HWt := Lib.hid (waiting_one w.drew (k := k) (t := t) (show MgrG w.drew M X B r _ _ _ _ _ _ _ from hm) hq hx.map hg hT (hb.keep (Chg.refl [] w).drew (by simp) (by simp)) (hD.keep (Chg.refl [] w).drew) hk (by omega))
  have hnd : (L.map Prod.fst).Nodup := hb.2.nodup
  have hr := rise_puts D hnd
  have hin := putsL_in D hk
  have hlen : (putsL L D).length = L.length := putsL_length L D
  rw [← hlen] at hl0 hl
  have HX := Lib.hid hx
  have HT := Lib.hid hT
  have HGt := Lib.hid hg
  have HLb := Lib.hid hLb
  have HR := Lib.hid hr
  have HIn := Lib.hid hin
  have HAp := Lib.hid hap
  have HKs := Lib.hid hkeys
  have HS := Lib.hid hs
  have HN := Lib.hid (And.intro hn0 hn1)
  have HLo := Lib.hid hlo
  have HLa := Lib.hid hlast
  have HQv := Lib.hid hqv
  have HOt := Lib.hid hout
  have HL := Lib.hid (And.intro hl0 hl)
  clear hx hm hqv hout hg hT hb hD hk hnd hr hin hlen hap hkeys hlo hlast hs hLb hn0 hn1 hl0 hl
  generalize putsL L D = l at *
  have kd : Chg [] w w.drew := (Chg.refl [] w).drew
  have m4d : w.drew.cell? ⟨M, 4, none⟩ = some (.int .i64 1) := m4
  have hcqi : (1 : Int) ≤ cq := by omega
  go_enter Tryz.func43, Tryz.ntmps43
  go_wp2_with fail
  refine HG.out.mono ?_
  rintro e w1 ⟨rfl, rfl⟩
  go_wp2_with fail
  go_region_held3 (fun wx => wx.cell? ⟨M, 4, none⟩ = some (.int .i64 1))
    (first | (exact m4) | (exact m4d) | (exact k2'.cell m4d (by simp)))
    (first
      | (go_at_call 87; refine HWt.out.mono ?_; rintro e w2 ⟨v, rfl, k2', ht⟩; obtain ⟨g, c, pb, cb, rfl, hc1, hlg, hglt, g0, g1, hcb, hp⟩ := ht.open_; have hc1i : (1 : Int) ≤ c := (by omega); obtain ⟨cg, hgh⟩ := ht.hp))
  have k2 := kd.then k2'
  have m42 := k2.cell m4 (by simp)
  have m32 := k2.cell m3 (by simp)
  have q2 := k2.cell hq (by simp)
  have HP2 := Lib.hid hp
  clear k2' m4 m3 m4d hq HWt HG hp ht kd
  have kd2 : Chg [] w2 w2.drew := (Chg.refl [] w2).drew
  have m42d : w2.drew.cell? ⟨M, 4, none⟩ = some (.int .i64 1) := m42
  have m32d : w2.drew.cell? ⟨M, 3, none⟩ = some (.slice (some ⟨gq, 0, none⟩) 1 cq) := m32
  have q2d : w2.drew.cell? ⟨gq, 0, none⟩ = some (.int .i64 hdl) := q2
  go_wp2_with fail
  go_region_held3 (fun wx => wx.cell? ⟨M, 4, none⟩ = some (.int .i64 1) ∧ wx.cell? ⟨M, 3, none⟩ = some (.slice (some ⟨gq, 0, none⟩) 1 cq))
    (first | (exact ⟨m42, m32⟩) | (exact ⟨m42d, m32d⟩) | (exact ⟨k3'.cell m42d (by simp), k3'.cell m32d (by simp)⟩))
    (first
      | (go_at_call 91; refine (iclone_one w2.drew q2d).mono ?_; rintro e w3 ⟨gz, cz, rfl, k3', o3⟩))
  have k3 := k2.then (kd2.then k3')
  have hg3 := (kd2.then k3').heap hgh (by simp)
  have g03 := (kd2.then k3').cell g0 (by simp)
  have g13 := (kd2.then k3').cell g1 (by simp)
  have HP3 := Lib.hid (HP2.out.keep0 (kd2.then k3'))
  have HX3 := Lib.hid (HX.out.keep k3)
  have T3 := k3.heap HT.out (by simp)
  have z3 : w3.cell? ⟨gz, 0, none⟩ = some (.int .i64 hdl) := by
    rcases o3.2 with ⟨e, h0⟩ | ⟨g', cap', cur', e, -, hh, -, -, -, ht⟩
    · omega
    · cases e
      refine cell_is hh 0 ?_
      have := congrArg (fun l => l[0]?) ht
      simpa [List.getElem?_take] using this
  have hcz : (1 : Int) ≤ cz := by
    obtain ⟨pz, cz', e, hle⟩ := own_form o3
    cases e
    omega
  have hlo3 : s.lo ≤ w3.heap.size := Nat.le_trans HLo.out k3.size
  clear k3' m42 m32 q2 m42d m32d q2d HP2 g0 g1 o3 kd2 hgh
  go_wp2_with fail
  go_loopw [6, 7, 35] (fun _ _ i wr => (i = .int .i64 0 ∧ wr = w3) ∨ (i = .int .i64 1 ∧ DnN w wr M X rx B rb r T s hdl)) (fun _ _ i _ => 1 - (intOf i).toNat)
  case atStart => exact Or.inl ⟨rfl, rfl⟩
  case round =>
    rcases hrel with ⟨rfl, rfl⟩ | ⟨rfl, hDn⟩
    · rename World => wr
      have HE := Lib.hid (tend_er wr HX3.out.mgr HX3.out.map HGt.out T3 HX3.out.book HLb.out)
      have HT3 := Lib.hid T3
      clear T3
      go_wp2_with fail
      refine HE.out.mono ?_
      rintro e w8 ⟨rfl, k8, hb8⟩
      have hDn : DnN w w8 M X rx B rb r T s hdl := by
        have h7 := HX3.out
        have av : ∀ ts, 149 ∉ ts → Av wr [T, rb] ts := fun ts h1 x hx cs t' fr hh => by
          simp at hx
          rcases hx with rfl | rfl
          · rw [HT3.out] at hh; cases hh; exact h1
          · exact absurd rfl (map_cells h7.book.2 hh)
        have nT : ∀ {x L}, MapAt wr x L → x ≠ rb → x ∉ [T, rb] := fun hm hx => by simp; exact ⟨map_cells hm HT3.out, hx⟩
        exact ⟨⟨k8.heap h7.mgr ((av [136] (by decide)).ne h7.mgr (by simp)), h7.ver.keepA k8 (av _ (by decide)) (nT h7.ver.m h7.n1), hb8, h7.map.keep k8 (nT h7.map h7.n2), h7.n1, h7.n2, h7.n3⟩, (Cd.of_chg k3 (fun x hx => by cases hx)).trans (Cd.of_chg k8 (fun x hx => by simp at hx; rcases hx with e | e <;> simp [e]))⟩
      have HDn := Lib.hid hDn
      clear hDn k8 hb8 HE HX3 HT3
      go_wp2_with fail
      go_roundw
      case rel => exact Or.inr ⟨rfl, HDn.out⟩
      case measure => decide
    · obtain ⟨hx, hcd⟩ := hDn
      rename World => wr
      have hm := hx.mgr
      dsimp only at hm
      rw [HQv.out, HOt.out] at hm
      have n3 : wr.cell? ⟨M, 3, none⟩ = some (.slice (some ⟨gq, 0, none⟩) 1 cq) := cell_is hm 3 rfl
      have n4 : wr.cell? ⟨M, 4, none⟩ = some (.int .i64 1) := cell_is hm 4 rfl
      have HM5 := Lib.hid hm
      have HX5 := Lib.hid hx
      have HCd := Lib.hid hcd
      clear hm hx hcd g03 g13 HX3 HP3 T3
      go_upto_region 15 with fail
      have kd5 : Chg [] wr wr.drew := (Chg.refl [] wr).drew
      have n3d : wr.drew.cell? ⟨M, 3, none⟩ = some (.slice (some ⟨gq, 0, none⟩) 1 cq) := n3
      have n4d : wr.drew.cell? ⟨M, 4, none⟩ = some (.int .i64 1) := n4
      have hcq2 : cq = 1 ∨ ¬ cq = 1 := by omega
      rcases hcq2 with hcq1 | hcq1
      · subst hcq1
        go_region_law
          (first
            | (go_simp; go_at_call 91; refine (iclone_zero wr.drew gq _ _).mono ?_; rintro e w6 ⟨zq, rfl, k6, o6⟩; have f36 := unfrozen ((kd5.then k6).heap HM5.out (by simp)) 3; have m36 : w6.cell? ⟨M, 3, none⟩ = some _ := cell_is ((kd5.then k6).heap HM5.out (by simp)) 3 rfl))
        all_goals
          have k56 := kd5.then k6
          have hx6 := HX5.out.keep k56
          have hm6 := k56.heap HM5.out (by simp)
          have f46 := unfrozen hm6 4
          have m46 : w6.cell? ⟨M, 4, none⟩ = some (.int .i64 1) := cell_is hm6 4 rfl
          have hmA : MgrG (w6.setCell ⟨M, 3, none⟩ (.slice (some ⟨zq, 0, none⟩) 0 0)) M X B r (.slice (some ⟨zq, 0, none⟩) 0 0) 1 s.num s.bas s.last s.given s.rd := heap_set hm6 3 _ rfl
          have hmB : MgrG ((w6.setCell ⟨M, 3, none⟩ (.slice (some ⟨zq, 0, none⟩) 0 0)).setCell ⟨M, 4, none⟩ (.int .i64 0)) M X B r (.slice (some ⟨zq, 0, none⟩) 0 0) 0 s.num s.bas s.last s.given s.rd := heap_set hmA 4 _ rfl
          have hxA := hx6.set (s' := { s with Lb := delL s.Lb hdl, qv := .slice (some ⟨zq, 0, none⟩) 0 0 }) 3 (.slice (some ⟨zq, 0, none⟩) 0 0) (by rw [HOt.out]; exact hmA) rfl rfl rfl rfl rfl rfl rfl
          have hxB := hxA.set (s' := { s with Lb := delL s.Lb hdl, qv := .slice (some ⟨zq, 0, none⟩) 0 0, out := 0 }) 4 (.int .i64 0) hmB rfl rfl rfl rfl rfl rfl rfl
          have kA := Chg.set w6 M 3 (.slice (some ⟨zq, 0, none⟩) 0 0)
          have kB := Chg.set (w6.setCell ⟨M, 3, none⟩ (.slice (some ⟨zq, 0, none⟩) 0 0)) M 4 (.int .i64 0)
          have oB := ownsRow_av (ownsRow_av o6 kA (Av.row hm6 (by decide))) kB (Av.row hmA (by decide))
          have hszd : w.heap.size ≤ wr.drew.heap.size := by
            obtain ⟨S, hS, -⟩ := HCd.out
            exact hS.size
          have one : ∀ {a b : World}, Chg [M] a b → Cd s.lo M T rb X rx a b := fun h => Cd.of_chg h (fun x hx => by simp at hx; simp [hx])
          have HFin := Lib.hid (And.intro (DnN.mk (s := { s with qv := .slice (some ⟨zq, 0, none⟩) 0 0, out := 0 }) (w := w) hxB (((HCd.out.trans (Cd.of_chg k56 (fun x hx => by cases hx))).trans (one kA)).trans (one kB))) (ownsRow_low oB hszd))
          clear hx6 hm6 hmA hmB hxA hxB kA kB oB one k56 k6 o6 HX5 HM5
          go_wp2_with fail
          go_ret
          exact ⟨rfl, zq, HFin.out⟩
      · go_region_law
          (first
            | (go_simp; go_at_call 91; refine (iclone_zero wr.drew gq _ _).mono ?_; rintro e w6 ⟨zq, rfl, k6, o6⟩; have f36 := unfrozen ((kd5.then k6).heap HM5.out (by simp)) 3; have m36 : w6.cell? ⟨M, 3, none⟩ = some _ := cell_is ((kd5.then k6).heap HM5.out (by simp)) 3 rfl))
        all_goals
          have k56 := kd5.then k6
          have hx6 := HX5.out.keep k56
          have hm6 := k56.heap HM5.out (by simp)
          have f46 := unfrozen hm6 4
          have m46 : w6.cell? ⟨M, 4, none⟩ = some (.int .i64 1) := cell_is hm6 4 rfl
          have hmA : MgrG (w6.setCell ⟨M, 3, none⟩ (.slice (some ⟨zq, 0, none⟩) 0 0)) M X B r (.slice (some ⟨zq, 0, none⟩) 0 0) 1 s.num s.bas s.last s.given s.rd := heap_set hm6 3 _ rfl
          have hmB : MgrG ((w6.setCell ⟨M, 3, none⟩ (.slice (some ⟨zq, 0, none⟩) 0 0)).setCell ⟨M, 4, none⟩ (.int .i64 0)) M X B r (.slice (some ⟨zq, 0, none⟩) 0 0) 0 s.num s.bas s.last s.given s.rd := heap_set hmA 4 _ rfl
          have hxA := hx6.set (s' := { s with Lb := delL s.Lb hdl, qv := .slice (some ⟨zq, 0, none⟩) 0 0 }) 3 (.slice (some ⟨zq, 0, none⟩) 0 0) (by rw [HOt.out]; exact hmA) rfl rfl rfl rfl rfl rfl rfl
          have hxB := hxA.set (s' := { s with Lb := delL s.Lb hdl, qv := .slice (some ⟨zq, 0, none⟩) 0 0, out := 0 }) 4 (.int .i64 0) hmB rfl rfl rfl rfl rfl rfl rfl
          have kA := Chg.set w6 M 3 (.slice (some ⟨zq, 0, none⟩) 0 0)
          have kB := Chg.set (w6.setCell ⟨M, 3, none⟩ (.slice (some ⟨zq, 0, none⟩) 0 0)) M 4 (.int .i64 0)
          have oB := ownsRow_av (ownsRow_av o6 kA (Av.row hm6 (by decide))) kB (Av.row hmA (by decide))
          have hszd : w.heap.size ≤ wr.drew.heap.size := by
            obtain ⟨S, hS, -⟩ := HCd.out
            exact hS.size
          have one : ∀ {a b : World}, Chg [M] a b → Cd s.lo M T rb X rx a b := fun h => Cd.of_chg h (fun x hx => by simp at hx; simp [hx])
          have HFin := Lib.hid (And.intro (DnN.mk (s := { s with qv := .slice (some ⟨zq, 0, none⟩) 0 0, out := 0 }) (w := w) hxB (((HCd.out.trans (Cd.of_chg k56 (fun x hx => by cases hx))).trans (one kA)).trans (one kB))) (ownsRow_low oB hszd))
          clear hx6 hm6 hmA hmB hxA hxB kA kB oB one k56 k6 o6 HX5 HM5
          go_wp2_with fail
          go_ret
          exact ⟨rfl, zq, HFin.out⟩
end Go.Proofs.YtnelakpdmjfolaaGreat
namespace Go.Proofs.YtnelakpdmjfolaaGreat
open Go.RowKit Go.Lib

/-- what a flush leaves that found no room. -/
def FlushE (w w' : World) (lw : Nat) (d : Ids) (s : Gs) (g : Gd) (hdl : Int) : Prop :=
  ∃ z, Sto w' lw d { s with qv := .slice (some ⟨z, 0, none⟩) 0 0, out := 0, Lb := delL s.Lb hdl } g ∧ Cs lw w w' ∧ w'.ownsRow lw 3 1 (.slice (some ⟨z, 0, none⟩) 0 0) 0 []
set_option maxRecDepth 100000 in
set_option maxHeartbeats 4000000 in
theorem sflush_no (w : World) {lw : Nat} {d : Ids} {s : Gs} {g : Gd} {gq cq : Nat} {hdl : Int} {k : Nat} {t t0 : Int} {L : List (Int × Value)} {D : Int → List UInt8} (h : Sto w lw d s g) (hw : Wtx w d s gq cq hdl k t t0 L D) (hout : s.out = 0) (hT : lw ≤ d.T) (hlw : lw ≤ w.heap.size)
    (hk0 : 1 ≤ k) (hlast : s.lastv < k) (hk1 : k ≤ 1099511627776) (hs : ∀ c, (s.vs c).length + 16 < 1000000) (hn0 : 0 ≤ s.num) (hn1 : s.num ≤ 100000000) (hpos : 192 < g.pos + L.length + 1) (hpos2 : g.pos ≤ 192) (hcnt : g.cnt < 4294967296) (hnum : g.num < 1000000000) :
    Calls Tryz.prog 14 #[.pointer (some ⟨d.P, 0, none⟩)] w fun e w' => e = .returned (.int .i64 9) ∧ FlushE w w' lw d s g hdl := by
  have HD := Lib.hid (dead_g w h.store)
  have p5 : w.cell? ⟨d.P, 5, none⟩ = some (.pointer (some ⟨d.M, 0, none⟩)) := cell_is h.store 5 rfl
  have hm := h.mx.mgr
  rw [hw.qv, hout] at hm
  obtain ⟨cs, hq1, hq2⟩ := hw.q
  have hpl : (putsL L D).length = L.length := putsL_length L D
  have HB := Lib.hid (tbatch_one w (k := k) (l := putsL L D) hm (by have := hw.len; omega) hn0 (by omega) (fun w1 k1 => waiting_one w1 (k1.heap hm (by simp)) (k1.cell (cell_is hq1 0 hq2) (by simp)) (h.mx.map.keep k1 (by simp)) hw.tab (k1.heap hw.tx (by simp)) (hw.buf.keep k1 (by simp) (by simp)) (hw.bd.keep k1) hw.bk (by have := hw.len; omega)))
  have HS := Lib.hid h
  have HW := Lib.hid hw
  have HO := Lib.hid hout
  have HQv := Lib.hid hw.qv
  clear h hw hm hout hq1 hq2
  go_enter Tryz.func14, Tryz.ntmps14
  go_wp2_with fail
  refine HD.out.mono ?_
  rintro e w1 ⟨rfl, rfl⟩
  go_wp2_with fail
  refine HB.out.mono ?_
  rintro e w1 ⟨gt, ct, rfl, k1, hm1, ht1⟩
  have hS := HS.out
  have avM : ∀ ts, 136 ∉ ts → Av w [d.M] ts := fun ts h1 => Av.row hS.mx.mgr h1
  have nmM : ∀ {x L}, MapAt w x L → x ∉ [d.M] := fun hm => by simpa using map_cells hm hS.mx.mgr
  have S1 : Sto w1 lw d { s with out := 1 } g :=
    ⟨k1.heap hS.store ((avM [72] (by decide)).ne hS.store (by simp)), k1.heap hS.slot ((avM [113] (by decide)).ne hS.slot (by simp)), hS.text.keep k1 (avM _ (by decide)), hS.dev.keep k1 (avM _ (by decide)),
      hS.mx.chgM k1 (by rw [HQv.out]; exact hm1) rfl rfl rfl rfl rfl rfl rfl, hS.ap, hS.keys, hS.bnd, hS.bndZ, Nat.le_trans hS.slo k1.size, hS.dlo⟩
  have W1 := HW.out.keepA k1 (avM _ (by decide)) (nmM HW.out.buf.2)
  have c1 : Cs lw w w1 := Cs.of_tp (ts := [136]) k1 (fun x hx => by rw [List.mem_singleton] at hx; subst hx; exact ⟨_, _, hS.mx.mgr, by simp⟩) (by decide) (fun x hx => by rw [List.mem_singleton] at hx; subst hx; exact hS.bnd.2.2.2.1)
  have ka : Chg [] w1 (w1.alloc (.cells #[.int .i64 (s.num + 1), .slice (some ⟨gt, 0, none⟩) 1 ct] 94)) := Chg.alloc w1 _
  have A0 := heap_new w1 (.cells #[.int .i64 (s.num + 1), .slice (some ⟨gt, 0, none⟩) 1 ct] 94)
  have S2 := S1.keep ka
  have W2 := W1.keep ka
  have c2 := c1.trans (Cs.of_chg ka)
  have ht2 := ht1.keep ka
  have h6 : 6 < d.Z.length := by have := S2.dev.len; omega
  have hl0 : 0 < (putsL L D).length := by have := HW.out.len0; omega
  have hl16 : (putsL L D).length ≤ 16 := by have := HW.out.len; omega
  have hwr := swrite_full _ (num0 := s.num + 1) S2.store (fun w' k' => load_g w' (k'.heap S2.slot (by simp)) (S2.text.keep k' (Av.nil _ _))) S2.dev ht2 hk0 hk1 hcnt (by omega) hl0 hl16 (rise_puts D HW.out.buf.2.nodup) (putsL_in D HW.out.bk) (by rw [hpl]; exact hpos) hpos2 h6
  have HWr := Lib.hid hwr
  have q5 : w1.cell? ⟨d.P, 5, none⟩ = some (.pointer (some ⟨d.M, 0, none⟩)) := cell_is S1.store 5 rfl
  have HS2 := Lib.hid S2
  have HW2 := Lib.hid W2
  have HC2 := Lib.hid c2
  have Hpl := Lib.hid hpl
  clear hwr S1 S2 W1 W2 c1 c2 ht1 ht2 hm1 k1 ka hS avM nmM hpos hl0 hl16 HB HD hpl hk0
  go_wp2_with fail
  generalize w1.alloc (.cells #[.int .i64 (s.num + 1), .slice (some ⟨gt, 0, none⟩) 1 ct] 94) = w2 at *
  refine HWr.out.mono ?_
  rintro e w3 ⟨rfl, k3⟩
  have S3 := HS2.out.keep k3
  have W3 := HW2.out.keep k3
  have c3 := HC2.out.trans (Cs.of_chg k3)
  obtain ⟨cs, hq1, hq2⟩ := W3.q
  have hdn := tdone_no w3 S3.mx (show ({ s with out := 1 } : Gs).qv = _ from W3.qv) W3.cq rfl (cell_is hq1 0 hq2) W3.tab W3.tx W3.buf W3.bd W3.bk W3.len0 W3.len S3.ap S3.keys S3.slo hlast hs W3.book hn0 (by show s.num ≤ _; omega)
  have HDn := Lib.hid hdn
  have r5 : w3.cell? ⟨d.P, 5, none⟩ = some (.pointer (some ⟨d.M, 0, none⟩)) := cell_is S3.store 5 rfl
  have HS3 := Lib.hid S3
  have HW3 := Lib.hid W3
  have HC3 := Lib.hid c3
  clear hdn S3 W3 c3 hq1 hq2 k3 HWr HC2 HW2 q5
  go_wp2_with fail
  refine HDn.out.mono ?_
  rintro e w4 ⟨rfl, z, ⟨hx4, hcd⟩, o4⟩
  have hF : FlushE w w4 lw d s g hdl := by
    have S3 := HS3.out
    have hx3 := S3.mx
    have c4 := HC3.out.trans (Cs.of_cd hcd hx3.mgr HW3.out.tx hx3.ver.x hx3.book.2 hx3.ver.m (by
      have := HS.out.bnd
      exact ⟨this.2.2.2.2.2.2.2.2.2.1, this.2.2.2.1, hT, this.2.2.2.2.2.2.2.1, this.2.2.2.2.1, this.2.2.2.2.2.1⟩))
    obtain ⟨U, kU, hU⟩ := hcd
    have av : ∀ ts : List Nat, (∀ t ∈ ts, t ∉ [136, 149, 186, 196]) → Av w3 U ts := fun ts hts => Cd.av hU hx3.mgr HW3.out.tx hx3.ver.x hx3.book.2 hx3.ver.m hts
    refine ⟨z, ⟨?_, kU.heap S3.slot ((av [113] (by decide)).ne S3.slot (by simp)), S3.text.keep kU (av _ (by decide)), S3.dev.keep kU (av _ (by decide)), hx4, S3.ap, S3.keys, HS.out.bnd, HS.out.bndZ, Nat.le_trans HS.out.slo c4.size, HS.out.dlo⟩, c4, ownsRow_low o4 (Nat.le_trans hlw HC3.out.size)⟩
    exact kU.heap S3.store ((av [72] (by decide)).ne S3.store (by simp))
  have HF := Lib.hid hF
  clear hF hx4 hcd o4 HDn HS3 HW3 HC3 r5
  go_wp2_with fail
  go_ret
  exact ⟨rfl, HF.out⟩
end Go.Proofs.YtnelakpdmjfolaaGreat
namespace Go.Proofs.YtnelakpdmjfolaaGreat
open Go.RowKit Go.Lib

/-- the log's two zones behind j blocks more. -/
def logZ (zs : Nat → List (List UInt8)) (pos : Nat) (bl : List (List UInt8)) : Nat → Nat → List (List UInt8)
  | 0 => zs
  | j + 1 => match bl[j]? with | some p => upF (logZ zs pos bl j) (6 + (pos + j) / 96) (logZ zs pos bl j (6 + (pos + j) / 96) ++ [p]) | none => logZ zs pos bl j
theorem logZ_succ {zs : Nat → List (List UInt8)} {pos : Nat} {bl : List (List UInt8)} {j : Nat} (h : j < bl.length) : logZ zs pos bl (j + 1) = upF (logZ zs pos bl j) (6 + (pos + j) / 96) (logZ zs pos bl j (6 + (pos + j) / 96) ++ [bl[j]]) := by
  simp only [logZ, List.getElem?_eq_getElem h]
theorem logZ_len {zs : Nat → List (List UInt8)} {pos : Nat} {bl : List (List UInt8)} (h6 : (zs 6).length = min pos 96) (h7 : (zs 7).length = pos - 96) : ∀ j, j ≤ bl.length → pos + j ≤ 192 → (logZ zs pos bl j 6).length = min (pos + j) 96 ∧ (logZ zs pos bl j 7).length = pos + j - 96
  | 0, _, _ => ⟨h6, h7⟩
  | j + 1, hj, hp => by
    have ih := logZ_len (zs := zs) (pos := pos) (bl := bl) h6 h7 j (by omega) (by omega)
    rw [logZ_succ (by omega)]
    have : (pos + j) / 96 = 0 ∨ (pos + j) / 96 = 1 := by omega
    rcases this with e | e <;> rw [e] <;> simp only [upF] <;> simp <;> omega
/-- what changes of old blocks. -/
def WgC (w wz : World) (Ns : List Nat) (vs : Nat → Value) : Prop := ∃ U, Chg U w wz ∧ ∀ x ∈ U, x < w.heap.size → x ∈ Ns ∨ ∃ z, z < 8 ∧ (vs z).ownBlock = some x
/-- where the writing of a batch stands, in two zones: j blocks are written. -/
structure Wg (w wz : World) (base N A c : Nat) (ops : Int) (Z : List Nat) (vs : Nat → Value) (gs : Nat → Nat) (zs : Nat → List (List UInt8)) (P S M pos num lo : Nat) (v : Value) (bl : List (List UInt8)) (j : Nat) : Prop where
  dev : ∃ dv, DevG wz base N A c (ops + j) Z dv gs (logZ zs pos bl j) ∧ (∀ z, z < 8 → ∀ g, (dv z).ownBlock = some g → (vs z).ownBlock = some g ∨ w.heap.size ≤ g) ∧ (∀ z, z < 8 → ∀ g, (dv z).ownBlock = some g → v.ownBlock ≠ some g)
  rows : RowsAt wz lo v bl
  store : StoreG wz P N S M pos num
  chg : WgC w wz (N :: Z) vs
theorem Wg.step {w wz wy : World} {base N A c : Nat} {ops : Int} {Z : List Nat} {vs dv : Nat → Value} {gs : Nat → Nat} {zs : Nat → List (List UInt8)} {P S M pos num lo : Nat} {v v' : Value} {bl : List (List UInt8)} {j zz : Nat} (h : Wg w wz base N A c ops Z vs gs zs P S M pos num lo v bl j) (hq : zz = 6 + (pos + j) / 96) (hqz : zz < Z.length)
    (hj : j < bl.length) (hd : DevG wz base N A c (ops + j) Z dv gs (logZ zs pos bl j)) (hn1 : ∀ z, z < 8 → ∀ g, (dv z).ownBlock = some g → (vs z).ownBlock = some g ∨ w.heap.size ≤ g) (hn2 : ∀ z, z < 8 → ∀ g, (dv z).ownBlock = some g → v.ownBlock ≠ some g)
    (kc : Chg (N :: Z[zz] :: (dv (zz)).ownBlock.toList) wz wy) (hd' : DevG wy base N A c (ops + j + 1) Z (upF dv (zz) v') gs (upF (logZ zs pos bl j) (zz) (logZ zs pos bl j (zz) ++ [bl[j]])))
    (hv' : ∀ g, v'.ownBlock = some g → (dv (zz)).ownBlock = some g ∨ wz.heap.size ≤ g) : Wg w wy base N A c ops Z vs gs zs P S M pos num lo v bl (j + 1) := by
  have hlen := hd.len
  have hq8 : zz < 8 := by omega
  have hls := logZ_succ (zs := zs) (pos := pos) hj
  rw [← hq] at hls
  rw [← hls, show ops + (j : Int) + 1 = ops + ((j + 1 : Nat) : Int) by omega] at hd'
  have hz := hd.zone (zz) hqz
  have hr6 := hd.rows (zz) hq8
  have hb23 := hr6.block
  obtain ⟨U, hU, hU2⟩ := h.chg
  have hs := hU.size
  have rb := h.rows.block
  have av : Av wz (N :: Z[zz] :: (dv (zz)).ownBlock.toList) [5, 72] := fun x hx cs t fr hh => by
    rcases List.mem_cons.1 hx with rfl | hx
    · rw [hd.hdr] at hh; cases hh; simp
    · rcases List.mem_cons.1 hx with rfl | hx
      · rw [hz] at hh; cases hh; simp
      · obtain ⟨cs2, h2⟩ := hb23 x (by simpa using hx)
        rw [h2] at hh; cases hh; simp
  refine ⟨⟨_, hd', fun z hz8 g hg => ?_, fun z hz8 g hg hvg => ?_⟩, h.rows.keep kc (fun x hx cs t fr hh ht => av x hx cs t fr hh (by simp at ht; simp [ht])) (fun g hg hm => ?_), kc.heap h.store (av.ne h.store (by simp)), U ++ (N :: Z[zz] :: (dv (zz)).ownBlock.toList), (hU.mono (fun x hx _ => List.mem_append_left _ hx)).trans kc (fun x hx _ => List.mem_append_right _ hx), fun x hx hlt => ?_⟩
  · unfold upF at hg
    split at hg
    · rename_i e
      subst e
      rcases hv' g hg with h1 | h1
      · exact hn1 _ hz8 g h1
      · exact Or.inr (by omega)
    · exact hn1 z hz8 g hg
  · unfold upF at hg
    split at hg
    · rename_i e
      subst e
      rcases hv' g hg with h1 | h1
      · exact hn2 _ hz8 g h1 hvg
      · obtain ⟨cs, h2⟩ := rb g hvg
        have := heap_lt h2
        omega
    · exact hn2 z hz8 g hg hvg
  · obtain ⟨cs, h2⟩ := rb g hg
    rcases List.mem_cons.1 hm with rfl | hm
    · rw [hd.hdr] at h2; cases h2
    · rcases List.mem_cons.1 hm with rfl | hm
      · rw [hz] at h2; cases h2
      · exact hn2 _ hq8 g (by simpa using hm) hg
  · rcases List.mem_append.1 hx with hx | hx
    · exact hU2 x hx hlt
    · rcases List.mem_cons.1 hx with rfl | hx
      · exact Or.inl List.mem_cons_self
      · rcases List.mem_cons.1 hx with rfl | hx
        · exact Or.inl (List.mem_cons_of_mem _ (List.getElem_mem _))
        · rcases hn1 _ hq8 x (by simpa using hx) with h1 | h1
          · exact Or.inr ⟨_, hq8, h1⟩
          · omega
set_option maxRecDepth 100000 in
set_option maxHeartbeats 8000000 in
theorem swrite_two (w : World) {base lo N A c P S M pos num cnt k : Nat} {ops num0 : Int} {Z : List Nat} {vs : Nat → Value} {gs : Nat → Nat} {zs : Nat → List (List UInt8)} {v : Value} {l : List (Int × List UInt8)}
    (hP : StoreG w P N S M pos num) (HL : ∀ w1, Chg [] w w1 → Calls Tryz.prog 26 #[.pointer (some ⟨S, 0, none⟩)] w1 fun e w' => ∃ u, e = .returned (.tuple #[u, .int .i64 cnt]) ∧ Chg [] w1 w')
    (hD : DevG w base N A c ops Z vs gs zs) (h0 : 0 ≤ ops) (h1 : ops ≤ 900000) (hlow : base ≤ N) (hT : TxOne w lo v k l) (hk0 : 1 ≤ k) (hk1 : k ≤ 1099511627776) (hcnt : cnt < 4294967296) (hnum : num < 1099511627776) (hl0 : 0 < l.length) (hl : l.length ≤ 16) (hr : Rise l) (hk : ∀ x ∈ l, 0 ≤ x.1 ∧ x.1 < 258)
    (hz6 : (zs 6).length = min pos 96) (hz7 : (zs 7).length = pos - 96) (hpos : pos + l.length + 1 ≤ 192) (h7 : 7 < Z.length) :
    Calls Tryz.prog 42 #[.pointer (some ⟨P, 0, none⟩), .agg #[.int .i64 num0, v]] w fun e w' => e = .returned (.int .i64 0) ∧ StoreG w' P N S M (pos + l.length + 1) (num + 1) ∧ WgC w w' (P :: N :: Z) vs ∧
      ∃ dv, DevG w' base N A c (ops + l.length + 2) Z dv (goodF gs (logZ zs pos (batL cnt (num + 1) k l) (l.length + 1)) 8) (logZ zs pos (batL cnt (num + 1) k l) (l.length + 1)) := by
  obtain ⟨gt, ct, pbt, cbt, rfl, -, -, -, -, -, -, -⟩ := hT.open_
  have k0 : Chg [] w (w.alloc (.cells #[.int .i64 num0, .slice (some ⟨gt, 0, none⟩) 1 ct] 94)) := Chg.alloc w _
  have K0 := heap_new w (.cells #[.int .i64 num0, .slice (some ⟨gt, 0, none⟩) 1 ct] 94)
  have hP0 := k0.heap hP (by simp)
  have p6 : (w.alloc (.cells #[.int .i64 num0, .slice (some ⟨gt, 0, none⟩) 1 ct] 94)).cell? ⟨P, 6, none⟩ = some (.pointer (some ⟨S, 0, none⟩)) := cell_is hP0 6 rfl
  have HL0 := Lib.hid (HL _ k0)
  have HP := Lib.hid hP
  have HD := Lib.hid hD
  have HT := Lib.hid hT
  clear HL hP hD hT
  go_enter Tryz.func42, Tryz.ntmps42
  go_wp2_with fail
  generalize w.alloc (.cells #[.int .i64 num0, .slice (some ⟨gt, 0, none⟩) 1 ct] 94) = w1 at *
  generalize hz : w.heap.size = K at *
  refine HL0.out.mono ?_
  rintro e w2 ⟨u, rfl, k2'⟩
  have k2 := k0.then k2'
  have K2 := k2'.heap K0 (by simp)
  have hP2 := k2.heap HP.out (by simp)
  have p8 : w2.cell? ⟨P, 8, none⟩ = some (.int .i64 num) := cell_is hP2 8 rfl
  have q0 : w2.cell? ⟨K, 0, none⟩ = some (.int .i64 num0) := cell_is K2 0 rfl
  have z0 : w2.frozen? ⟨K, 0, none⟩ = false := unfrozen K2 0
  have kS : Chg [] w (w2.setCell ⟨K, 0, none⟩ (.int .i64 ((num : Int) + 1))) := k2.new_set (by omega) 0 _
  have K3 : (w2.setCell ⟨K, 0, none⟩ (.int .i64 ((num : Int) + 1))).heap[K]? = some (.cells #[.int .i64 ((num : Int) + 1), .slice (some ⟨gt, 0, none⟩) 1 ct] 94 (0, 0)) := heap_set K2 0 _ rfl
  have a0 : (w2.setCell ⟨K, 0, none⟩ (.int .i64 ((num : Int) + 1))).cell? ⟨K, 0, none⟩ = some (.int .i64 ((num : Int) + 1)) := cell_is K3 0 rfl
  have a1 : (w2.setCell ⟨K, 0, none⟩ (.int .i64 ((num : Int) + 1))).cell? ⟨K, 1, none⟩ = some (.slice (some ⟨gt, 0, none⟩) 1 ct) := cell_is K3 1 rfl
  have hE := bencode_one _ (e := cnt) (num := num + 1) (HT.out.keep kS) (by omega) (by omega) hk0 hk1 hcnt hl0 hl hr hk
  rw [show ((num + 1 : Nat) : Int) = (num : Int) + 1 by omega] at hE
  have HE := Lib.hid hE
  clear hE
  clear p6 HL0 K0 k2' K2 hP2 K3 hk
  go_wp2_with fail
  obtain ⟨lo3, hlo3⟩ : ∃ lo3, lo3 = (w2.setCell ⟨K, 0, none⟩ (.int .i64 ((num : Int) + 1))).heap.size := ⟨_, rfl⟩
  have HLo := Lib.hid (show w.heap.size ≤ lo3 from by rw [hlo3]; exact kS.size)
  rw [← hlo3] at HE
  clear hlo3
  refine HE.out.mono ?_
  rintro e w3 ⟨v', rfl, k3', hrows⟩
  have k3 := kS.then k3'
  have hP3 := k3.heap HP.out (by simp)
  have hD3 := HD.out.keep k3 (Av.nil _ _)
  have hbl : (batL cnt (num + 1) k l).length = l.length + 1 := batL_length _ _ _ _
  have h64 : ∀ x ∈ batL cnt (num + 1) k l, x.length = 64 := fun x hx => by
    obtain ⟨i, hi, rfl⟩ := List.getElem_of_mem hx
    obtain ⟨-, -, -, -, -, -, -, -, h, -⟩ := hrows.get i hi
    exact h
  obtain ⟨gr, cr, gd', cd', hv', hcr, -, -, -, -⟩ := hrows.get 0 (by omega)
  subst hv'
  have HR := Lib.hid hrows
  have HD3 := Lib.hid hD3
  have HP3 := Lib.hid hP3
  have HGm := Lib.hid (geom_hdr w3 (N := N) (A := A) (c := c) ⟨_, hD3.hdr⟩)
  have p0 : w3.cell? ⟨P, 0, none⟩ = some (.pointer (some ⟨N, 0, none⟩)) := cell_is hP3 0 rfl
  have HBL := Lib.hid hbl
  have hsz3 := k3.size
  have hlr : lo3 ≤ gr := by
    obtain ⟨xs, ho, -⟩ := hrows
    exact (own_elem ho rfl).1
  have HV6 := Lib.hid (show ∀ z, z < 8 → ∀ g, (vs z).ownBlock = some g → g < w.heap.size from fun z hz g hg => by
    obtain ⟨cs, h5⟩ := (HD.out.rows z hz).block g hg
    exact heap_lt h5)
  clear HE kS a0 a1 q0 z0 p8 HD HT k2 k3' hD3 hrows hbl hP3
  obtain ⟨bl, hbl'⟩ : ∃ bl, batL cnt (num + 1) k l = bl := ⟨_, rfl⟩
  rw [hbl'] at HR HBL h64
  rw [hbl']
  have HBb := Lib.hid hbl'
  clear hbl'
  go_wp2_with fail
  refine HGm.out.mono ?_
  rintro e w4 ⟨rfl, k4⟩
  have hP4 := k4.heap HP3.out (by simp)
  have HD4 := Lib.hid (HD3.out.keep k4 (Av.nil _ _))
  have HR4 := Lib.hid (HR.out.keep0 k4)
  have hfs := field_size
  have p7 : w4.cell? ⟨P, 7, none⟩ = some (.int .i64 pos) := cell_is hP4 7 rfl
  have p4 : w4.cell? ⟨P, 4, none⟩ = some (.int .i64 7) := cell_is hP4 4 rfl
  have p3 : w4.cell? ⟨P, 3, none⟩ = some (.int .i64 6) := cell_is hP4 3 rfl
  have hpn : IntKind.i64.wrap ((pos : Int) + (bl.length : Nat)) = (pos : Int) + (bl.length : Nat) := by rw [IntKind.wrap_i64]; have := HBL.out; omega
  have hgt : decide (192 < (pos : Int) + (bl.length : Nat)) = false := decide_eq_false (by have := HBL.out; omega)
  have HP4 := Lib.hid hP4
  have kk4 := k3.then k4
  clear hP4 HGm p0 HP3 HD3 HR k4 k3
  go_wp2_with fail
  go_quiet (fail)
  have kd : Chg [] w4 (w4.drewN nq) := (Chg.refl [] w4).drewN nq
  have k5 := kk4.then kd
  have hD5 := HD4.out.keep kd (Av.nil _ _)
  have hR5 := HR4.out.keep0 kd
  have hP5 : StoreG (w4.drewN nq) P N S M pos num := HP4.out
  have hW5 : Wg w (w4.drewN nq) base N A c ops Z vs gs zs P S M pos num lo3 (.slice (some ⟨gr, 0, none⟩) bl.length cr) bl 0 := by
    refine ⟨⟨vs, (by show DevG _ _ _ _ _ (ops + ((0 : Nat) : Int)) _ _ _ zs; simpa using hD5), fun z hz g hg => Or.inl hg, fun z hz g hg e => ?_⟩, hR5, hP5, ⟨[], k5, fun x hx => by cases hx⟩⟩
    have h5 := HV6.out z hz g hg
    have h6 := hlr
    have e' : gr = g := Option.some.inj e
    subst e'
    have := HLo.out
    omega
  have HW5 := Lib.hid hW5
  clear hW5 hR5 hP5 hD5 HD4 HR4 HP4 p7 p4 p3 hpn hgt hfs
  generalize w4.drewN nq = w5 at *
  go_wp2_with fail
  go_loopw [10, 11, 12, 13, 68] (fun _ _ _ _ i wr => ∃ j : Nat, j ≤ bl.length ∧ i = .int .i64 j ∧ Wg w wr base N A c ops Z vs gs zs P S M pos num lo3 (.slice (some ⟨gr, 0, none⟩) bl.length cr) bl j) (fun _ _ _ _ i _ => bl.length - (intOf i).toNat)
  case atStart => exact ⟨0, by omega, rfl, HW5.out⟩
  case round =>
    obtain ⟨j, hj, rfl, hWr⟩ := hrel
    rename World => wr
    clear HW5
    by_cases hlt : j < bl.length
    · have HWr := Lib.hid hWr
      obtain ⟨⟨dv, hd, hn1, hn2⟩, hrows, hstore, hchg⟩ := hWr
      obtain ⟨gr1, cap1, gd, cd, hv1, -, r0, hbs, h64j, hbt⟩ := hrows.get j hlt
      cases hv1
      have hlti : (j : Int) < bl.length := by omega
      have HBL1 := HBL.out
      have nN : gd ≠ N := by
        obtain ⟨cs, hh⟩ := hbt
        exact heap_ne hh hd.hdr (by simp)
      have kdr : Chg [] wr wr.drew := (Chg.refl [] wr).drew
      have hdd := hd.keep kdr (Av.nil _ _)
      obtain ⟨q, hq⟩ : ∃ q, q = (pos + j) / 96 := ⟨_, rfl⟩
      have hq01 : q = 0 ∨ q = 1 := by omega
      obtain ⟨zz, hzz⟩ : ∃ zz, zz = 6 + q := ⟨_, rfl⟩
      have hqz : zz < Z.length := by omega
      have hzq' : zz = 6 + (pos + j) / 96 := by rw [hzz, hq]
      have hrm : (logZ zs pos bl j zz).length < 96 := by
        rw [hzz]
        have := logZ_len (zs := zs) (pos := pos) (bl := bl) hz6 hz7 j (by omega) (by omega)
        rcases hq01 with e | e
        · rw [e]; show (logZ zs pos bl j 6).length < 96; omega
        · rw [e]; show (logZ zs pos bl j 7).length < 96; omega
      have hA := dappend_any wr.drew (cd := cd) hdd (by omega) (by omega) zz hqz hrm (hbs.chg kdr) h64j (fun g hg => by subst hg; exact nN) hlow
      have HA := Lib.hid hA
      have kdr' := kdr.mono (T := N :: Z[zz] :: (dv zz).ownBlock.toList) (fun x hx _ => by cases hx)
      have hzq := hd.zone zz hqz
      have hr6 := hd.rows zz (by omega)
      have nP : P ∉ N :: Z[zz] :: (dv zz).ownBlock.toList := fun hm => by
        rcases List.mem_cons.1 hm with e | hm
        · exact heap_ne hstore hd.hdr (by simp) e
        · rcases List.mem_cons.1 hm with e | hm
          · exact heap_ne hstore hzq (by simp) e
          · obtain ⟨cs, hh⟩ := hr6.block P (by simpa using hm)
            rw [hstore] at hh
            cases hh
      have p0 : wr.cell? ⟨P, 0, none⟩ = some (.pointer (some ⟨N, 0, none⟩)) := cell_is hstore 0 rfl
      have p3 : wr.cell? ⟨P, 3, none⟩ = some (.int .i64 6) := cell_is hstore 3 rfl
      have p7 : wr.cell? ⟨P, 7, none⟩ = some (.int .i64 pos) := cell_is hstore 7 rfl
      have hq1 : IntKind.i64.wrap ((pos : Int) + (j : Nat)) = (pos : Int) + (j : Nat) := by rw [IntKind.wrap_i64]; omega
      have hq2 : ((pos : Int) + (j : Nat)).tdiv 96 = (q : Nat) := by
        rw [Int.tdiv_eq_ediv_of_nonneg (by omega)]
        omega
      have hq3 : IntKind.i64.wrap ((q : Nat) : Int) = (q : Int) := by rw [IntKind.wrap_i64]; omega
      have hq4 : IntKind.i64.wrap (6 + (q : Int)) = (zz : Int) := by rw [IntKind.wrap_i64]; omega
      have HW := Lib.hid (fun wy v' kc hd' hv' => HWr.out.step (wy := wy) (v' := v') (dv := dv) hzq' hqz hlt hd hn1 hn2 kc hd' hv')
      have HnP := Lib.hid nP
      clear hd hn1 hn2 hrows hstore hchg hbs h64j hbt nN hdd hA hzq hr6 nP HBL1 hrm hq01 hzq' hzz hq
      go_wp2_with fail
      go_region_held3 (fun wx => wx.cell? ⟨P, 0, none⟩ = some (.pointer (some ⟨N, 0, none⟩)) ∧ wx.cell? ⟨P, 3, none⟩ = some (.int .i64 6) ∧ wx.cell? ⟨P, 7, none⟩ = some (.int .i64 pos))
        (first
          | (exact ⟨p0, p3, p7⟩)
          | (exact ⟨kc.cell p0 HnP.out, kc.cell p3 HnP.out, kc.cell p7 HnP.out⟩))
        (first
          | (go_at_call 90; refine HA.out.mono ?_; rintro e w6 ⟨v', rfl, kc', dc, hvc⟩; have kc := kdr'.then kc'))
      have hWn := Lib.hid (HW.out _ _ kc dc hvc)
      have hb16 : bl.length ≤ 17 := by have := HBL.out; omega
      clear HW HA HnP kc dc hvc kc' p0 p3 p7
      go_wp2_with fail
      exact ⟨⟨j + 1, by omega, by go_num, hWn.out⟩, by simp [intOf]; omega⟩
    · obtain rfl : j = bl.length := by omega
      obtain ⟨⟨dv, hd, -, -⟩, -, hstore, hchg⟩ := hWr
      have HF := Lib.hid (dflush_any wr hd (by omega) (by have := HBL.out; omega))
      have p0 : wr.cell? ⟨P, 0, none⟩ = some (.pointer (some ⟨N, 0, none⟩)) := cell_is hstore 0 rfl
      have nP : P ∉ N :: Z := fun hm => by
        rcases List.mem_cons.1 hm with e | hm
        · exact heap_ne hstore hd.hdr (by simp) e
        · obtain ⟨i, hi, e⟩ := List.getElem_of_mem hm
          exact heap_ne hstore (hd.zone i hi) (by simp) e.symm
      have HS := Lib.hid hstore
      have HnP := Lib.hid nP
      have HCg := Lib.hid hchg
      have Hpb := Lib.hid (show pos + bl.length < 1000 by have := HBL.out; omega)
      have Hop := Lib.hid (show ops + (bl.length : Nat) + 1 = ops + (l.length : Nat) + 2 by have := HBL.out; omega)
      clear hd hstore hchg nP
      go_wp2_with fail
      refine HF.out.mono ?_
      rintro e w6 ⟨rfl, k6, hd6⟩
      have hP6 := k6.heap HS.out HnP.out
      have p7 : w6.cell? ⟨P, 7, none⟩ = some (.int .i64 pos) := cell_is hP6 7 rfl
      have p8 : w6.cell? ⟨P, 8, none⟩ = some (.int .i64 num) := cell_is hP6 8 rfl
      have f7 := unfrozen hP6 7
      have f8 := unfrozen hP6 8
      have HD6 := Lib.hid hd6
      have HP6 := Lib.hid hP6
      clear hd6 hP6 HF HS p0
      go_wp2_with fail
      go_ret
      have hps := pos_wrap pos bl.length l.length HBL.out Hpb.out
      have hop := Hop.out
      rw [hps]
      have hdF := HD6.out
      rw [hop] at hdF
      have kS1 := Chg.set w6 P 7 (.int .i64 ((pos + l.length + 1 : Nat) : Int))
      have hP7 : StoreG (w6.setCell ⟨P, 7, none⟩ (.int .i64 ((pos + l.length + 1 : Nat) : Int))) P N S M (pos + l.length + 1) num := heap_set HP6.out 7 _ rfl
      have kS2 := Chg.set (w6.setCell ⟨P, 7, none⟩ (.int .i64 ((pos + l.length + 1 : Nat) : Int))) P 8 (.int .i64 ((num : Int) + 1))
      rw [HBb.out]
      have hdF2 := hdF
      rw [HBL.out] at hdF2
      refine ⟨rfl, heap_set hP7 8 _ rfl, ?_, dv, (hdF2.keep kS1 (Av.row HP6.out (by decide))).keep kS2 (Av.row hP7 (by decide))⟩
      obtain ⟨U, u1, u2⟩ := HCg.out
      refine ⟨U ++ (P :: N :: Z), (((u1.mono (fun x hx _ => List.mem_append_left _ hx)).then (k6.mono (fun x hx _ => List.mem_append_right _ (List.mem_cons_of_mem _ hx)))).then_set (fun _ => List.mem_append_right _ List.mem_cons_self) 7 _).then_set (fun _ => List.mem_append_right _ List.mem_cons_self) 8 _, fun x hx hlt => ?_⟩
      rcases List.mem_append.1 hx with hx | hx
      · rcases u2 x hx hlt with h1 | h1
        · exact Or.inl (List.mem_cons_of_mem _ h1)
        · exact Or.inr h1
      · exact Or.inl hx
end Go.Proofs.YtnelakpdmjfolaaGreat
namespace Go.Proofs.YtnelakpdmjfolaaGreat
open Go.RowKit Go.Lib

/-- the log behind a batch, in both zones. -/
def doneT (g : Gd) (dv : Nat → Value) (k : Nat) (l : List (Int × List UInt8)) : Gd :=
  { g with pos := g.pos + l.length + 1, num := g.num + 1, ops := g.ops + l.length + 2, dv := dv, gs := goodF g.gs (logZ g.zs g.pos (batL g.cnt (g.num + 1) k l) (l.length + 1)) 8, zs := logZ g.zs g.pos (batL g.cnt (g.num + 1) k l) (l.length + 1) }
def FlushT (w w' : World) (lw : Nat) (d : Ids) (s : Gs) (g : Gd) (k : Nat) (hdl : Int) (l : List (Int × List UInt8)) : Prop :=
  ∃ z Lv' dv, Sto w' lw d (doneS s z k hdl Lv' l) (doneT g dv k l) ∧ Cs lw w w' ∧ w'.ownsRow lw 3 1 (.slice (some ⟨z, 0, none⟩) 0 0) 0 []
set_option maxRecDepth 100000 in
set_option maxHeartbeats 4000000 in
theorem sflush_two (w : World) {lw : Nat} {d : Ids} {s : Gs} {g : Gd} {gq cq : Nat} {hdl : Int} {k : Nat} {t t0 : Int} {L : List (Int × Value)} {D : Int → List UInt8} (h : Sto w lw d s g) (hw : Wtx w d s gq cq hdl k t t0 L D) (hout : s.out = 0) (hT : lw ≤ d.T) (hlw : lw ≤ w.heap.size)
    (hk0 : 1 ≤ k) (hlast : s.lastv < k) (hk1 : k ≤ 1099511627776) (hs : ∀ c, (s.vs c).length + 16 < 1000000) (hn0 : 0 ≤ s.num) (hn1 : s.num ≤ 100000000) (hz6 : (g.zs 6).length = min g.pos 96) (hz7 : (g.zs 7).length = g.pos - 96) (hpos : g.pos + L.length + 1 ≤ 192) (ho0 : 0 ≤ g.ops) (ho1 : g.ops ≤ 900000) (hcnt : g.cnt < 4294967296) (hnum : g.num < 1000000000) :
    Calls Tryz.prog 14 #[.pointer (some ⟨d.P, 0, none⟩)] w fun e w' => e = .returned (.int .i64 0) ∧ FlushT w w' lw d s g k hdl (putsL L D) := by
  have HD := Lib.hid (dead_g w h.store)
  have p5 : w.cell? ⟨d.P, 5, none⟩ = some (.pointer (some ⟨d.M, 0, none⟩)) := cell_is h.store 5 rfl
  have hm := h.mx.mgr
  rw [hw.qv, hout] at hm
  obtain ⟨cs, hq1, hq2⟩ := hw.q
  have hpl : (putsL L D).length = L.length := putsL_length L D
  have HB := Lib.hid (tbatch_one w (k := k) (l := putsL L D) hm (by have := hw.len; omega) hn0 (by omega) (fun w1 k1 => waiting_one w1 (k1.heap hm (by simp)) (k1.cell (cell_is hq1 0 hq2) (by simp)) (h.mx.map.keep k1 (by simp)) hw.tab (k1.heap hw.tx (by simp)) (hw.buf.keep k1 (by simp) (by simp)) (hw.bd.keep k1) hw.bk (by have := hw.len; omega)))
  have HS := Lib.hid h
  have HW := Lib.hid hw
  have HO := Lib.hid hout
  have HQv := Lib.hid hw.qv
  clear h hw hm hout hq1 hq2
  go_enter Tryz.func14, Tryz.ntmps14
  go_wp2_with fail
  refine HD.out.mono ?_
  rintro e w1 ⟨rfl, rfl⟩
  go_wp2_with fail
  refine HB.out.mono ?_
  rintro e w1 ⟨gt, ct, rfl, k1, hm1, ht1⟩
  have hS := HS.out
  have avM : ∀ ts, 136 ∉ ts → Av w [d.M] ts := fun ts h1 => Av.row hS.mx.mgr h1
  have nmM : ∀ {x L}, MapAt w x L → x ∉ [d.M] := fun hm => by simpa using map_cells hm hS.mx.mgr
  have S1 : Sto w1 lw d { s with out := 1 } g :=
    ⟨k1.heap hS.store ((avM [72] (by decide)).ne hS.store (by simp)), k1.heap hS.slot ((avM [113] (by decide)).ne hS.slot (by simp)), hS.text.keep k1 (avM _ (by decide)), hS.dev.keep k1 (avM _ (by decide)),
      hS.mx.chgM k1 (by rw [HQv.out]; exact hm1) rfl rfl rfl rfl rfl rfl rfl, hS.ap, hS.keys, hS.bnd, hS.bndZ, Nat.le_trans hS.slo k1.size, hS.dlo⟩
  have W1 := HW.out.keepA k1 (avM _ (by decide)) (nmM HW.out.buf.2)
  have c1 : Cs lw w w1 := Cs.of_tp (ts := [136]) k1 (fun x hx => by rw [List.mem_singleton] at hx; subst hx; exact ⟨_, _, hS.mx.mgr, by simp⟩) (by decide) (fun x hx => by rw [List.mem_singleton] at hx; subst hx; exact hS.bnd.2.2.2.1)
  have ka : Chg [] w1 (w1.alloc (.cells #[.int .i64 (s.num + 1), .slice (some ⟨gt, 0, none⟩) 1 ct] 94)) := Chg.alloc w1 _
  have A0 := heap_new w1 (.cells #[.int .i64 (s.num + 1), .slice (some ⟨gt, 0, none⟩) 1 ct] 94)
  have S2 := S1.keep ka
  have W2 := W1.keep ka
  have c2 := c1.trans (Cs.of_chg ka)
  have ht2 := ht1.keep ka
  have h7 : 7 < d.Z.length := by have := S2.dev.len; omega
  have hl0 : 0 < (putsL L D).length := by have := HW.out.len0; omega
  have hl16 : (putsL L D).length ≤ 16 := by have := HW.out.len; omega
  have hwr := swrite_two _ (num0 := s.num + 1) S2.store (fun w' k' => load_g w' (k'.heap S2.slot (by simp)) (S2.text.keep k' (Av.nil _ _))) S2.dev ho0 ho1 S2.dlo ht2 hk0 hk1 hcnt (by omega) hl0 hl16 (rise_puts D HW.out.buf.2.nodup) (putsL_in D HW.out.bk) hz6 hz7 (by rw [hpl]; exact hpos) h7
  have HWr := Lib.hid hwr
  have q5 : w1.cell? ⟨d.P, 5, none⟩ = some (.pointer (some ⟨d.M, 0, none⟩)) := cell_is S1.store 5 rfl
  have HS2 := Lib.hid S2
  have HW2 := Lib.hid W2
  have HC2 := Lib.hid c2
  have Hpl := Lib.hid hpl
  clear hwr S1 S2 W1 W2 c1 c2 ht1 ht2 hm1 k1 ka hS avM nmM hpos hl0 hl16 HB HD hpl hk0
  go_wp2_with fail
  generalize w1.alloc (.cells #[.int .i64 (s.num + 1), .slice (some ⟨gt, 0, none⟩) 1 ct] 94) = w2 at *
  refine HWr.out.mono ?_
  rintro e w3 ⟨rfl, hP3, ⟨U0, k0, hU0⟩, dv, hd3⟩
  have S2 := HS2.out
  have hbn := S2.bnd
  have hmem : ∀ x ∈ U0.filter (fun x => decide (x < w2.heap.size)), x ∈ d.P :: d.N :: d.Z ∨ ∃ z, z < 8 ∧ (g.dv z).ownBlock = some x := fun x hx => by
    obtain ⟨hx1, hx2⟩ := List.mem_filter.1 hx
    exact hU0 x hx1 (of_decide_eq_true hx2)
  have k3 : Chg (U0.filter (fun x => decide (x < w2.heap.size))) w2 w3 := k0.mono (fun x hx hlt => List.mem_filter.2 ⟨hx, decide_eq_true hlt⟩)
  have tp : Tp w2 (U0.filter (fun x => decide (x < w2.heap.size))) [72, 60, 64, 38] := fun x hx => by
    rcases hmem x hx with h1 | ⟨z, hz, hg⟩
    · exact S2.wtp.1 x (List.mem_append_left _ h1)
    · obtain ⟨cs, h2⟩ := (S2.dev.rows z hz).block x hg
      exact ⟨cs, 38, h2, by simp⟩
  have hlow : ∀ x ∈ U0.filter (fun x => decide (x < w2.heap.size)), lw ≤ x := fun x hx => by
    rcases hmem x hx with h1 | ⟨z, hz, hg⟩
    · exact S2.wtp.2 x (List.mem_append_left _ h1)
    · obtain ⟨xs, ho, -⟩ := S2.dev.rows z hz
      have := (own_elem ho hg).1
      omega
  have S3x : Mx w3 d.M d.X d.rx d.B d.rb d.r { s with out := 1 } := S2.mx.keepA k3 (tp.av (by decide)) (tp.map S2.mx.ver.m) (tp.map S2.mx.book.2) (tp.map S2.mx.map)
  have slot3 := k3.heap S2.slot ((tp.av (ts' := [113]) (by decide)).ne S2.slot (by simp))
  have text3 := S2.text.keep k3 (tp.av (by decide))
  have W3 := HW2.out.keepA k3 (tp.av (by decide)) (tp.map HW2.out.buf.2)
  have c3 := HC2.out.trans (Cs.of_tp k3 tp (by decide) hlow)
  obtain ⟨cs, hq1, hq2⟩ := W3.q
  have hdn := tdone_ok w3 S3x (show ({ s with out := 1 } : Gs).qv = _ from W3.qv) W3.cq rfl (cell_is hq1 0 hq2) W3.tab W3.tx W3.buf W3.bd W3.bk W3.len0 W3.len S2.ap S2.keys (Nat.le_trans S2.slo k3.size) hlast (by omega) hs W3.book hn0 (by show s.num ≤ _; omega)
  have HDn := Lib.hid hdn
  have r5 : w3.cell? ⟨d.P, 5, none⟩ = some (.pointer (some ⟨d.M, 0, none⟩)) := cell_is hP3 5 rfl
  have HS3 := Lib.hid (And.intro S3x (And.intro slot3 (And.intro text3 (And.intro hP3 hd3))))
  have HW3 := Lib.hid W3
  have HC3 := Lib.hid c3
  clear hdn S2 tp hmem hlow k0 hU0 hbn S3x slot3 text3 hP3 hd3 W3 c3 hq1 hq2 k3 HWr HC2 HW2 q5
  go_wp2_with fail
  refine HDn.out.mono ?_
  rintro e w4 ⟨rfl, z, ⟨⟨Lv', hx4, hap4, hk4⟩, hcd, -⟩, o4⟩
  have hF : FlushT w w4 lw d s g k hdl (putsL L D) := by
    obtain ⟨hx3, slot3, text3, hP3, hd3⟩ := HS3.out
    have c4 := HC3.out.trans (Cs.of_cd hcd hx3.mgr HW3.out.tx hx3.ver.x hx3.book.2 hx3.ver.m (by
      have := HS.out.bnd
      exact ⟨this.2.2.2.2.2.2.2.2.2.1, this.2.2.2.1, hT, this.2.2.2.2.2.2.2.1, this.2.2.2.2.1, this.2.2.2.2.2.1⟩))
    obtain ⟨U, kU, hU⟩ := hcd
    have av : ∀ ts : List Nat, (∀ t ∈ ts, t ∉ [136, 149, 186, 196]) → Av w3 U ts := fun ts hts => Cd.av hU hx3.mgr HW3.out.tx hx3.ver.x hx3.book.2 hx3.ver.m hts
    refine ⟨z, Lv', dv, ⟨?_, kU.heap slot3 ((av [113] (by decide)).ne slot3 (by simp)), text3.keep kU (av _ (by decide)), hd3.keep kU (av _ (by decide)), hx4, hap4, hk4, HS.out.bnd, HS.out.bndZ, Nat.le_trans HS.out.slo c4.size, HS.out.dlo⟩, c4, ownsRow_low o4 (Nat.le_trans hlw HC3.out.size)⟩
    exact kU.heap hP3 ((av [72] (by decide)).ne hP3 (by simp))
  have HF := Lib.hid hF
  clear hF hx4 hap4 hk4 hcd o4 HDn HS3 HW3 HC3 r5
  go_wp2_with fail
  go_ret
  exact ⟨rfl, HF.out⟩
end Go.Proofs.YtnelakpdmjfolaaGreat
namespace Go.Proofs.YtnelakpdmjfolaaGreat
open Go.RowKit Go.Lib

set_option maxRecDepth 100000 in
set_option maxHeartbeats 4000000 in
theorem check_old (w : World) {lo X rx lo1 U1 m1 n1 lo2 U2 m2 n2 cq : Nat} {pq : Option Addr} {last t : Int} {Lv : List (Int × Value)} {vs : Int → List (Int × List UInt8)} (h : VerG w lo X rx last Lv vs) (ho : OldV Lv vs t) (hr : SpW w lo1 U1 m1 n1) (hw : SpW w lo2 U2 m2 n2) (hn1 : n1 ≤ 1000) (hn2 : n2 ≤ 1000) :
    Calls Tryz.prog 126 #[.pointer (some ⟨X, 0, none⟩), .slice pq 0 cq, .int .i64 t, .pointer (some ⟨U1, 0, none⟩), .pointer (some ⟨U2, 0, none⟩)] w fun e w' => e = .returned (.int .i64 0) ∧ Chg [] w w' := by
  have HC := Lib.hid (count_any w hw hn2)
  have HV := Lib.hid h
  have HOl := Lib.hid ho
  have HR := Lib.hid hr
  have HW := Lib.hid hw
  clear h ho hr hw
  go_enter Tryz.func126, Tryz.ntmps126
  go_wp2_with fail
  go_step3
  go_wp2_with fail
  refine HC.out.mono ?_
  rintro e w1 ⟨⟨r, rfl⟩, k1⟩
  by_cases hr0 : r = 0
  · subst hr0
    go_wp2_with fail
    simp only [Exit.noGoto]
    go_ret
    exact ⟨rfl, k1⟩
  · go_wp2_with fail
    go_step3
    go_wp2_with fail
    have hrb : (r == 0) = false := by simpa using hr0
    rw [hrb]
    have hi0 : ∀ w, (Instr.index 228 (.agg #[.pointer (some ⟨U1, 0, none⟩), .pointer (some ⟨U2, 0, none⟩)]) (.int .i64 ((0 : Nat) : Int))).run Tryz.prog w = .ok (.pointer (some ⟨U1, 0, none⟩)) w := fun w => by kernel_rfl
    have hi1 : ∀ w, (Instr.index 228 (.agg #[.pointer (some ⟨U1, 0, none⟩), .pointer (some ⟨U2, 0, none⟩)]) (.int .i64 ((1 : Nat) : Int))).run Tryz.prog w = .ok (.pointer (some ⟨U2, 0, none⟩)) w := fun w => by kernel_rfl
    go_loopw [11, 13, 15, 17, 24] (fun e _ _ _ i wr => ∃ j : Nat, j ≤ 2 ∧ i = .int .i64 j ∧ e = .int .i64 0 ∧ Chg [] w1 wr) (fun _ _ _ _ i _ => 2 - (intOf i).toNat)
    case atStart => exact ⟨0, by omega, rfl, rfl, Chg.refl _ _⟩
    case round =>
      obtain ⟨j, hj, rfl, rfl, kr⟩ := hrel
      by_cases hj2 : j < 2
      · obtain ⟨U, lo3, m3, n3, hi, hS, hn3⟩ : ∃ U lo3 m3 n3, (∀ w, (Instr.index 228 (.agg #[.pointer (some ⟨U1, 0, none⟩), .pointer (some ⟨U2, 0, none⟩)]) (.int .i64 (j : Int))).run Tryz.prog w = .ok (.pointer (some ⟨U, 0, none⟩)) w) ∧ SpW wr lo3 U m3 n3 ∧ n3 ≤ 1000 := by
          have kk := k1.then kr
          rcases (show j = 0 ∨ j = 1 by omega) with rfl | rfl
          · exact ⟨U1, _, _, _, hi0, HR.out.keep0 kk, hn1⟩
          · exact ⟨U2, _, _, _, hi1, HW.out.keep0 kk, hn2⟩
        have HE := Lib.hid (extents_any wr hS hn3)
        clear hi0 hi1 hS
        go_wp2_with fail
        refine HE.out.mono ?_
        rintro e w2 ⟨pb, m, cb, l, rfl, k2, hq, hl, hm⟩
        have HQ := Lib.hid hq
        clear hq
        go_wp2_with fail
        go_loopw [11, 15, 30] (fun e _ i wz => ∃ q : Nat, q ≤ m ∧ i = .int .i64 q ∧ e = .int .i64 0 ∧ Chg [] w2 wz) (fun _ _ i _ => m - (intOf i).toNat)
        case atStart => exact ⟨0, by omega, rfl, rfl, Chg.refl _ _⟩
        case round =>
          obtain ⟨q, hq, rfl, rfl, kz⟩ := hrel
          rename World => wz
          have kk : Chg [] w1 wz := (kr.then k2).then kz
          by_cases hqm : q < m
          · obtain ⟨b, o, rfl, c0, c1⟩ := (HQ.out.keep kz).get q (by omega)
            generalize (l[q]'(by omega)).1 = x at *
            generalize (l[q]'(by omega)).2 = y at *
            have ka : Chg [] wz (wz.alloc (.cells #[.int .i64 x, .int .i64 y] 231)) := Chg.alloc wz _
            have HWr := Lib.hid (written_old (wz.alloc (.cells #[.int .i64 x, .int .i64 y] 231)) (HV.out.keep ((k1.then kk).then ka)) x y t HOl.out)
            go_wp2_with fail
            refine HWr.out.mono ?_
            rintro e w5 ⟨rfl, k5⟩
            go_wp2_with fail
            go_roundw
            case rel => exact ⟨q + 1, by omega, by simp, rfl, (kz.then ka).then k5⟩
            case measure => simp [intOf]; omega
          · obtain rfl : q = m := by omega
            go_wp2_with fail
            go_loopw [11, 17, 41] (fun e _ i wy => i = .int .i64 0 ∧ e = .int .i64 0 ∧ wy = wz) (fun _ _ _ _ => 0)
            case atStart => exact ⟨rfl, rfl, rfl⟩
            case round =>
              obtain ⟨rfl, rfl, rfl⟩ := hrel
              go_wp2_with fail
              go_roundw
              case rel => exact ⟨j + 1, by omega, by simp, rfl, kk⟩
              case measure => simp [intOf]; omega
      · obtain rfl : j = 2 := by omega
        go_wp2_with fail
        simp only [Exit.noGoto]
        go_ret
        exact ⟨rfl, k1.then kr⟩
set_option maxRecDepth 100000 in
set_option maxHeartbeats 4000000 in
theorem may_old (w : World) {M X B r cq lo rx T W rw Q V n base : Nat} {pq : Option Addr} {out num bas last given lastv t : Int} {Lv : List (Int × Value)} {vs : Int → List (Int × List UInt8)} {L : List (Int × Value)} {D : Int → List UInt8}
    (h : MgrG w M X B r (.slice pq 0 cq) out num bas last given false) (hg : given < 1099511627776) (hv : VerG w lo X rx lastv Lv vs) (ho : OldV Lv vs t) (hT : TxT w T W Q t) (hb : BufAt w W rw L) (hD : BufD w L D) (hk : ∀ x ∈ L, 0 ≤ x.1 ∧ x.1 < 258) (hl : L.length ≤ 16)
    (hV : VwT w base Q X W V t n) (hS : SpV w base V n) (hn : n ≤ 16) : Calls Tryz.prog 86 #[.pointer (some ⟨M, 0, none⟩), .pointer (some ⟨T, 0, none⟩)] w fun e w' => e = .returned (.int .i64 0) ∧ Chg [] w w' := by
  have m9 : w.cell? ⟨M, 9, none⟩ = some (.bool false) := cell_is h 9 rfl
  have m0 : w.cell? ⟨M, 0, none⟩ = some (.pointer (some ⟨X, 0, none⟩)) := cell_is h 0 rfl
  have m8 : w.cell? ⟨M, 8, none⟩ = some (.int .i64 given) := cell_is h 8 rfl
  have t3 : w.cell? ⟨T, 3, none⟩ = some (.int .i64 t) := cell_is hT 3 rfl
  have t4 : w.cell? ⟨T, 4, none⟩ = some (.pointer (some ⟨W, 0, none⟩)) := cell_is hT 4 rfl
  have t5 : w.cell? ⟨T, 5, none⟩ = some (.pointer (some ⟨Q, 0, none⟩)) := cell_is hT 5 rfl
  have kd : Chg [] w w.drew := (Chg.refl [] w).drew
  have HW := Lib.hid (waiting_none w.drew (kd.heap h (by simp)))
  have HV := Lib.hid (vset_any w.drew (hV.keep kd (Av.nil _ _)) (hS.keep0 kd) hn)
  have hS2 : ∀ wx, Chg [] w wx → wx.cell? ⟨M, 0, none⟩ = some (.pointer (some ⟨X, 0, none⟩)) ∧ wx.cell? ⟨T, 3, none⟩ = some (.int .i64 t) ∧ wx.cell? ⟨T, 4, none⟩ = some (.pointer (some ⟨W, 0, none⟩)) ∧ wx.cell? ⟨T, 5, none⟩ = some (.pointer (some ⟨Q, 0, none⟩)) :=
    fun wx k => ⟨k.cell m0 (by simp), k.cell t3 (by simp), k.cell t4 (by simp), k.cell t5 (by simp)⟩
  have HS2 := Lib.hid hS2
  have HBf := Lib.hid hb
  have HD := Lib.hid hD
  have HK := Lib.hid hk
  have HVr := Lib.hid hv
  have HOl := Lib.hid ho
  clear h hT hb hD hk hV hS hv ho hS2
  go_enter Tryz.func86, Tryz.ntmps86
  go_upto_region 3 with fail
  go_region_held3 (fun wx => wx.cell? ⟨M, 0, none⟩ = some (.pointer (some ⟨X, 0, none⟩)) ∧ wx.cell? ⟨T, 3, none⟩ = some (.int .i64 t) ∧ wx.cell? ⟨T, 4, none⟩ = some (.pointer (some ⟨W, 0, none⟩)) ∧ wx.cell? ⟨T, 5, none⟩ = some (.pointer (some ⟨Q, 0, none⟩)))
    (first
      | (with_reducible exact HS2.out _ kF) | (with_reducible exact HS2.out _ k3) | (with_reducible exact HS2.out _ k2) | (exact HS2.out _ kd))
    (first
      | (go_at_call 87; refine HW.out.mono ?_; rintro e w1 ⟨rfl, rfl⟩)
      | (go_at_call 127; refine HV.out.mono ?_; rintro e w2 ⟨U, loU, rfl, k2', hU, lU⟩; have k2 := kd.then k2')
      | (go_at_call 128; refine (bset_any w2 (HBf.out.keep k2 (by simp) (by simp)) (HD.out.keep k2) HK.out hl).mono ?_; rintro e w3 ⟨U2, loU2, most, rfl, k3', hU2, lU2⟩; have k3 := k2.then k3'; have hU3 := hU.keep0 k3')
      | (go_at_call 126; refine (check_old w3 (HVr.out.keep k3) HOl.out hU3 hU2 (by omega) (by omega)).mono ?_; rintro e w4 ⟨rfl, k4⟩; have kF := k3.then k4))
  all_goals
    have m84 := kF.cell m8 (by simp)
    have hng : ¬ (given ≥ 1099511627776) := by omega
    clear HW HV HS2 HBf HD HK HVr HOl hU hU2 hU3
    go_wp2_with fail
    go_ret
    exact ⟨rfl, kF⟩
set_option maxRecDepth 100000 in
set_option maxHeartbeats 4000000 in
theorem tcommit_old (w : World) {d : Ids} {p : Par} {cq n base loq : Nat} {pq : Option Addr} {out num bas last given : Int} {L : List (Int × Value)} {D : Int → List UInt8}
    (hN : Need w d p) (hv0 : OldV p.Lv p.vs p.t) (h : MgrG w d.M d.X d.B d.r (.slice pq 0 cq) out num bas last given false) (hg0 : 0 ≤ given) (hg : given < 1099511627776) (hq : w.ownsRow loq 3 1 (.slice pq 0 cq) 0 []) (hlq : loq ≤ w.heap.size) (hT : TxT w d.T d.W d.Q p.t) (hb : BufAt w d.W d.rw L) (hD : BufD w L D) (hk : ∀ x ∈ L, 0 ≤ x.1 ∧ x.1 < 258) (hl : L.length ≤ 16) (hl0 : 0 < L.length)
    (hV : VwT w base d.Q d.X d.W d.V p.t n) (hS : SpV w base d.V n) (hn : n ≤ 16) : Calls Tryz.prog 40 #[.pointer (some ⟨d.M, 0, none⟩), .int .i64 p.h] w fun e w' =>
    ∃ g c, e = .returned (.int .i64 0) ∧ Chg (d.M :: d.T :: (Value.slice pq 0 cq).ownBlock.toList) w w' ∧ MgrG w' d.M d.X d.B d.r (.slice (some ⟨g, 0, none⟩) 1 c) out num bas last (given + 1) false ∧ w'.ownsRow loq 3 1 (.slice (some ⟨g, 0, none⟩) 1 c) 1 [.int .i64 p.h] ∧ TxW w' d.T d.W d.Q (given + 1) p.t := by
  have HO := Lib.hid (topen_gen w hN hT)
  have t4 : w.cell? ⟨d.T, 4, none⟩ = some (.pointer (some ⟨d.W, 0, none⟩)) := cell_is hT 4 rfl
  have HLn := Lib.hid (blen_any w hb hD hk (by omega))
  have hver := hN.ver
  have HMy := Lib.hid (fun w1 (k : Chg [] w w1) => may_old w1 (k.heap h (by simp)) hg (hver.keep k) hv0 (k.heap hT (by simp)) (hb.keep k (by simp) (by simp)) (hD.keep k) hk hl (hV.keep k (Av.nil _ _)) (hS.keep0 k) hn)
  have hMT : d.M ≠ d.T := heap_ne h hT (by simp)
  have HM := Lib.hid h
  have HT := Lib.hid hT
  have HQ := Lib.hid hq
  have hl0i : ¬ (L.length : Int) = 0 := by omega
  have HL0 := Lib.hid hl0i
  clear hN hb hD hV hS hver h hT hq
  go_enter Tryz.func40, Tryz.ntmps40
  go_wp2_with fail
  refine HO.out.mono ?_
  rintro e w1 ⟨rfl, rfl⟩
  go_wp2_with fail
  refine HLn.out.mono ?_
  rintro e w1 ⟨rfl, k1⟩
  go_wp2_with fail
  refine (HMy.out w1 k1).mono ?_
  rintro e w2 ⟨rfl, k2'⟩
  have k2 := k1.then k2'
  have hM2 := k2.heap HM.out (by simp)
  have hT2 := k2.heap HT.out (by simp)
  have hq2 := ownsRow_av HQ.out k2 (Av.nil _ _)
  have hs2 := k2.size
  have m8 : w2.cell? ⟨d.M, 8, none⟩ = some (.int .i64 given) := cell_is hM2 8 rfl
  have f8 := unfrozen hM2 8
  have m3 : w2.cell? ⟨d.M, 3, none⟩ = some (.slice pq 0 cq) := cell_is hM2 3 rfl
  have f3 := unfrozen hM2 3
  have t0 : w2.cell? ⟨d.T, 0, none⟩ = some (.int .i64 1) := cell_is hT2 0 rfl
  have t1 : w2.cell? ⟨d.T, 1, none⟩ = some (.int .i64 0) := cell_is hT2 1 rfl
  have ft0 := unfrozen hT2 0
  have ft1 := unfrozen hT2 1
  have hgw : wrap64 (given + 1) = given + 1 := by unfold wrap64; omega
  have kS := ((((Chg.refl [] w2).mono (T := [d.M, d.T]) (fun x hx _ => by cases hx)).then_set (g := d.M) (fun _ => by simp) 8 (.int .i64 (given + 1))).then_set (g := d.T) (fun _ => by simp) 0 (.int .i64 2)).then_set (g := d.T) (fun _ => by simp) 1 (.int .i64 (given + 1))
  have hMS : MgrG (((w2.setCell ⟨d.M, 8, none⟩ (.int .i64 (given + 1))).setCell ⟨d.T, 0, none⟩ (.int .i64 2)).setCell ⟨d.T, 1, none⟩ (.int .i64 (given + 1))) d.M d.X d.B d.r (.slice pq 0 cq) out num bas last (given + 1) false :=
    heap_set_ne (heap_set_ne (heap_set hM2 8 _ rfl) hMT _ _) hMT _ _
  have hTS : TxW (((w2.setCell ⟨d.M, 8, none⟩ (.int .i64 (given + 1))).setCell ⟨d.T, 0, none⟩ (.int .i64 2)).setCell ⟨d.T, 1, none⟩ (.int .i64 (given + 1))) d.T d.W d.Q (given + 1) p.t :=
    heap_set (heap_set (heap_set_ne hT2 hMT.symm _ _) 0 _ rfl) 1 _ rfl
  have avS : Av w2 [d.M, d.T] [3] := fun x hx cs t fr hh => by
    simp at hx
    rcases hx with rfl | rfl
    · rw [show w2.heap[d.M]? = _ from hM2] at hh; cases hh; simp
    · rw [show w2.heap[d.T]? = _ from hT2] at hh; cases hh; simp
  have hqS := ownsRow_av hq2 kS avS
  clear HMy HLn HO k1 k2' t4
  go_upto_region 14 with fail
  have hsS : loq ≤ (((w2.setCell ⟨d.M, 8, none⟩ (.int .i64 (given + 1))).setCell ⟨d.T, 0, none⟩ (.int .i64 2)).setCell ⟨d.T, 1, none⟩ (.int .i64 (given + 1))).heap.size := by have := kS.size; omega
  clear m8 f8 m3 f3 t0 t1 ft0 ft1 avS hq2
  generalize ((w2.setCell ⟨d.M, 8, none⟩ (.int .i64 (given + 1))).setCell ⟨d.T, 0, none⟩ (.int .i64 2)).setCell ⟨d.T, 1, none⟩ (.int .i64 (given + 1)) = wS at *
  have m3 : wS.cell? ⟨d.M, 3, none⟩ = some (.slice pq 0 cq) := cell_is hMS 3 rfl
  go_wp2_with (at_builtin; refine wpList_append_lit rfl (.tmp 59) (.tmp 61) 47 3 rfl ty62 inf3 rfl (by decide) loq wS [.int .i64 p.h] 1 rfl (.slice pq 0 cq) 0 [] rfl hqS (by omega) (by decide) hsS (k := 0) rfl (by simp [Value.oneCell']) rfl 1 rfl ?_; intro v' w4 hap; obtain ⟨g4, c4, rfl⟩ := own_some hap.1 (by decide); have k4 : Chg (Value.slice pq 0 cq).ownBlock.toList wS w4 := Chg.own hap.2.2 (fun g hg _ => by have hg2 : (Value.slice pq 0 cq).ownBlock = some g := hg; simp [hg2]); have hM4 := k4.heap hMS (own_block_ne hqS hMS (by decide)); have m34 := cell_is hM4 3 rfl; have f34 := unfrozen hM4 3)
  have hT4 := k4.heap hTS (own_block_ne hqS hTS (by decide))
  have hset := Chg.set w4 d.M 3 (.slice (some ⟨g4, 0, none⟩) (0 + 1) c4)
  have hq4 := ownsRow_av hap.1 hset (Av.row hM4 (by decide))
  go_ret
  refine ⟨g4, c4, rfl, ?_, heap_set hM4 3 _ rfl, hq4, heap_set_ne hT4 hMT.symm _ _⟩
  refine (((k2.mono (fun x hx _ => by cases hx)).then (kS.mono ?_)).then (k4.mono ?_)).then (hset.mono ?_)
  · intro x hx _; simp only [List.mem_cons, List.not_mem_nil, or_false] at hx; rcases hx with rfl | rfl <;> simp
  · intro x hx _; exact List.mem_cons_of_mem _ (List.mem_cons_of_mem _ hx)
  · intro x hx _; rw [List.mem_singleton] at hx; subst hx; exact List.mem_cons_self
end Go.Proofs.YtnelakpdmjfolaaGreat
namespace Go.Proofs.YtnelakpdmjfolaaGreat
open Go.RowKit Go.Lib

/-- the manager behind a Begin. -/
def begS (s : Gs) (T : Nat) : Gs := { s with bl := s.bl + 1, Lb := [(s.bl + 1, .int .i64 s.last)], Lr := putL s.Lr (s.bl + 1) (.pointer (some ⟨T, 0, none⟩)) }
/-- a transaction that has begun. -/
def begP (s : Gs) : Par := ⟨s.bl + 1, s.last, s.lo, s.lastv, s.Lv, s.vs⟩
/-- a store about its transaction. -/
def StoF (lw : Nat) (d : Ids) (s : Gs) (g : Gd) (w : World) : Prop := Sto w lw d s g
theorem fr_sto {lw base : Nat} {d : Ids} {s : Gs} {g : Gd} {p : Par} (hl : d.rx < base ∧ d.rb < base ∧ d.r < base) (hg : getL s.Lr p.h = some (.pointer (some ⟨d.T, 0, none⟩))) (e1 : p.lo = s.lo) (e2 : p.last = s.lastv) (e3 : p.Lv = s.Lv) (e4 : p.vs = s.vs) : Fr base d p (StoF lw d s g) := by
  refine ⟨fun w h => ?_, fun a b ho h => ?_⟩
  · have h' : Sto w lw d s g := h
    exact ⟨cell_is h'.store 0 rfl, cell_is h'.store 5 rfl, cell_is h'.store 9 rfl, ⟨_, _, h'.dev.hdr⟩, h'.mx.cells.1, h'.mx.cells.2.2.1, ⟨_, h'.mx.map, hg⟩, by rw [e1, e2, e3, e4]; exact h'.mx.ver⟩
  · have h' : Sto a lw d s g := h
    obtain ⟨T, h1, h2⟩ := ho
    refine h'.keepA h1 (fun x hx cs t fr hh ht => ?_) (fun hm => ?_) (fun hm => ?_) (fun hm => ?_)
    · rcases (h2 x hx).2 cs t fr hh with rfl | rfl | rfl <;> simp at ht
    · have := (h2 _ hm).1; omega
    · have := (h2 _ hm).1; omega
    · have := (h2 _ hm).1; omega
/-- what a store's Begin leaves. -/
def BegT (w w' : World) (lw : Nat) (d : Ids) (s : Gs) (g : Gd) : Prop := ∃ T W rw Q V, Cs lw w w' ∧ w.heap.size ≤ T ∧
  Su w' w.heap.size { d with T := T, W := W, rw := rw, Q := Q, V := V } (begP s) (StoF lw { d with T := T, W := W, rw := rw, Q := Q, V := V } (begS s T) g) (fun b => bytT (s.vs b) s.last) [] 0
set_option maxRecDepth 100000 in
theorem sbegin_gen (w : World) {lw : Nat} {d : Ids} {s : Gs} {g : Gd} (h : Sto w lw d s g) (hLb : s.Lb = []) (h0 : 0 ≤ s.last) (h1 : s.last ≤ 1099511627776) (hb0 : 0 ≤ s.bl) (hb1 : s.bl ≤ 1000000) :
    Calls Tryz.prog 9 #[.pointer (some ⟨d.P, 0, none⟩)] w fun e w' => e = .returned (.tuple #[.int .i64 (s.bl + 1), .int .i64 0]) ∧ BegT w w' lw d s g := by
  have HD := Lib.hid (dead_g w h.store)
  have p5 : w.cell? ⟨d.P, 5, none⟩ = some (.pointer (some ⟨d.M, 0, none⟩)) := cell_is h.store 5 rfl
  have HB := Lib.hid (tbegin_gen w h.mx hLb h0 h1 hb0 hb1)
  have HS := Lib.hid h
  clear h hLb h0 h1 hb0 hb1
  go_enter Tryz.func9, Tryz.ntmps9
  go_wp2_with fail
  refine HD.out.mono ?_
  rintro e w1 ⟨rfl, rfl⟩
  go_wp2_with fail
  refine HB.out.mono ?_
  rintro e w1 ⟨rfl, T, W, rw, Q, V, k1, hx, hT, hb, hv, hs, n1, n2, n3, b1, b2, b3, b4, b5⟩
  have hF : BegT w w1 lw d s g := by
    have hS := HS.out
    have avB : Av w [d.B, d.rb, d.r] [72, 113, 5, 60, 61, 64, 38] := fun x hx cs t fr hh => by
      simp at hx
      rcases hx with rfl | rfl | rfl
      · rw [hS.mx.book.1] at hh; cases hh; simp
      · exact absurd rfl (map_cells hS.mx.book.2 hh)
      · exact absurd rfl (map_cells hS.mx.map hh)
    have sub : ∀ ts : List Nat, (∀ t ∈ ts, t ∈ [72, 113, 5, 60, 61, 64, 38]) → Av w [d.B, d.rb, d.r] ts := fun ts hts x hx cs t fr hh ht => avB x hx cs t fr hh (hts t ht)
    have hSto : Sto w1 lw { d with T := T, W := W, rw := rw, Q := Q, V := V } (begS s T) g :=
      ⟨k1.heap hS.store (avB.ne hS.store (by simp)), k1.heap hS.slot (avB.ne hS.slot (by simp)), hS.text.keep k1 (sub _ (by decide)), hS.dev.keep k1 (sub _ (by decide)), hx, hS.ap, hS.keys, hS.bnd, hS.bndZ, Nat.le_trans hS.slo k1.size, hS.dlo⟩
    refine ⟨T, W, rw, Q, V, ⟨[d.B, d.rb, d.r], k1, fun x hx _ => ?_⟩, b1, hSto, hT, hb, (fun x hx => by cases hx), fun b _ _ => Or.inl ⟨rfl, rfl⟩, ⟨_, 0, [], hv, Nat.zero_le _, World.ownsRow_nil _ _ _ _⟩, ⟨_, [], hs, Nat.le_refl _, World.ownsRow_nil _ _ _ _⟩, b4, b5, b3⟩
    have hbn := hS.bnd
    simp at hx
    rcases hx with rfl | rfl | rfl
    · exact ⟨by omega, fun cs t fr hh => by rw [hS.mx.book.1] at hh; cases hh; simp⟩
    · exact ⟨by omega, fun cs t fr hh => absurd rfl (map_cells hS.mx.book.2 hh)⟩
    · exact ⟨by omega, fun cs t fr hh => absurd rfl (map_cells hS.mx.map hh)⟩
  have HF := Lib.hid hF
  clear hF hx hT hb hv hs k1 b1 b2 b3 b4 b5 n1 n2 n3
  go_wp2_with fail
  go_ret2
  exact ⟨rfl, HF.out⟩
/-- a buffer's entries are what its transaction sees. -/
theorem Su.bufD {w : World} {base : Nat} {d : Ids} {p : Par} {F : World → Prop} {q : Int → List UInt8} {L : List (Int × Value)} {n : Nat} (h : Su w base d p F q L n) : BufD w L q := by
  intro k v hv
  have hk := h.keys (k, v) (getL_memk hv)
  rcases h.blk k hk.1 hk.2 with ⟨e, -⟩ | ⟨g, c, e, h1, h2, h3⟩
  · rw [e] at hv; cases hv
  · rw [e] at hv
    cases hv
    exact ⟨g, c, rfl, h1, h2, h3⟩
/-- the manager behind a Commit. -/
def comS (s : Gs) (g c : Nat) : Gs := { s with qv := .slice (some ⟨g, 0, none⟩) 1 c, given := s.given + 1 }
/-- what a Commit leaves. -/
def ComR (w w' : World) (lw : Nat) (d : Ids) (s : Gs) (g : Gd) (p : Par) (L : List (Int × Value)) (q : Int → List UInt8) (k : Nat) : Prop :=
  ∃ gq cq, Sto w' lw d (comS s gq cq) g ∧ Wtx w' d (comS s gq cq) gq cq p.h k p.t p.t L q ∧ Cs lw w w'
set_option maxRecDepth 100000 in
theorem scommit_sto (w : World) {lw base loq n k : Nat} {d : Ids} {s : Gs} {g : Gd} {p : Par} {q : Int → List UInt8} {L : List (Int × Value)} {pq : Option Addr} {cq : Nat} (hf : Fr base d p (StoF lw d s g)) (h : Su w base d p (StoF lw d s g) q L n) (hqv : s.qv = .slice pq 0 cq) (hq : w.ownsRow loq 3 1 (.slice pq 0 cq) 0 []) (hlq : loq ≤ w.heap.size) (hlw : lw ≤ loq)
    (hrd : s.rd = false) (ho : OldV p.Lv p.vs p.t) (hg : s.given + 1 = (k : Nat)) (hg1 : s.given < 1099511627776) (hg0 : 0 ≤ s.given) (hl : L.length ≤ 16) (hl0 : 0 < L.length) (hn : n ≤ 16) (htab : getL s.Lr p.h = some (.pointer (some ⟨d.T, 0, none⟩))) (hbook : getL s.Lb p.h = some (.int .i64 p.t)) (hT : lw ≤ d.T) :
    Calls Tryz.prog 13 #[.pointer (some ⟨d.P, 0, none⟩), .int .i64 p.h] w fun e w' => e = .returned (.int .i64 0) ∧ ComR w w' lw d s g p L q k := by
  have hS : Sto w lw d s g := h.env
  have hN := hf.need w h.env
  have hm := hS.mx.mgr
  rw [hqv, hrd] at hm
  refine scommit_one w hN ((tcommit_old w hN ho hm hg0 hg1 hq hlq h.tx h.buf h.bufD h.keys hl hl0 h.vw h.sp hn).mono ?_)
  rintro e w' ⟨gq, c, rfl, k1, hm', ho', hT'⟩
  refine ⟨rfl, gq, c, ?_⟩
  have tp : Tp w (d.M :: d.T :: (Value.slice pq 0 cq).ownBlock.toList) [136, 149, 3] := fun x hx => by
    simp only [List.mem_cons] at hx
    rcases hx with rfl | rfl | hx
    · exact ⟨_, _, hm, by simp⟩
    · exact ⟨_, _, h.tx, by simp⟩
    · obtain ⟨-, cs, hh⟩ := own_elem hq (show (Value.slice pq 0 cq).ownBlock = some x by simpa using hx)
      exact ⟨_, _, hh, by simp⟩
  have hbn := hS.bnd
  refine ⟨⟨k1.heap hS.store ((tp.av (ts' := [72]) (by decide)).ne hS.store (by simp)), k1.heap hS.slot ((tp.av (ts' := [113]) (by decide)).ne hS.slot (by simp)), hS.text.keep k1 (tp.av (by decide)), hS.dev.keep k1 (tp.av (by decide)),
    ⟨by show MgrG w' d.M d.X d.B d.r (.slice (some ⟨gq, 0, none⟩) 1 c) s.out s.num s.bas s.last (s.given + 1) s.rd; rw [hrd]; exact hm', hS.mx.ver.keepA k1 (tp.av (by decide)) (tp.map hS.mx.ver.m), ⟨k1.heap hS.mx.book.1 ((tp.av (ts' := [189]) (by decide)).ne hS.mx.book.1 (by simp)), hS.mx.book.2.keep k1 (tp.map hS.mx.book.2)⟩, hS.mx.map.keep k1 (tp.map hS.mx.map), hS.mx.n1, hS.mx.n2, hS.mx.n3⟩, hS.ap, hS.keys, hS.bnd, hS.bndZ, Nat.le_trans hS.slo k1.size, hS.dlo⟩, ?_, Cs.of_tp k1 tp (by decide) (fun x hx => ?_)⟩
  · refine ⟨rfl, ?_, ?_, htab, by rw [← hg]; exact hT', h.buf.keep k1 ((tp.av (ts' := [199]) (by decide)).ne h.buf.1 (by simp)) (tp.map h.buf.2), h.bufD.keepA k1 (tp.av (by decide)), h.keys, hl0, by omega, hbook⟩
    · obtain ⟨pz, cz', e, hle⟩ := own_form ho'
      cases e
      omega
    · rcases ho'.2 with ⟨e, h0⟩ | ⟨g', cap', cur', e, -, hh, -, -, -, ht⟩
      · omega
      · cases e
        refine ⟨_, hh, ?_⟩
        have := congrArg (fun l => l[0]?) ht
        simpa [List.getElem?_take] using this
  · simp only [List.mem_cons] at hx
    rcases hx with rfl | rfl | hx
    · omega
    · exact hT
    · have := (own_elem hq (show (Value.slice pq 0 cq).ownBlock = some x by simpa using hx)).1
      omega
end Go.Proofs.YtnelakpdmjfolaaGreat
namespace Go.Proofs.YtnelakpdmjfolaaGreat
open Go.RowKit Go.Lib

/-- a manager without transactions. -/
def s00 (lw : Nat) : Gs := ⟨.slice none 0 0, 0, 0, 0, 0, 0, false, lw, 0, [], fun _ => [], 0, [], []⟩
/-- an empty log on an empty device. -/
def g00 (lw : Nat) (ops : Int) : Gd := ⟨0, 0, 1, .slice none 0 0, 0, lw, ops, fun _ => .slice none 0 0, fun _ => 0, fun _ => []⟩
/-- the parts' places, without a transaction. -/
def d00 (N A c : Nat) (Z : List Nat) (P S M X rx B rb r : Nat) : Ids := ⟨P, N, S, M, X, rx, B, rb, r, A, c, Z, 0, 0, 0, 0, 0⟩
theorem Mk.sto {w wx : World} {lw N A c : Nat} {ops : Int} {Z : List Nat} {P S M X rx B rb r : Nat} (h : Mk w wx N A c ops Z P S M X rx B rb r) (hx : ExAt wx S N A Z) (n1 : rx ≠ rb) (n2 : r ≠ rb) (n3 : r ≠ rx) (hb : lw ≤ P ∧ lw ≤ N ∧ lw ≤ S ∧ lw ≤ M ∧ lw ≤ X ∧ lw ≤ rx ∧ lw ≤ B ∧ lw ≤ rb ∧ lw ≤ r) (hZ : ∀ z ∈ Z, lw ≤ z) (hl : lw ≤ wx.heap.size) :
    Sto wx lw (d00 N A c Z P S M X rx B rb r) (s00 lw) (g00 lw ops) := by
  obtain ⟨k2, hD2, hP2, hS2, hm2, hx2, hb2, hr2⟩ := h
  exact ⟨hP2, hS2, Or.inl rfl, hD2.full hx lw, ⟨hm2, hx2.full lw, hb2, hr2, n1, n2, n3⟩, fun b c v u g _ h => (by cases h), fun p hp => (by cases hp), ⟨hb.1, hb.2.1, hb.2.2.1, hb.2.2.2.1, hb.2.2.2.2.1, hb.2.2.2.2.2.1, hb.2.2.2.2.2.2.1, hb.2.2.2.2.2.2.2.1, hb.2.2.2.2.2.2.2.2, Nat.le_refl _, Nat.le_refl _⟩, hZ, hl, hb.2.1⟩
/-- a transaction's state is kept where other blocks change. -/
theorem Su.keepA {w w' : World} {U : List Nat} {base : Nat} {d : Ids} {p : Par} {F : World → Prop} {q : Int → List UInt8} {L : List (Int × Value)} {n : Nat} (h : Su w base d p F q L n) (hc : Chg U w w') (hU : Av w U [149, 199, 204, 301, 231, 227, 5]) (hr : d.rw ∉ U) (hF : F w') : Su w' base d p F q L n := by
  have sub : ∀ ts : List Nat, (∀ t ∈ ts, t ∈ [149, 199, 204, 301, 231, 227, 5]) → Av w U ts := fun ts hts x hx cs t fr hh ht => hU x hx cs t fr hh (hts t ht)
  refine ⟨hF, hc.heap h.tx (hU.ne h.tx (by simp)), h.buf.keep hc (hU.ne h.buf.1 (by simp)) hr, h.keys, fun b h0 h1 => ?_, h.vw.keep hc (sub _ (by decide)), h.sp.keep hc (sub _ (by decide)), h.high⟩
  rcases h.blk b h0 h1 with e | ⟨g, c, e1, e2, e3, e4⟩
  · exact Or.inl e
  · have hn : g ∉ U := Bt.av e4 hU (by simp)
    exact Or.inr ⟨g, c, e1, e2.chgT hc hn, e3, Bt.keep e4 hc hn⟩
end Go.Proofs.YtnelakpdmjfolaaGreat
namespace Go.Proofs.YtnelakpdmjfolaaGreat
open Go.RowKit Go.Lib

theorem applyV_not {vs : Int → List (Int × List UInt8)} {k b : Int} {l : List (Int × List UInt8)} (h : b ∉ l.map Prod.fst) : applyV vs k l b = vs b := by
  induction l generalizing vs with
  | nil => rfl
  | cons p l ih =>
    simp only [List.map_cons, List.mem_cons, not_or] at h
    show applyV (addV vs p.1 (k, p.2)) k l b = _
    rw [ih h.2]
    simp [addV, h.1]
theorem applyV_mem {vs : Int → List (Int × List UInt8)} {k b : Int} {d : List UInt8} {l : List (Int × List UInt8)} (hn : (l.map Prod.fst).Nodup) (h : (b, d) ∈ l) : applyV vs k l b = vs b ++ [(k, d)] := by
  induction l generalizing vs with
  | nil => cases h
  | cons p l ih =>
    simp only [List.map_cons, List.nodup_cons] at hn
    show applyV (addV vs p.1 (k, p.2)) k l b = _
    rcases List.mem_cons.1 h with rfl | h
    · rw [applyV_not hn.1]
      simp [addV]
    · have hne : b ≠ p.1 := fun e => hn.1 (by rw [← e]; exact List.mem_map.2 ⟨_, h, rfl⟩)
      rw [ih hn.2 h]
      simp [addV, hne]
theorem bytT_last (l : List (Int × List UInt8)) {k t : Int} (d : List UInt8) (h : k ≤ t) : bytT (l ++ [(k, d)]) t = d := by
  unfold bytT verT
  rw [List.reverse_append]
  simp [h]
theorem putsL_fst (L : List (Int × Value)) (D : Int → List UInt8) : (putsL L D).map Prod.fst = sortI (L.map Prod.fst) := by
  unfold putsL
  rw [List.map_map]
  simp [Function.comp_def]
/-- a block's bytes behind a transaction. -/
theorem bytT_apply {L : List (Int × Value)} {D : Int → List UInt8} {vs : Int → List (Int × List UInt8)} {k t b : Int} (hn : (L.map Prod.fst).Nodup) (h : k ≤ t) : bytT (applyV vs k (putsL L D) b) t = if b ∈ L.map Prod.fst then D b else bytT (vs b) t := by
  have hp := sortI_perm (L.map Prod.fst)
  by_cases hb : b ∈ L.map Prod.fst
  · have hm : (b, D b) ∈ putsL L D := List.mem_map.2 ⟨b, hp.mem_iff.2 hb, rfl⟩
    have hnd : ((putsL L D).map Prod.fst).Nodup := by rw [putsL_fst]; exact hp.nodup_iff.2 hn
    rw [if_pos hb, applyV_mem hnd hm, bytT_last _ _ h]
  · rw [if_neg hb, applyV_not (by rw [putsL_fst]; exact fun hm => hb (hp.mem_iff.1 hm))]
/-- the blocks that a transaction sees are those alone that there are. -/
theorem Su.congr {w : World} {base : Nat} {d : Ids} {p : Par} {F : World → Prop} {q q' : Int → List UInt8} {L : List (Int × Value)} {n : Nat} (h : Su w base d p F q L n) (hq : ∀ b, 0 ≤ b → b < 258 → q b = q' b) : Su w base d p F q' L n :=
  ⟨h.env, h.tx, h.buf, h.keys, fun b h0 h1 => hq b h0 h1 ▸ h.blk b h0 h1, h.vw, h.sp, h.high⟩
theorem getL_keyn {L : List (Int × Value)} {k : Int} (h : k ∉ L.map Prod.fst) : getL L k = none := by
  cases hg : getL L k with
  | none => rfl
  | some v => exact absurd (List.mem_map.2 ⟨_, getL_memk hg, rfl⟩) h
/-- .. behind its own commit. -/
theorem Su.seen {w : World} {base : Nat} {d : Ids} {p : Par} {F : World → Prop} {q : Int → List UInt8} {L : List (Int × Value)} {n : Nat} {k t : Int} (h : Su w base d p F q L n) (hkt : k ≤ t) (ho : OldV p.Lv p.vs p.t) (hpt : p.t ≤ t) (b : Int) (h0 : 0 ≤ b) (h1 : b < 258) : bytT (applyV p.vs k (putsL L q) b) t = q b := by
  rw [bytT_apply h.buf.2.nodup hkt]
  by_cases hb : b ∈ L.map Prod.fst
  · rw [if_pos hb]
  · rw [if_neg hb]
    rcases h.blk b h0 h1 with ⟨-, e⟩ | ⟨g, c, e, -⟩
    · rw [e]
      unfold bytT verT
      have hall : ∀ x ∈ (p.vs b).reverse, x.1 ≤ p.t := fun x hx => ho.2 b x (List.mem_reverse.1 hx)
      have hf : ∀ (l : List (Int × List UInt8)), (∀ x ∈ l, x.1 ≤ p.t) → l.find? (fun x => decide (x.1 ≤ t)) = l.find? (fun x => decide (x.1 ≤ p.t)) := by
        intro l hl
        cases l with
        | nil => rfl
        | cons x l =>
          have h2 := hl x List.mem_cons_self
          rw [List.find?_cons_of_pos (by simp; omega), List.find?_cons_of_pos (by simp; omega)]
      rw [hf _ hall]
    · rw [getL_keyn hb] at e
      cases e
end Go.Proofs.YtnelakpdmjfolaaGreat
namespace Go.Proofs.YtnelakpdmjfolaaGreat
open Go.RowKit Go.Lib

set_option maxRecDepth 100000 in
theorem sbegin_q (w : World) {lw : Nat} {d : Ids} {s : Gs} {g : Gd} (h : Sto w lw d s g) (hLb : s.Lb = []) (h0 : 0 ≤ s.last) (h1 : s.last ≤ 1099511627776) (hb0 : 0 ≤ s.bl) (hb1 : s.bl ≤ 1000000) :
    Calls Tryz.prog 9 #[.pointer (some ⟨d.P, 0, none⟩)] w fun e w' => e = .returned (.tuple #[.int .i64 (s.bl + 1), .int .i64 0]) ∧ BegT w w' lw d s g ∧ Chg [d.B, d.rb, d.r] w w' := by
  have HD := Lib.hid (dead_g w h.store)
  have p5 : w.cell? ⟨d.P, 5, none⟩ = some (.pointer (some ⟨d.M, 0, none⟩)) := cell_is h.store 5 rfl
  have HB := Lib.hid (tbegin_gen w h.mx hLb h0 h1 hb0 hb1)
  have HS := Lib.hid h
  clear h hLb h0 h1 hb0 hb1
  go_enter Tryz.func9, Tryz.ntmps9
  go_wp2_with fail
  refine HD.out.mono ?_
  rintro e w1 ⟨rfl, rfl⟩
  go_wp2_with fail
  refine HB.out.mono ?_
  rintro e w1 ⟨rfl, T, W, rw, Q, V, k1, hx, hT, hb, hv, hs, n1, n2, n3, b1, b2, b3, b4, b5⟩
  have hF : BegT w w1 lw d s g := by
    have hS := HS.out
    have avB : Av w [d.B, d.rb, d.r] [72, 113, 5, 60, 61, 64, 38] := fun x hx cs t fr hh => by
      simp at hx
      rcases hx with rfl | rfl | rfl
      · rw [hS.mx.book.1] at hh; cases hh; simp
      · exact absurd rfl (map_cells hS.mx.book.2 hh)
      · exact absurd rfl (map_cells hS.mx.map hh)
    have sub : ∀ ts : List Nat, (∀ t ∈ ts, t ∈ [72, 113, 5, 60, 61, 64, 38]) → Av w [d.B, d.rb, d.r] ts := fun ts hts x hx cs t fr hh ht => avB x hx cs t fr hh (hts t ht)
    have hSto : Sto w1 lw { d with T := T, W := W, rw := rw, Q := Q, V := V } (begS s T) g :=
      ⟨k1.heap hS.store (avB.ne hS.store (by simp)), k1.heap hS.slot (avB.ne hS.slot (by simp)), hS.text.keep k1 (sub _ (by decide)), hS.dev.keep k1 (sub _ (by decide)), hx, hS.ap, hS.keys, hS.bnd, hS.bndZ, Nat.le_trans hS.slo k1.size, hS.dlo⟩
    refine ⟨T, W, rw, Q, V, ⟨[d.B, d.rb, d.r], k1, fun x hx _ => ?_⟩, b1, hSto, hT, hb, (fun x hx => by cases hx), fun b _ _ => Or.inl ⟨rfl, rfl⟩, ⟨_, 0, [], hv, Nat.zero_le _, World.ownsRow_nil _ _ _ _⟩, ⟨_, [], hs, Nat.le_refl _, World.ownsRow_nil _ _ _ _⟩, b4, b5, b3⟩
    have hbn := hS.bnd
    simp at hx
    rcases hx with rfl | rfl | rfl
    · exact ⟨by omega, fun cs t fr hh => by rw [hS.mx.book.1] at hh; cases hh; simp⟩
    · exact ⟨by omega, fun cs t fr hh => absurd rfl (map_cells hS.mx.book.2 hh)⟩
    · exact ⟨by omega, fun cs t fr hh => absurd rfl (map_cells hS.mx.map hh)⟩
  have HF := Lib.hid (And.intro hF k1)
  clear hF hx hT hb hv hs k1 b1 b2 b3 b4 b5 n1 n2 n3
  go_wp2_with fail
  go_ret2
  exact ⟨rfl, HF.out⟩
end Go.Proofs.YtnelakpdmjfolaaGreat
