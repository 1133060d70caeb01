/- Lemmas and walks: Walks: what a buffer holds, as puts. Walks: a buffer's set; a transaction is checked against nothing. Walks: a transaction is checked against no versions and no queue. Walks: an open transaction of a store, whatever was committed before: reads and writes. Walks: the reference's manager is made. Walks: the reference's manager begins a transaction. Walks: a cell is got, set, added to. Walks: may a transaction be committed? Where nothing was written and nothing waits: yes. Walks: Commit of a store; the transaction that waits. Walks: the next batch, of one transaction. Walks: a batch of one transaction may be. Walks: puts that rise; a version more of some blocks, in plain words. Walks: a batch of one transaction is checked. Walks: numbers as bytes, the least first. Walks: check sums. -/
import Derived.Laws.IdiomRangeMap
import Derived.Test.YtnelakpdmjfolaaGreatProg
import Derived.StillTailTactics
import Derived.BigQuiet
import Derived.Laws.BitsAllLaws
import Derived.Test.YtnelakpdmjfolaaGreatCa
import Derived.Test.YtnelakpdmjfolaaGreatCb
import Derived.Test.YtnelakpdmjfolaaGreatCc
import Derived.Test.YtnelakpdmjfolaaGreatCd
namespace Go.Proofs.YtnelakpdmjfolaaGreat
open Go.RowKit Go.Lib

theorem wf_i64 {x : Int} (h0 : -9223372036854775808 ≤ x) (h1 : x ≤ 9223372036854775807) : (Lit.int .i64 x).wf = true := by
  have e1 : IntKind.i64.min = -9223372036854775808 := by decide
  have e2 : IntKind.i64.max = 9223372036854775807 := by decide
  simp only [Lit.wf, e1, e2, Bool.and_eq_true, decide_eq_true_eq]
  omega
theorem ty69 : Tryz.prog.underlying 37 = some (.slice 41) := by kernel_rfl
theorem inf92 : (Tryz.prog.info? 41).map (fun i => (i.zero, i.size, i.bytes)) = some (some (.agg #[.int .i64 0, .slice none 0 0]), 2, 32) := by kernel_rfl
/-- puts (a block's number, its bytes) in an own row. -/
def PutsAt (w : World) (base : Nat) (v : Value) (l : List (Int × List UInt8)) : Prop :=
  ∃ xs, w.ownsRow base 41 2 v l.length xs ∧ ∀ i (h : i < l.length), xs[i * 2]? = some (.int .i64 l[i].1) ∧ ∃ g c, xs[i * 2 + 1]? = some (.slice (some ⟨g, 0, none⟩) 40 c) ∧ Bs w (some ⟨g, 0, none⟩) l[i].2 ∧ l[i].2.length = 40 ∧ Bt w g
theorem PutsAt.nil (w : World) (base : Nat) : PutsAt w base (.slice none 0 0) [] := ⟨[], World.ownsRow_nil _ _ _ _, fun i h => by simp at h⟩
theorem PutsAt.block {w : World} {lo : Nat} {v : Value} {l : List (Int × List UInt8)} (h : PutsAt w lo v l) : ∀ g, v.ownBlock = some g → lo ≤ g ∧ ∃ cs, w.heap[g]? = some (.cells cs 41 (0, 0)) := by
  intro g hg
  obtain ⟨xs, ho, -⟩ := h
  exact own_elem ho hg
theorem PutsAt.keep {w w' : World} {T : List Nat} {lo : Nat} {v : Value} {l : List (Int × List UInt8)} (h : PutsAt w lo v l) (hc : Chg T w w') (hT : Av w T [5]) (hv : ∀ g, v.ownBlock = some g → g ∉ T) : PutsAt w' lo v l := by
  obtain ⟨xs, ho, hx⟩ := h
  refine ⟨xs, ?_, fun i hi => ?_⟩
  · refine ⟨ho.1, ?_⟩
    rcases ho.2 with hn | ⟨g, cap, cur, rfl, hb, hg, rest⟩
    · exact Or.inl hn
    · exact Or.inr ⟨g, cap, cur, rfl, hb, hc.heap hg (hv g rfl), rest⟩
  · obtain ⟨h0, g, c, h1, h2, h3, cs, h4⟩ := hx i hi
    have hg : g ∉ T := hT.ne h4 (by simp)
    exact ⟨h0, g, c, h1, h2.chgT hc hg, h3, cs, hc.heap h4 hg⟩
theorem PutsAt.keep0 {w w' : World} {lo : Nat} {v : Value} {l : List (Int × List UInt8)} (h : PutsAt w lo v l) (hc : Chg [] w w') : PutsAt w' lo v l := h.keep hc (Av.nil _ _) (fun _ _ => by simp)
/-- .. when a put is put behind them. -/
theorem PutsAt.push {w w' : World} {base gb cb n : Nat} {v v' : Value} {l : List (Int × List UInt8)} {k : Int} {b : List UInt8} {xs : List Value} (hx : ∀ i (h : i < l.length), xs[i * 2]? = some (.int .i64 l[i].1) ∧ ∃ g c, xs[i * 2 + 1]? = some (.slice (some ⟨g, 0, none⟩) 40 c) ∧ Bs w (some ⟨g, 0, none⟩) l[i].2 ∧ l[i].2.length = 40 ∧ Bt w g)
    (hl : xs.length = l.length * 2) (hn : n = l.length) (hv : ∀ g, v.ownBlock = some g → ∃ cs, w.heap[g]? = some (.cells cs 41 (0, 0))) (ho : w'.ownsRow base 41 2 v' (n + 1) (xs ++ [.int .i64 k, .slice (some ⟨gb, 0, none⟩) 40 cb])) (hc : Chg v.ownBlock.toList w w')
    (hb : Bs w (some ⟨gb, 0, none⟩) b) (hb4 : b.length = 40) (hbt : Bt w gb) : PutsAt w' base v' (l ++ [(k, b)]) := by
  subst hn
  have hne : ∀ {g}, Bt w g → g ∉ v.ownBlock.toList := by
    rintro g ⟨cs2, h2⟩ hm
    obtain ⟨cs, h1⟩ := hv g (by simpa using hm)
    rw [h1] at h2
    cases h2
  have keepB : ∀ {g}, Bt w g → Bt w' g := fun {g} h => by
    obtain ⟨cs, h2⟩ := id h
    exact ⟨cs, hc.heap h2 (hne h)⟩
  refine ⟨_, by rw [List.length_append]; exact ho, fun i hi => ?_⟩
  by_cases h : i < l.length
  · obtain ⟨h0, g, c, h1, h2, h3, h4⟩ := hx i h
    rw [List.getElem_append_left h]
    exact ⟨by rw [List.getElem?_append_left (by omega)]; exact h0, g, c, by rw [List.getElem?_append_left (by omega)]; exact h1, h2.chgT hc (hne h4), h3, keepB h4⟩
  · have hi2 : i = l.length := by simp at hi; omega
    subst hi2
    have e : (l ++ [(k, b)])[l.length]'(by simp) = (k, b) := by simp
    rw [e]
    exact ⟨by rw [← hl]; simp, gb, cb, by rw [← hl, List.getElem?_append_right (by omega)]; simp, hb.chgT hc (hne hbt), hb4, keepB hbt⟩
/-- a buffer's entries are blocks' bytes. -/
def BufD (w : World) (L : List (Int × Value)) (D : Int → List UInt8) : Prop := ∀ k v, getL L k = some v → ∃ g c, v = .slice (some ⟨g, 0, none⟩) 40 c ∧ Bs w (some ⟨g, 0, none⟩) (D k) ∧ (D k).length = 40 ∧ Bt w g
theorem BufD.keep {w w' : World} {L : List (Int × Value)} {D : Int → List UInt8} (h : BufD w L D) (hc : Chg [] w w') : BufD w' L D := fun k v hv => by
  obtain ⟨g, c, h1, h2, h3, cs, h4⟩ := h k v hv
  exact ⟨g, c, h1, h2.chg hc, h3, cs, hc.heap h4 (by simp)⟩
/-- the puts of a buffer, by rising number. -/
def putsL (L : List (Int × Value)) (D : Int → List UInt8) : List (Int × List UInt8) := (sortI (L.map Prod.fst)).map fun k => (k, D k)
theorem putsL_length (L : List (Int × Value)) (D : Int → List UInt8) : (putsL L D).length = L.length := by simp [putsL, sortI_length]
theorem getL_key {L : List (Int × Value)} {k : Int} (h : k ∈ L.map Prod.fst) : ∃ v, getL L k = some v := by
  induction L with
  | nil => simp at h
  | cons p l ih =>
    simp only [getL]
    by_cases e : k = p.1
    · exact ⟨_, if_pos e⟩
    · rw [if_neg e]
      simp only [List.map_cons, List.mem_cons] at h
      exact ih (h.resolve_left e)
set_option maxRecDepth 100000 in
set_option maxHeartbeats 2000000 in
theorem bputs_any (w : World) {W rw : Nat} {L : List (Int × Value)} {D : Int → List UInt8} (h : BufAt w W rw L) (hD : BufD w L D) (hk : ∀ x ∈ L, 0 ≤ x.1 ∧ x.1 < 258) (hl : L.length ≤ 1000) : Calls Tryz.prog 124 #[.pointer (some ⟨W, 0, none⟩)] w fun e w' =>
    ∃ v, e = .returned v ∧ Chg [] w w' ∧ PutsAt w' w.heap.size v (putsL L D) := by
  have c2 : w.cell? ⟨W, 2, none⟩ = some (.map (some rw)) := cell_is h.1 2 rfl
  have HS := Lib.hid (sortedA_any w h.2 (fun p hp => wf_i64 (by have := hk p hp; omega) (by have := hk p hp; omega)) (by omega))
  have HB := Lib.hid h
  have HD := Lib.hid hD
  have HK := Lib.hid hk
  clear h hD hk
  go_enter Tryz.func124, Tryz.ntmps124
  go_wp2_with (first
    | (go_at_call 76; refine (keysA_any (some rw) _).mono ?_; rintro e w1 ⟨rfl, rfl⟩)
    | (go_at_call 75; refine HS.out.mono ?_; rintro e w2 ⟨v2, rfl, o2, k2⟩; obtain ⟨pk, ck, rfl, hck⟩ := own_form o2))
  have hsl : (sortI (L.map Prod.fst)).length = L.length := by rw [sortI_length, List.length_map]
  have hmem : ∀ k, k ∈ sortI (L.map Prod.fst) → ∃ v, getL L k = some v := fun k hk => getL_key ((sortI_perm _).mem_iff.1 hk)
  have hpl : putsL L D = (sortI (L.map Prod.fst)).map fun k => (k, D k) := rfl
  have HP := Lib.hid hpl
  have HM := Lib.hid hmem
  have O2 := Lib.hid o2
  clear hmem hpl o2
  generalize hks : sortI (L.map Prod.fst) = ks at *
  have c22 := k2.cell c2 (by simp)
  generalize hn : L.length = n at *
  have hcki : (n : Int) ≤ ck := by omega
  go_loopw [2, 4, 14] (fun v _ i wr => ∃ j : Nat, j ≤ n ∧ i = .int .i64 j ∧ Chg [] w2 wr ∧ PutsAt wr w2.heap.size v ((ks.take j).map fun k => (k, D k))) (fun _ _ i _ => n - (intOf i).toNat)
  case atStart => exact ⟨0, by omega, rfl, Chg.refl _ _, PutsAt.nil _ _⟩
  case round =>
    obtain ⟨j, hj, rfl, kr, hp⟩ := hrel
    by_cases hlt : j < n
    · have hjk : j < ks.length := by omega
      obtain ⟨v, hv⟩ := HM.out ks[j] (List.getElem_mem hjk)
      obtain ⟨g, cg, rfl, hb, hb4, hbt⟩ := HD.out _ _ hv
      have kwr : Chg [] w wr := k2.then kr
      have hlook : (Instr.lookup 87 (.map (some rw)) (.int .i64 ks[j]) false).run Tryz.prog wr = .ok (.slice (some ⟨g, 0, none⟩) 40 cg) wr := by
        have := lookup151 (HB.out.2.keep kwr (by simp)) ks[j] false
        rw [hv] at this
        exact this
      have ck0 : ∃ gk, pk = some ⟨gk, 0, none⟩ ∧ wr.cell? ⟨gk, j, none⟩ = some (.int .i64 ks[j]) := by
        rcases O2.out.2 with ⟨_, h0⟩ | ⟨gk, cap, cur, e, hA, hg, hc1, hc2, hc3, ht⟩
        · omega
        · injection e with e1
          refine ⟨gk, e1, kr.cell (cell_is hg j ?_) (by simp)⟩
          have h1 : (ks.map encZ)[j]? = some (.int .i64 ks[j]) := by simp [hjk]
          rw [← ht, List.getElem?_take_of_lt (by omega), Array.getElem?_toList] at h1
          exact h1
      obtain ⟨gk, rfl, ck1⟩ := ck0
      have cw2 := kr.cell c22 (by simp)
      have HBs := Lib.hid (hb.chg kwr)
      have HPt := Lib.hid hp
      have HTk := Lib.hid (show (ks.take (j + 1)).map (fun k => (k, D k)) = (ks.take j).map (fun k => (k, D k)) ++ [(ks[j], D ks[j])] by rw [List.take_succ_eq_append_getElem hjk, List.map_append]; rfl)
      have HL4 := Lib.hid hb4
      have HBt := Lib.hid hbt
      clear hb hp hb4 hbt hv
      generalize ks[j] = k at *
      go_wp2_with fail
      refine (clone_bt wr HL4.out (by decide) (by decide) HBs.out).mono ?_
      rintro e w3 ⟨g2, c2, rfl, k3, b3, l3, t3⟩
      obtain ⟨xs, ho3, hx3⟩ := HPt.out.keep0 k3
      have hpl3 : ((ks.take j).map fun k => (k, D k)).length = j := by simp; omega
      have hb23 := (HPt.out.keep0 k3).block
      have hs3 : w2.heap.size ≤ w3.heap.size := (kr.then k3).size
      have B3 := Lib.hid b3
      have T3 := Lib.hid t3
      have HX3 := Lib.hid hx3
      have HO3 := Lib.hid ho3
      have H23 := Lib.hid hb23
      clear b3 t3 hx3 hb23 ho3
      go_wp2_with (at_builtin; refine wpList_append_lit rfl (.tmp 18) (.tmp 28) 37 41 rfl ty69 inf92 rfl (by decide) w2.heap.size w3 [.int .i64 k, .slice (some ⟨g2, 0, none⟩) 40 c2] 1 rfl _ ((ks.take j).map fun k => (k, D k)).length xs rfl HO3.out (by omega) (by decide) hs3 (k := 0) rfl (by simp [Value.oneCell']) rfl 1 rfl ?_; intro v' w4 hap)
      have hxl : xs.length = ((ks.take j).map fun k => (k, D k)).length * 2 := HO3.out.1
      have hfin : PutsAt w4 w2.heap.size v' (((ks.take j).map fun k => (k, D k)) ++ [(k, D k)]) := PutsAt.push HX3.out hxl rfl (fun g hg => (H23.out g hg).2) hap.1 (Chg.own hap.2.2 (fun g hg _ => by have hg2 : u2.ownBlock = some g := hg; simp [hg2])) B3.out HL4.out T3.out
      rw [← HTk.out] at hfin
      go_roundw
      case rel => exact ⟨j + 1, by omega, by simp, Chg.of_below ((kr.then k3).below0.trans hap.2.1), hfin⟩
      case measure => simp [intOf]; omega
    · obtain rfl : j = n := by omega
      go_wp2_with fail
      go_ret
      refine ⟨_, rfl, k2.then kr, ?_⟩
      rw [HP.out]
      rw [List.take_of_length_le (by omega)] at hp
      obtain ⟨xs, ho, hx⟩ := hp
      exact ⟨xs, own_base ho k2.size, hx⟩
end Go.Proofs.YtnelakpdmjfolaaGreat
namespace Go.Proofs.YtnelakpdmjfolaaGreat
open Go.RowKit Go.Lib

set_option maxRecDepth 100000 in
theorem blen_any (w : World) {W rw : Nat} {L : List (Int × Value)} {D : Int → List UInt8} (h : BufAt w W rw L) (hD : BufD w L D) (hk : ∀ x ∈ L, 0 ≤ x.1 ∧ x.1 < 258) (hl : L.length ≤ 1000) : Calls Tryz.prog 84 #[.pointer (some ⟨W, 0, none⟩)] w fun e w' => e = .returned (.int .i64 L.length) ∧ Chg [] w w' := by
  have HP := Lib.hid (bputs_any w h hD hk hl)
  clear h hD hk
  go_enter Tryz.func84, Tryz.ntmps84
  go_wp2_with fail
  refine HP.out.mono ?_
  rintro e w1 ⟨v, rfl, k, xs, ho, -⟩
  obtain ⟨pa, c, rfl, -⟩ := own_form ho
  go_wp2_with fail
  go_ret
  exact ⟨by rw [← putsL_length L D]; rfl, k⟩
/-- one put, at its place. -/
theorem PutsAt.get {w : World} {lo : Nat} {v : Value} {l : List (Int × List UInt8)} (h : PutsAt w lo v l) (k : Nat) (hk : k < l.length) : ∃ g cap gd cd, v = .slice (some ⟨g, 0, none⟩) l.length cap ∧ l.length ≤ cap ∧
    w.cell? ⟨g, k * 2, none⟩ = some (.int .i64 l[k].1) ∧ w.cell? ⟨g, k * 2 + 1, none⟩ = some (.slice (some ⟨gd, 0, none⟩) 40 cd) ∧ Bs w (some ⟨gd, 0, none⟩) l[k].2 ∧ l[k].2.length = 40 ∧ Bt w gd := by
  obtain ⟨xs, ho, hx⟩ := h
  obtain ⟨h0, gd, cd, h1, h2, h3, h4⟩ := hx k hk
  rcases ho.2 with ⟨_, e⟩ | ⟨g, cap, cur, rfl, hA, hg, hc1, hc2, hc3, ht⟩
  · omega
  · refine ⟨g, cap, gd, cd, rfl, hc1, cell_is hg _ ?_, cell_is hg _ ?_, h2, h3, h4⟩
    · rw [← ht, List.getElem?_take_of_lt (by omega), Array.getElem?_toList] at h0
      exact h0
    · rw [← ht, List.getElem?_take_of_lt (by omega), Array.getElem?_toList] at h1
      exact h1
set_option maxRecDepth 100000 in
set_option maxHeartbeats 2000000 in
theorem bset_any (w : World) {W rw : Nat} {L : List (Int × Value)} {D : Int → List UInt8} (h : BufAt w W rw L) (hD : BufD w L D) (hk : ∀ x ∈ L, 0 ≤ x.1 ∧ x.1 < 258) (hl : L.length ≤ 16) : Calls Tryz.prog 128 #[.pointer (some ⟨W, 0, none⟩)] w fun e w' =>
    ∃ U lo most, e = .returned (.pointer (some ⟨U, 0, none⟩)) ∧ Chg [] w w' ∧ SpW w' lo U most 16 ∧ w.heap.size ≤ U := by
  have HP := Lib.hid (bputs_any w h hD hk (by omega))
  clear h hD hk
  go_enter Tryz.func128, Tryz.ntmps128
  go_wp2_with fail
  refine HP.out.mono ?_
  rintro e w1 ⟨v, rfl, k1, hp⟩
  obtain ⟨pa, c, rfl, hcap⟩ := own_form hp.choose_spec.1
  have hpl : (putsL L D).length ≤ 16 := by rw [putsL_length]; exact hl
  have HPt := Lib.hid hp
  clear hp
  generalize putsL L D = l at *
  go_wp2_with fail
  refine (inewm_any w1 l.length).mono ?_
  rintro e w2 ⟨U, rfl, k2, hU, lU⟩
  have HPt2 := Lib.hid (HPt.out.keep0 k2)
  go_wp2_with fail
  go_loopw [6, 14] (fun _ i wr => ∃ j : Nat, j ≤ l.length ∧ i = .int .i64 j ∧ Chg [U] w2 wr ∧ SpW wr w1.heap.size U l.length j) (fun _ i _ => l.length - (intOf i).toNat)
  case atStart => exact ⟨0, by omega, rfl, Chg.refl _ _, hU⟩
  case round =>
    obtain ⟨j, hj, rfl, kr, hs⟩ := hrel
    by_cases hlt : j < l.length
    · obtain ⟨g, cap, gd, cd, hv, -, d0, d1, -, -, -⟩ := HPt2.out.get j hlt
      cases hv
      have hU312 : ∃ v0, w2.heap[U]? = some (.cells #[.int .i64 l.length, v0] 227 (0, 0)) := ⟨_, hU.choose_spec.choose_spec.1⟩
      have hg92 : ∃ cs, w2.heap[g]? = some (.cells cs 41 (0, 0)) := (HPt2.out.block g rfl).2
      have hgU : g ∉ [U] := by
        obtain ⟨v0, h1⟩ := hU312
        obtain ⟨cs, h2⟩ := hg92
        intro hm
        rw [List.mem_singleton] at hm
        rw [hm, h1] at h2
        cases h2
      have e0 := kr.cell d0 hgU
      have e1 := kr.cell d1 hgU
      have hS := Lib.hid hs
      clear hs hU hU312 hg92 d0 d1
      generalize (l[j]).1 = b at *
      go_wp2_with fail
      have kA : Chg [] wr ((wr.alloc (.cells #[.int .i64 b, .slice (some ⟨gd, 0, none⟩) 40 cd] 41)).alloc (.cells #[.int .i64 b, .int .i64 1] 231)) := chg_two wr _ _
      have hE := (two_new wr (.cells #[.int .i64 b, .slice (some ⟨gd, 0, none⟩) 40 cd] 41) (.cells #[.int .i64 b, .int .i64 1] 231)).2
      have hSpQ : SpQ ((wr.alloc (.cells #[.int .i64 b, .slice (some ⟨gd, 0, none⟩) 40 cd] 41)).alloc (.cells #[.int .i64 b, .int .i64 1] 231)) (some ⟨wr.heap.size + 1, 0, none⟩) [(b, 1)] := Or.inr ⟨_, 0, rfl, fun i u hu => by
        rw [Nat.zero_add]
        match i with
        | 0 => cases hu; exact cell_is hE 0 rfl
        | 1 => cases hu; exact cell_is hE 1 rfl
        | i + 2 => simp [spCells] at hu⟩
      refine (iadd_any _ (n := j) (m := 1) (hS.out.keep0 kA) (by omega) (by have := kA.size; have := k2.size; have := kr.size; omega) rfl hSpQ).mono ?_
      rintro e w3 ⟨r, rfl, k3, hs3⟩
      have kk : Chg [U] w2 w3 := (kr.then (kA.mono (fun x hx _ => by cases hx))).then k3
      clear hSpQ hE kA e0 e1
      go_wp2_with fail
      go_roundw
      case rel => exact ⟨j + 1, by omega, by simp, kk, hs3⟩
      case measure => simp [intOf]; omega
    · obtain rfl : j = l.length := by omega
      go_wp2_with fail
      go_ret
      obtain ⟨v, l3, h1, h2, h3⟩ := hs
      exact ⟨U, _, _, rfl, (k1.then k2).trans kr (fun x hx hlt => by rw [List.mem_singleton] at hx; have := k1.size; omega), ⟨v, l3, h1, by omega, h3⟩, by have := k1.size; omega⟩
set_option maxRecDepth 100000 in
theorem xgone_any (w : World) {X : Nat} (h : w.cell? ⟨X, 0, none⟩ = some (.int .i64 258)) : Calls Tryz.prog 110 #[.pointer (some ⟨X, 0, none⟩)] w fun e w' => e = .returned (.bool false) ∧ w = w' := by
  go_enter Tryz.func110, Tryz.ntmps110
  go_wp2_with fail
  go_ret
  exact ⟨rfl, rfl⟩
set_option maxRecDepth 100000 in
set_option maxHeartbeats 1000000 in
theorem written_none (w : World) {lo X rx : Nat} {last : Int} {vs : Int → List (Int × List UInt8)} (h : VerG w lo X rx last [] vs) (b n t : Int) : Calls Tryz.prog 145 #[.pointer (some ⟨X, 0, none⟩), .agg #[.int .i64 b, .int .i64 n], .int .i64 t] w fun e w' => e = .returned (.bool false) ∧ Chg [] w w' := by
  have kA : Chg [] w (w.alloc (.cells #[.int .i64 b, .int .i64 n] 231)) := Chg.alloc w _
  have A0 := heap_new w (.cells #[.int .i64 b, .int .i64 n] 231)
  have h2 := h.keep kA
  have x0 : (w.alloc (.cells #[.int .i64 b, .int .i64 n] 231)).cell? ⟨X, 0, none⟩ = some (.int .i64 258) := cell_is h2.x 0 rfl
  have x1 : (w.alloc (.cells #[.int .i64 b, .int .i64 n] 231)).cell? ⟨X, 1, none⟩ = some (.map (some rx)) := cell_is h2.x 1 rfl
  obtain ⟨clock, hm⟩ := h2.m.none
  have a0 : (w.alloc (.cells #[.int .i64 b, .int .i64 n] 231)).cell? ⟨w.heap.size, 0, none⟩ = some (.int .i64 b) := cell_is A0 0 rfl
  have a1 : (w.alloc (.cells #[.int .i64 b, .int .i64 n] 231)).cell? ⟨w.heap.size, 1, none⟩ = some (.int .i64 n) := cell_is A0 1 rfl
  have HG := Lib.hid (xgone_any _ x0)
  clear h h2 A0
  go_enter Tryz.func145, Tryz.ntmps145
  go_upto_region 1 with fail
  generalize w.alloc (.cells #[.int .i64 b, .int .i64 n] 231) = w1 at *
  go_cut [38] from 7 (fun v wx => (∃ r : Bool, v = .bool r) ∧ wx = w1)
  case first =>
    go_wp2_with fail
    refine HG.out.mono ?_
    rintro e w2 ⟨rfl, rfl⟩
    go_wp2_with fail
    all_goals
      go_meet
      exact ⟨⟨_, rfl⟩, rfl⟩
  case rest =>
    obtain ⟨⟨r, rfl⟩, rfl⟩ := hcut
    rename World => wd
    cases r
    · have hr1 := run_range_map (P := Tryz.prog) wd 184 3 194 rx #[] clock (by kernel_rfl) hm
      have hn1 : ∀ ty, (Instr.next (.pointer (some ⟨wd.heap.size, 0, none⟩)) false ty).run Tryz.prog (wd.alloc (.mapIter (some rx) clock #[] clock)) = .ok (.tuple #[.bool false]) (wd.alloc (.mapIter (some rx) clock #[] clock)) := by
        intro ty
        rcases run_next_map (P := Tryz.prog) wd ty rx clock clock #[] #[] clock hm (by simp) (Nat.le_refl _) with ⟨_, h⟩ | ⟨e, he, _⟩
        · exact h
        · simp [leftOf] at he
      have kI : Chg [] w (wd.alloc (.mapIter (some rx) clock #[] clock)) := kA.then_alloc _
      go_wp2_with fail
      generalize wd.alloc (.mapIter (some rx) clock #[] clock) = w3 at *
      go_loopw [7, 8] (fun _ _ wr => wr = w3) (fun _ _ _ => 0)
      case atStart => rfl
      case round =>
        subst hrel
        go_wp2_with fail
        go_ret
        exact ⟨rfl, kI⟩
    · go_wp2_with fail
      go_ret
      exact ⟨rfl, kA⟩
end Go.Proofs.YtnelakpdmjfolaaGreat
namespace Go.Proofs.YtnelakpdmjfolaaGreat
open Go.RowKit Go.Lib

set_option maxRecDepth 100000 in
set_option maxHeartbeats 4000000 in
theorem check_none (w : World) {lo X rx lo1 U1 m1 n1 lo2 U2 m2 n2 cq : Nat} {pq : Option Addr} {last t : Int} {vs : Int → List (Int × List UInt8)} (h : VerG w lo X rx last [] vs) (hr : SpW w lo1 U1 m1 n1) (hw : SpW w lo2 U2 m2 n2) (hn1 : n1 ≤ 1000) (hn2 : n2 ≤ 1000) :
    Calls Tryz.prog 126 #[.pointer (some ⟨X, 0, none⟩), .slice pq 0 cq, .int .i64 t, .pointer (some ⟨U1, 0, none⟩), .pointer (some ⟨U2, 0, none⟩)] w fun e w' => e = .returned (.int .i64 0) ∧ Chg [] w w' := by
  have HC := Lib.hid (count_any w hw hn2)
  have HV := Lib.hid h
  have HR := Lib.hid hr
  have HW := Lib.hid hw
  clear h hr hw
  go_enter Tryz.func126, Tryz.ntmps126
  go_wp2_with fail
  go_step3
  go_wp2_with fail
  refine HC.out.mono ?_
  rintro e w1 ⟨⟨r, rfl⟩, k1⟩
  by_cases hr0 : r = 0
  · subst hr0
    go_wp2_with fail
    simp only [Exit.noGoto]
    go_ret
    exact ⟨rfl, k1⟩
  · go_wp2_with fail
    go_step3
    go_wp2_with fail
    have hrb : (r == 0) = false := by simpa using hr0
    rw [hrb]
    have hi0 : ∀ w, (Instr.index 228 (.agg #[.pointer (some ⟨U1, 0, none⟩), .pointer (some ⟨U2, 0, none⟩)]) (.int .i64 ((0 : Nat) : Int))).run Tryz.prog w = .ok (.pointer (some ⟨U1, 0, none⟩)) w := fun w => by kernel_rfl
    have hi1 : ∀ w, (Instr.index 228 (.agg #[.pointer (some ⟨U1, 0, none⟩), .pointer (some ⟨U2, 0, none⟩)]) (.int .i64 ((1 : Nat) : Int))).run Tryz.prog w = .ok (.pointer (some ⟨U2, 0, none⟩)) w := fun w => by kernel_rfl
    go_loopw [11, 13, 15, 17, 24] (fun e _ _ _ i wr => ∃ j : Nat, j ≤ 2 ∧ i = .int .i64 j ∧ e = .int .i64 0 ∧ Chg [] w1 wr) (fun _ _ _ _ i _ => 2 - (intOf i).toNat)
    case atStart => exact ⟨0, by omega, rfl, rfl, Chg.refl _ _⟩
    case round =>
      obtain ⟨j, hj, rfl, rfl, kr⟩ := hrel
      by_cases hj2 : j < 2
      · obtain ⟨U, lo3, m3, n3, hi, hS, hn3⟩ : ∃ U lo3 m3 n3, (∀ w, (Instr.index 228 (.agg #[.pointer (some ⟨U1, 0, none⟩), .pointer (some ⟨U2, 0, none⟩)]) (.int .i64 (j : Int))).run Tryz.prog w = .ok (.pointer (some ⟨U, 0, none⟩)) w) ∧ SpW wr lo3 U m3 n3 ∧ n3 ≤ 1000 := by
          have kk := k1.then kr
          rcases (show j = 0 ∨ j = 1 by omega) with rfl | rfl
          · exact ⟨U1, _, _, _, hi0, HR.out.keep0 kk, hn1⟩
          · exact ⟨U2, _, _, _, hi1, HW.out.keep0 kk, hn2⟩
        have HE := Lib.hid (extents_any wr hS hn3)
        clear hi0 hi1 hS
        go_wp2_with fail
        refine HE.out.mono ?_
        rintro e w2 ⟨pb, m, cb, l, rfl, k2, hq, hl, hm⟩
        have HQ := Lib.hid hq
        clear hq
        go_wp2_with fail
        go_loopw [11, 15, 30] (fun e _ i wz => ∃ q : Nat, q ≤ m ∧ i = .int .i64 q ∧ e = .int .i64 0 ∧ Chg [] w2 wz) (fun _ _ i _ => m - (intOf i).toNat)
        case atStart => exact ⟨0, by omega, rfl, rfl, Chg.refl _ _⟩
        case round =>
          obtain ⟨q, hq, rfl, rfl, kz⟩ := hrel
          rename World => wz
          have kk : Chg [] w1 wz := (kr.then k2).then kz
          by_cases hqm : q < m
          · obtain ⟨b, o, rfl, c0, c1⟩ := (HQ.out.keep kz).get q (by omega)
            generalize (l[q]'(by omega)).1 = x at *
            generalize (l[q]'(by omega)).2 = y at *
            have ka : Chg [] wz (wz.alloc (.cells #[.int .i64 x, .int .i64 y] 231)) := Chg.alloc wz _
            have HWr := Lib.hid (written_none (wz.alloc (.cells #[.int .i64 x, .int .i64 y] 231)) (HV.out.keep ((k1.then kk).then ka)) x y t)
            go_wp2_with fail
            refine HWr.out.mono ?_
            rintro e w5 ⟨rfl, k5⟩
            go_wp2_with fail
            go_roundw
            case rel => exact ⟨q + 1, by omega, by simp, rfl, (kz.then ka).then k5⟩
            case measure => simp [intOf]; omega
          · obtain rfl : q = m := by omega
            go_wp2_with fail
            go_loopw [11, 17, 41] (fun e _ i wy => i = .int .i64 0 ∧ e = .int .i64 0 ∧ wy = wz) (fun _ _ _ _ => 0)
            case atStart => exact ⟨rfl, rfl, rfl⟩
            case round =>
              obtain ⟨rfl, rfl, rfl⟩ := hrel
              go_wp2_with fail
              go_roundw
              case rel => exact ⟨j + 1, by omega, by simp, rfl, kk⟩
              case measure => simp [intOf]; omega
      · obtain rfl : j = 2 := by omega
        go_wp2_with fail
        simp only [Exit.noGoto]
        go_ret
        exact ⟨rfl, k1.then kr⟩
end Go.Proofs.YtnelakpdmjfolaaGreat
namespace Go.Proofs.YtnelakpdmjfolaaGreat
open Go.RowKit Go.Lib

/-- a transaction's handle and time; the versions: the last time, the map's entries, each block's versions. -/
structure Par where
  h : Int
  t : Int
  lo : Nat
  last : Int
  Lv : List (Int × Value)
  vs : Int → List (Int × List UInt8)
/-- what a transaction's calls ask of the store about it. -/
structure Need (w : World) (d : Ids) (p : Par) : Prop where
  p0 : w.cell? ⟨d.P, 0, none⟩ = some (.pointer (some ⟨d.N, 0, none⟩))
  p5 : w.cell? ⟨d.P, 5, none⟩ = some (.pointer (some ⟨d.M, 0, none⟩))
  p9 : w.cell? ⟨d.P, 9, none⟩ = some (.bool false)
  hdr : ∃ ops rds, w.heap[d.N]? = some (.cells #[.int .i64 8, .int .i64 96, .slice (some ⟨d.A, 0, none⟩) 8 d.c, .int .i64 ops, .int .i64 rds, .bool false, .int .i64 0, .bool false] 60 (0, 0))
  m0 : w.cell? ⟨d.M, 0, none⟩ = some (.pointer (some ⟨d.X, 0, none⟩))
  m2 : w.cell? ⟨d.M, 2, none⟩ = some (.map (some d.r))
  map : ∃ Lr, MapAt w d.r Lr ∧ getL Lr p.h = some (.pointer (some ⟨d.T, 0, none⟩))
  ver : VerG w p.lo d.X d.rx p.last p.Lv p.vs
/-- what holds of the store about a transaction while it reads and writes. -/
structure Fr (base : Nat) (d : Ids) (p : Par) (F : World → Prop) : Prop where
  need : ∀ w, F w → Need w d p
  keep : ∀ a b, Ow base a b → F a → F b
/-- block T is an open transaction: its buffer W, its view Q, its time t. -/
def TxT (w : World) (T W Q : Nat) (t : Int) : Prop := w.heap[T]? = some (.cells #[.int .i64 1, .int .i64 0, .int .i64 0, .int .i64 t, .pointer (some ⟨W, 0, none⟩), .pointer (some ⟨Q, 0, none⟩)] 149 (0, 0))
/-- a store with an open transaction, whose blocks are q, whose buffer is L, behind n reads. -/
structure Su (w : World) (base : Nat) (d : Ids) (p : Par) (F : World → Prop) (q : Int → List UInt8) (L : List (Int × Value)) (n : Nat) : Prop where
  env : F w
  tx : TxT w d.T d.W d.Q p.t
  buf : BufAt w d.W d.rw L
  keys : ∀ x ∈ L, 0 ≤ x.1 ∧ x.1 < 258
  blk : ∀ b, 0 ≤ b → b < 258 → BlkT w L (p.vs b) p.t b (q b)
  vw : VwT w base d.Q d.X d.W d.V p.t n
  sp : SpV w base d.V n
  high : base ≤ d.Q ∧ base ≤ d.V ∧ base ≤ d.rw
theorem ow_rt {base : Nat} {w w' : World} {T : List Nat} (h : Chg T w w') (hT : Rt w base T) : Ow base w w' := by
  refine ⟨T, h, fun x hx => ⟨(hT x hx).1, fun cs t fr hh => ?_⟩⟩
  obtain ⟨_, cs', t', fr', h1, h2⟩ := hT x hx
  rw [hh] at h1
  cases h1
  exact h2
section
variable {base : Nat} {d : Ids} {p : Par} {F : World → Prop}
theorem Su.keep {w w' : World} {q : Int → List UInt8} {L : List (Int × Value)} {n : Nat} (hf : Fr base d p F) (h : Su w base d p F q L n) (hc : Chg [] w w') : Su w' base d p F q L n :=
  ⟨hf.keep w w' (Ow.of_chg hc) h.env, hc.heap h.tx (by simp), h.buf.keep hc (by simp) (by simp), h.keys, fun b hb hb' => (h.blk b hb hb').keep hc, h.vw.keep hc (Av.nil _ _), h.sp.keep0 hc, h.high⟩
set_option maxRecDepth 100000 in
theorem dead_gen (w : World) (h : Need w d p) : Calls Tryz.prog 36 #[.pointer (some ⟨d.P, 0, none⟩)] w fun e w' => e = .returned (.bool false) ∧ w = w' := by
  have c0 := h.p0
  have c9 := h.p9
  clear h
  go_enter Tryz.func36, Tryz.ntmps36
  go_wp2_with fail
  go_ret
  exact ⟨rfl, rfl⟩
set_option maxRecDepth 100000 in
theorem tgone_gen (w : World) (h : Need w d p) : Calls Tryz.prog 73 #[.pointer (some ⟨d.M, 0, none⟩)] w fun e w' => e = .returned (.bool false) ∧ w = w' := by
  have c0 := h.m0
  clear h
  go_enter Tryz.func73, Tryz.ntmps73
  go_wp2_with fail
  go_ret
  exact ⟨rfl, rfl⟩
set_option maxRecDepth 100000 in
theorem topen_gen (w : World) (h : Need w d p) (hT : TxT w d.T d.W d.Q p.t) : Calls Tryz.prog 82 #[.pointer (some ⟨d.M, 0, none⟩), .int .i64 p.h] w fun e w' => e = .returned (.pointer (some ⟨d.T, 0, none⟩)) ∧ w = w' := by
  have HG := Lib.hid (tgone_gen w h)
  have c2 := h.m2
  obtain ⟨Lr, hm, hg⟩ := h.map
  have hl : (Instr.lookup 134 (.map (some d.r)) (.int .i64 p.h) true).run Tryz.prog w = .ok (.tuple #[.pointer (some ⟨d.T, 0, none⟩), .bool true]) w := by
    have := lookup178 hm p.h true
    rw [hg] at this
    exact this
  have t0 : w.cell? ⟨d.T, 0, none⟩ = some (.int .i64 1) := cell_is hT 0 rfl
  clear h hT hg hm
  go_enter Tryz.func82, Tryz.ntmps82
  go_wp2_with fail
  refine HG.out.mono ?_
  rintro e w1 ⟨rfl, rfl⟩
  go_wp2_with fail
  go_ret
  exact ⟨rfl, rfl⟩
set_option maxRecDepth 100000 in
theorem twrite_gen (w : World) {q : Int → List UInt8} {L : List (Int × Value)} {n E eo cp D o c : Nat} {b : Int} {l : List UInt8} (hf : Fr base d p F) (h : Su w base d p F q L n)
    (e0 : w.cell? ⟨E, eo, none⟩ = some (.int .i64 b)) (e1 : w.cell? ⟨E, eo + 1, none⟩ = some (.slice (some ⟨D, o, none⟩) 40 c)) (hb : Bs w (some ⟨D, o, none⟩) l) (hl : l.length = 40) (h0 : 0 ≤ b) (h1 : b < 258) (hroom : L.length ≤ 15) :
    Calls Tryz.prog 39 #[.pointer (some ⟨d.M, 0, none⟩), .int .i64 p.h, .slice (some ⟨E, eo, none⟩) 1 cp] w fun e w' =>
    ∃ g c', e = .returned (.int .i64 0) ∧ Chg [d.rw] w w' ∧ BufAt w' d.W d.rw (putL L b (.slice (some ⟨g, 0, none⟩) 40 c')) ∧ Bs w' (some ⟨g, 0, none⟩) l ∧ Bt w' g := by
  have t4 : w.cell? ⟨d.T, 4, none⟩ = some (.pointer (some ⟨d.W, 0, none⟩)) := cell_is h.tx 4 rfl
  have HO := Lib.hid (topen_gen w (hf.need _ h.env) h.tx)
  have HW := Lib.hid (wwrite_one w (cp := cp) h.buf e0 e1 hb hl h0 h1 hroom)
  clear h e0 e1 hb hl
  go_enter Tryz.func39, Tryz.ntmps39
  go_wp2_with fail
  refine HO.out.mono ?_
  rintro e w1 ⟨rfl, rfl⟩
  go_wp2_with fail
  refine HW.out.mono ?_
  rintro e w1 ⟨g, c', rfl, k, hbf, hbs, hbt⟩
  go_wp2_with fail
  go_ret
  exact ⟨g, c', rfl, k, hbf, hbs, hbt⟩
theorem putL_keys {L : List (Int × Value)} {b : Int} {v : Value} {P : Int → Prop} (h : ∀ x ∈ L, P x.1) (hb : P b) : ∀ x ∈ putL L b v, P x.1 := by
  induction L with
  | nil => intro x hx; simp [putL] at hx; subst hx; exact hb
  | cons a l ih =>
    intro x hx
    simp only [putL] at hx
    split at hx
    · rcases List.mem_cons.1 hx with rfl | hx
      · exact hb
      · exact h x (List.mem_cons_of_mem _ hx)
    · rcases List.mem_cons.1 hx with rfl | hx
      · exact h _ List.mem_cons_self
      · exact ih (fun y hy => h y (List.mem_cons_of_mem _ hy)) x hx
set_option maxRecDepth 100000 in
theorem swrite_gen (w : World) {q : Int → List UInt8} {L : List (Int × Value)} {n E eo cp D o c : Nat} {b : Int} {l : List UInt8} (hf : Fr base d p F) (h : Su w base d p F q L n)
    (e0 : w.cell? ⟨E, eo, none⟩ = some (.int .i64 b)) (e1 : w.cell? ⟨E, eo + 1, none⟩ = some (.slice (some ⟨D, o, none⟩) 40 c)) (hb : Bs w (some ⟨D, o, none⟩) l) (hl : l.length = 40) (h0 : 0 ≤ b) (h1 : b < 258) (hroom : L.length ≤ 15) :
    Calls Tryz.prog 12 #[.pointer (some ⟨d.P, 0, none⟩), .int .i64 p.h, .slice (some ⟨E, eo, none⟩) 1 cp] w fun e w' =>
    ∃ v, e = .returned (.int .i64 0) ∧ Ow base w w' ∧ Su w' base d p F (putQ q b l) (putL L b v) n := by
  have c5 := (hf.need _ h.env).p5
  have HO := Lib.hid (dead_gen w (hf.need _ h.env))
  have HW := Lib.hid (twrite_gen w (cp := cp) hf h e0 e1 hb hl h0 h1 hroom)
  have HS := Lib.hid h
  have HF := Lib.hid hf
  clear h e0 e1 hb hf
  go_enter Tryz.func12, Tryz.ntmps12
  go_wp2_with fail
  refine HO.out.mono ?_
  rintro e w1 ⟨rfl, rfl⟩
  go_wp2_with fail
  refine HW.out.mono ?_
  rintro e w1 ⟨g, c', rfl, kc, hbf, hbs, hbt⟩
  go_wp2_with fail
  go_ret
  have h := HS.out
  have hr : ∀ {x : Nat} {cs : Array Value} {t : TypeId}, w.heap[x]? = some (.cells cs t (0, 0)) → x ∉ [d.rw] := fun hx => by simpa using (map_cells h.buf.2 hx).symm
  have how : Ow base w w1 := by
    refine ⟨[d.rw], kc, fun x hx => ?_⟩
    rw [List.mem_singleton] at hx
    subst hx
    exact ⟨h.high.2.2, fun cs t fr hh => absurd rfl (map_cells h.buf.2 hh)⟩
  refine ⟨_, rfl, how, HF.out.keep _ _ how h.env, kc.heap h.tx (hr h.tx), hbf, putL_keys (P := fun x => 0 ≤ x ∧ x < 258) h.keys ⟨h0, h1⟩, fun x hx hx' => ?_, h.vw.keep kc (av_map h.buf.2 _), h.sp.keep kc (av_map h.buf.2 _), h.high⟩
  unfold putQ
  by_cases hxb : x = b
  · rw [if_pos hxb]
    exact Or.inr ⟨g, c', by rw [getL_put, if_pos hxb], hbs, hl, hbt⟩
  · rw [if_neg hxb]
    rcases h.blk x hx hx' with ⟨hg, hz⟩ | ⟨g2, c2, hg, hb2, hl2, cs, ht2⟩
    · exact Or.inl ⟨by rw [getL_put, if_neg hxb]; exact hg, hz⟩
    · exact Or.inr ⟨g2, c2, by rw [getL_put, if_neg hxb]; exact hg, hb2.chgT kc (hr ht2), hl2, cs, kc.heap ht2 (hr ht2)⟩
end
end Go.Proofs.YtnelakpdmjfolaaGreat
namespace Go.Proofs.YtnelakpdmjfolaaGreat
open Go.RowKit Go.Lib

set_option maxRecDepth 100000 in
theorem rmay_min (w : World) : Calls Tryz.prog 44 #[.agg #[.int .i64 8, .int .i64 96]] w fun e w' => e = .returned (.bool true) ∧ Chg [] w w' := by
  go_enter Tryz.func44, Tryz.ntmps44
  go_wp2_with fail
  go_ret
  exact ⟨rfl, Chg.alloc _ _⟩
set_option maxRecDepth 100000 in
theorem rsplit_min (w : World) : Calls Tryz.prog 103 #[.agg #[.int .i64 8, .int .i64 96]] w fun e w' => e = .returned (.tuple #[.agg #[.int .i64 0, .int .i64 3, .int .i64 6, .int .i64 7], .int .i64 0]) ∧ Chg [] w w' := by
  go_enter Tryz.func103, Tryz.ntmps103
  go_wp2_with fail
  obtain ⟨g0, g1⟩ := two_new w (.cells #[.int .i64 8, .int .i64 96] 24) (.cells #[.int .i64 0, .int .i64 0, .int .i64 0, .int .i64 0] 172)
  have hc := chg_two w (.cells #[.int .i64 8, .int .i64 96] 24) (.cells #[.int .i64 0, .int .i64 0, .int .i64 0, .int .i64 0] 172)
  generalize (w.alloc (.cells #[.int .i64 8, .int .i64 96] 24)).alloc (.cells #[.int .i64 0, .int .i64 0, .int .i64 0, .int .i64 0] 172) = w1 at *
  refine (rmay_min w1).mono ?_
  rintro e w2 ⟨rfl, hc2⟩
  have k0 := hc2.heap g0 (by simp)
  have k1 := hc2.heap g1 (by simp)
  have hc3 := hc.then hc2
  have a0 : w2.cell? ⟨w.heap.size, 0, none⟩ = some (.int .i64 8) := cell_is k0 0 rfl
  have a1 : w2.cell? ⟨w.heap.size, 1, none⟩ = some (.int .i64 96) := cell_is k0 1 rfl
  clear g0 g1 k0 hc hc2
  have b0 := unfrozen k1 0
  have b1 := unfrozen k1 1
  have b2 := unfrozen k1 2
  have b3 := unfrozen k1 3
  have c0 := cell_is k1 0 rfl
  have c1 := cell_is k1 1 rfl
  have c2 := cell_is k1 2 rfl
  have c3 := cell_is k1 3 rfl
  go_wp2_with fail
  refine bodyPost_ret (v := .tuple #[.agg #[.int .i64 0, .int .i64 3, .int .i64 6, .int .i64 7], .int .i64 0]) (by simp [results, Tryz.results103, go_sem, c0, c1, c2, c3]) rfl ?_
  exact ⟨rfl, (((hc3.new_set (by omega) _ _).new_set (by omega) _ _).new_set (by omega) _ _).new_set (by omega) _ _⟩
set_option maxRecDepth 100000 in
theorem rcap_min (w : World) : Calls Tryz.prog 59 #[.agg #[.int .i64 8, .int .i64 96]] w fun e w' => e = .returned (.int .i64 258) ∧ Chg [] w w' := by
  go_enter Tryz.func59, Tryz.ntmps59
  go_wp2_with fail
  have g0 := heap_new w (.cells #[.int .i64 8, .int .i64 96] 24)
  have hc : Chg [] w (w.alloc (.cells #[.int .i64 8, .int .i64 96] 24)) := Chg.alloc _ _
  generalize w.alloc (.cells #[.int .i64 8, .int .i64 96] 24) = w1 at *
  refine (rsplit_min w1).mono ?_
  rintro e w2 ⟨rfl, hc2⟩
  have k0 := hc2.heap g0 (by simp)
  have hc3 := hc.then hc2
  have a1a : ∀ o, (w2.alloc o).cell? ⟨w.heap.size, 1, none⟩ = some (.int .i64 96) := fun o => cell_is (heap_old k0) 1 rfl
  clear g0 k0 hc hc2
  go_wp2_with fail
  go_ret
  exact ⟨rfl, hc3.then_alloc _⟩
set_option maxRecDepth 100000 in
theorem rmap_new (w : World) : Calls Tryz.prog 102 #[.int .i64 258] w fun e w' => ∃ Y, e = .returned (.tuple #[.pointer (some ⟨Y, 0, none⟩), .int .i64 0]) ∧ Chg [] w w' ∧ w.heap.size ≤ Y := by
  go_enter Tryz.func102, Tryz.ntmps102
  go_wp2_with fail
  go_ret2
  exact ⟨_, rfl, Chg.alloc _ _, Nat.le_refl _⟩
/-- block G is a reference's manager that has begun n times. -/
def RmAt (w : World) (G Y : Nat) (a b c : Value) (n : Int) : Prop :=
  w.heap[G]? = some (.cells #[.pointer (some ⟨Y, 0, none⟩), .int .i64 16, a, b, .int .i64 n, c, .slice none 0 0, .slice none 0 0, .int .i64 0, .int .i64 0, .int .i64 0, .int .i64 0, .bool false, .int .i64 258, .int .i64 0] 171 (0, 0))
set_option maxRecDepth 100000 in
theorem rm_new (w : World) : Calls Tryz.prog 58 #[.int .i64 258, .int .i64 0] w fun e w' => ∃ G Y, e = .returned (.tuple #[.pointer (some ⟨G, 0, none⟩), .int .i64 0]) ∧ Chg [] w w' ∧ RmAt w' G Y (.slice none 0 0) (.slice none 0 0) (.slice none 0 0) 0 ∧ w.heap.size ≤ G := by
  go_enter Tryz.func58, Tryz.ntmps58
  go_wp2_with fail
  refine (rmap_new w).mono ?_
  rintro e w1 ⟨Y, rfl, k1, hY⟩
  go_wp2_with fail
  go_ret2
  exact ⟨_, Y, rfl, k1.then_alloc _, heap_new w1 _, k1.size⟩
end Go.Proofs.YtnelakpdmjfolaaGreat
namespace Go.Proofs.YtnelakpdmjfolaaGreat
open Go.RowKit Go.Lib

theorem step_append_run {P : Program} {ops : Array Oper} {o : Oper} {a : Act} {w : World} {K : Act → World → Prop} {Q : Exit → Act → World → Prop} {E : Prop} (hgd : o.guard = none) (s x : Operand) (t t' : TypeId)
    (ho : o.op = .call { callee := .builtin .append, args := #[s, x], argTypes := #[t, t'] }) (v y : Value) (hs : a.eval s = v) (hx : a.eval x = y) (v' : Value) (w' : World) (hr : (Builtin.append_ #[t, t'] o.type #[v, y]).run P w = .ok v' w') (h : K (a.put o.dst v') w') :
    if Region.wanted o (yielded ops a.tmps) = true then Oper.wp P o a w K Q else E := by
  have hw : Region.wanted o (yielded ops a.tmps) = true := by simp [Region.wanted, hgd]
  rw [if_pos hw]
  unfold Oper.wp execOp
  simp only [ho, resolve, invoke, builtin, Sem.run_bind, Sem.run_pure, Result.andThen_ok, List.map_toArray, List.map_cons, List.map_nil, hs, hx, hr]
  exact h
theorem ty62 : Tryz.prog.underlying 47 = some (.slice 3) := by kernel_rfl
theorem inf3 : (Tryz.prog.info? 3).map (fun i => (i.zero, i.size, i.bytes)) = some (some (.int .i64 0), 1, 8) := by kernel_rfl
/-- nothing is put behind an empty row of ints. -/
theorem append_none (w : World) (z : Nat) (ty : TypeId) : (Builtin.append_ #[47, 47] ty #[.slice (some ⟨z, 0, none⟩) 0 0, .slice none 0 0]).run Tryz.prog w = .ok (.slice (some ⟨z, 0, none⟩) 0 0) w := by
  obtain ⟨i, hi0, hz, hz1, hz2⟩ := info_parts inf3
  simp [Builtin.append_, run_underlying ty62, sizeOf, typeInfo, hi0, Builtin.lenOf, Builtin.firstCells, storeCells]
theorem own0 (w : World) (z : Nat) (hz : w.heap[z]? = some (.cells #[] 3 (0, 0))) : w.ownsRow 0 3 1 (.slice (some ⟨z, 0, none⟩) 0 0) 0 [] :=
  ⟨rfl, Or.inr ⟨z, 0, #[], rfl, Nat.zero_le _, hz, Nat.le_refl _, by unfold maxLen; omega, rfl, rfl⟩⟩
/-- an int is put behind an empty row of ints. -/
theorem step_append_int {ops : Array Oper} {o : Oper} {a : Act} {w : World} {K : Act → World → Prop} {Q : Exit → Act → World → Prop} {E : Prop} (hgd : o.guard = none) (s x : Operand)
    (ho : o.op = .call { callee := .builtin .append, args := #[s, x], argTypes := #[47, 47] }) (z b c : Nat) (k : Int) (hs : a.eval s = .slice (some ⟨z, 0, none⟩) 0 0) (hz : w.heap[z]? = some (.cells #[] 3 (0, 0)))
    (hx : a.eval x = .slice (some ⟨b, 0, none⟩) 1 c) (hb : w.cell? ⟨b, 0, none⟩ = some (.int .i64 k))
    (h : ∀ g cap w', Chg [z] w w' → K (a.put o.dst (.slice (some ⟨g, 0, none⟩) 1 cap)) w') :
    if Region.wanted o (yielded ops a.tmps) = true then Oper.wp Tryz.prog o a w K Q else E := by
  obtain ⟨i, hi0, hz0, hz1, hz2⟩ := info_parts inf3
  refine step_append_lies w hgd s x 47 ho 0 3 i _ 1 8 ty62 hi0 hz0 hz1 hz2 rfl (by decide) _ 0 [] hs (own0 w z hz) ⟨b, 0, none⟩ 1 c [.int .i64 k] hx rfl ?_ ?_ (by decide) (by unfold maxLen; omega) (by omega) (Nat.zero_le _) _ rfl ?_
  · intro j u hu
    rw [add_lit, Nat.zero_add]
    match j with
    | 0 => cases hu; exact hb
    | j + 1 => simp at hu
  · intro u hu
    simp at hu
    subst hu
    rfl
  · intro g cap w' _ h3 _ _
    exact h g cap w' (Chg.of_grown h3)
theorem wpList_append_int {ops : Array Oper} {rest : List Oper} {o : Oper} {a : Act} {w : World} {Q : Exit → Act → World → Prop} (hgd : o.guard = none) (s x : Operand)
    (ho : o.op = .call { callee := .builtin .append, args := #[s, x], argTypes := #[47, 47] }) (z b c : Nat) (k : Int) (hs : a.eval s = .slice (some ⟨z, 0, none⟩) 0 0) (hz : w.heap[z]? = some (.cells #[] 3 (0, 0)))
    (hx : a.eval x = .slice (some ⟨b, 0, none⟩) 1 c) (hb : w.cell? ⟨b, 0, none⟩ = some (.int .i64 k))
    (h : ∀ g cap w', Chg [z] w w' → wpList Tryz.prog ops Q rest (a.put o.dst (.slice (some ⟨g, 0, none⟩) 1 cap)) w') : wpList Tryz.prog ops Q (o :: rest) a w := by
  obtain ⟨i, hi0, hz0, hz1, hz2⟩ := info_parts inf3
  refine wpList_append_lies w hgd s x 47 ho 0 3 i _ 1 8 ty62 hi0 hz0 hz1 hz2 rfl (by decide) _ 0 [] hs (own0 w z hz) ⟨b, 0, none⟩ 1 c [.int .i64 k] hx rfl ?_ ?_ (by decide) (by unfold maxLen; omega) (by omega) (Nat.zero_le _) _ rfl ?_
  · intro j u hu
    rw [add_lit, Nat.zero_add]
    match j with
    | 0 => cases hu; exact hb
    | j + 1 => simp at hu
  · intro u hu
    simp at hu
    subst hu
    rfl
  · intro g cap w' _ h3 _ _
    exact h g cap w' (Chg.of_grown h3)
end Go.Proofs.YtnelakpdmjfolaaGreat
namespace Go.Proofs.YtnelakpdmjfolaaGreat
open Go.RowKit Go.Lib

theorem Ow.new_set {base : Nat} {w w' : World} (h : Ow base w w') {g : Nat} (hg : w.heap.size ≤ g) (i : Nat) (v : Value) : Ow base w (w'.setCell ⟨g, i, none⟩ v) := by
  obtain ⟨T, h1, h2⟩ := h
  exact ⟨T, h1.new_set hg i v, h2⟩
theorem Av.row {w : World} {g : Nat} {cs : Array Value} {t : TypeId} {fr : Nat × Nat} (h : w.heap[g]? = some (.cells cs t fr)) {ts : List Nat} (ht : t ∉ ts) : Av w [g] ts := fun x hx cs' t' fr' hh => by
  rw [List.mem_singleton] at hx; subst hx; rw [h] at hh; cases hh; exact ht
end Go.Proofs.YtnelakpdmjfolaaGreat
namespace Go.Proofs.YtnelakpdmjfolaaGreat
open Go.RowKit Go.Lib

/-- block M is a manager. -/
def MgrG (w : World) (M X B r : Nat) (qv : Value) (out num bas last given : Int) (rd : Bool) : Prop :=
  w.heap[M]? = some (.cells #[.pointer (some ⟨X, 0, none⟩), .pointer (some ⟨B, 0, none⟩), .map (some r), qv, .int .i64 out, .int .i64 num, .int .i64 bas, .int .i64 last, .int .i64 given, .bool rd] 136 (0, 0))
set_option maxRecDepth 100000 in
theorem waiting_none (w : World) {M X B r cq : Nat} {pq : Option Addr} {out num bas last given : Int} {rd : Bool} (h : MgrG w M X B r (.slice pq 0 cq) out num bas last given rd) : Calls Tryz.prog 87 #[.pointer (some ⟨M, 0, none⟩)] w fun e w' => e = .returned (.slice none 0 0) ∧ w = w' := by
  have m3 : w.cell? ⟨M, 3, none⟩ = some (.slice pq 0 cq) := cell_is h 3 rfl
  clear h
  go_enter Tryz.func87, Tryz.ntmps87
  go_wp2_with fail
  go_loopw [2, 4, 5, 11] (fun v _ _ i wr => i = .int .i64 0 ∧ w = wr ∧ v = .slice none 0 0) (fun _ _ _ _ _ => 0)
  case atStart => exact ⟨rfl, rfl, rfl⟩
  case round =>
    obtain ⟨rfl, rfl, rfl⟩ := hrel
    go_wp2_with fail
    go_ret
    exact ⟨rfl, rfl⟩
set_option maxRecDepth 100000 in
set_option maxHeartbeats 4000000 in
theorem may_none (w : World) {M X B r cq lo rx T W rw Q V n base : Nat} {pq : Option Addr} {out num bas last given lastv t : Int} {vs : Int → List (Int × List UInt8)} {L : List (Int × Value)} {D : Int → List UInt8}
    (h : MgrG w M X B r (.slice pq 0 cq) out num bas last given false) (hg : given < 1099511627776) (hv : VerG w lo X rx lastv [] vs) (hT : TxT w T W Q t) (hb : BufAt w W rw L) (hD : BufD w L D) (hk : ∀ x ∈ L, 0 ≤ x.1 ∧ x.1 < 258) (hl : L.length ≤ 16)
    (hV : VwT w base Q X W V t n) (hS : SpV w base V n) (hn : n ≤ 16) : Calls Tryz.prog 86 #[.pointer (some ⟨M, 0, none⟩), .pointer (some ⟨T, 0, none⟩)] w fun e w' => e = .returned (.int .i64 0) ∧ Chg [] w w' := by
  have m9 : w.cell? ⟨M, 9, none⟩ = some (.bool false) := cell_is h 9 rfl
  have m0 : w.cell? ⟨M, 0, none⟩ = some (.pointer (some ⟨X, 0, none⟩)) := cell_is h 0 rfl
  have m8 : w.cell? ⟨M, 8, none⟩ = some (.int .i64 given) := cell_is h 8 rfl
  have t3 : w.cell? ⟨T, 3, none⟩ = some (.int .i64 t) := cell_is hT 3 rfl
  have t4 : w.cell? ⟨T, 4, none⟩ = some (.pointer (some ⟨W, 0, none⟩)) := cell_is hT 4 rfl
  have t5 : w.cell? ⟨T, 5, none⟩ = some (.pointer (some ⟨Q, 0, none⟩)) := cell_is hT 5 rfl
  have kd : Chg [] w w.drew := (Chg.refl [] w).drew
  have HW := Lib.hid (waiting_none w.drew (kd.heap h (by simp)))
  have HV := Lib.hid (vset_any w.drew (hV.keep kd (Av.nil _ _)) (hS.keep0 kd) hn)
  have hS2 : ∀ wx, Chg [] w wx → wx.cell? ⟨M, 0, none⟩ = some (.pointer (some ⟨X, 0, none⟩)) ∧ wx.cell? ⟨T, 3, none⟩ = some (.int .i64 t) ∧ wx.cell? ⟨T, 4, none⟩ = some (.pointer (some ⟨W, 0, none⟩)) ∧ wx.cell? ⟨T, 5, none⟩ = some (.pointer (some ⟨Q, 0, none⟩)) :=
    fun wx k => ⟨k.cell m0 (by simp), k.cell t3 (by simp), k.cell t4 (by simp), k.cell t5 (by simp)⟩
  have HS2 := Lib.hid hS2
  have HBf := Lib.hid hb
  have HD := Lib.hid hD
  have HK := Lib.hid hk
  have HVr := Lib.hid hv
  clear h hT hb hD hk hV hS hv hS2
  go_enter Tryz.func86, Tryz.ntmps86
  go_upto_region 3 with fail
  go_region_held3 (fun wx => wx.cell? ⟨M, 0, none⟩ = some (.pointer (some ⟨X, 0, none⟩)) ∧ wx.cell? ⟨T, 3, none⟩ = some (.int .i64 t) ∧ wx.cell? ⟨T, 4, none⟩ = some (.pointer (some ⟨W, 0, none⟩)) ∧ wx.cell? ⟨T, 5, none⟩ = some (.pointer (some ⟨Q, 0, none⟩)))
    (first
      | (with_reducible exact HS2.out _ kF) | (with_reducible exact HS2.out _ k3) | (with_reducible exact HS2.out _ k2) | (exact HS2.out _ kd))
    (first
      | (go_at_call 87; refine HW.out.mono ?_; rintro e w1 ⟨rfl, rfl⟩)
      | (go_at_call 127; refine HV.out.mono ?_; rintro e w2 ⟨U, loU, rfl, k2', hU, lU⟩; have k2 := kd.then k2')
      | (go_at_call 128; refine (bset_any w2 (HBf.out.keep k2 (by simp) (by simp)) (HD.out.keep k2) HK.out hl).mono ?_; rintro e w3 ⟨U2, loU2, most, rfl, k3', hU2, lU2⟩; have k3 := k2.then k3'; have hU3 := hU.keep0 k3')
      | (go_at_call 126; refine (check_none w3 (HVr.out.keep k3) hU3 hU2 (by omega) (by omega)).mono ?_; rintro e w4 ⟨rfl, k4⟩; have kF := k3.then k4))
  all_goals
    have m84 := kF.cell m8 (by simp)
    have hng : ¬ (given ≥ 1099511627776) := by omega
    clear HW HV HS2 HBf HD HK HVr hU hU2 hU3
    go_wp2_with fail
    go_ret
    exact ⟨rfl, kF⟩
theorem own_some {w : World} {base e size n : Nat} {v : Value} {xs : List Value} (h : w.ownsRow base e size v n xs) (hn : 0 < n) : ∃ g c, v = .slice (some ⟨g, 0, none⟩) n c := by
  rcases h.2 with ⟨_, h0⟩ | ⟨g, cap, cur, rfl, _⟩
  · omega
  · exact ⟨g, cap, rfl⟩
/-- block T is a transaction that waits: its time k. -/
def TxW (w : World) (T W Q : Nat) (k t : Int) : Prop := w.heap[T]? = some (.cells #[.int .i64 2, .int .i64 k, .int .i64 0, .int .i64 t, .pointer (some ⟨W, 0, none⟩), .pointer (some ⟨Q, 0, none⟩)] 149 (0, 0))
set_option maxRecDepth 100000 in
set_option maxHeartbeats 4000000 in
theorem tcommit_one (w : World) {d : Ids} {p : Par} {cq n base loq : Nat} {pq : Option Addr} {out num bas last given : Int} {L : List (Int × Value)} {D : Int → List UInt8}
    (hN : Need w d p) (hv0 : p.Lv = []) (h : MgrG w d.M d.X d.B d.r (.slice pq 0 cq) out num bas last given false) (hg0 : 0 ≤ given) (hg : given < 1099511627776) (hq : w.ownsRow loq 3 1 (.slice pq 0 cq) 0 []) (hlq : loq ≤ w.heap.size) (hT : TxT w d.T d.W d.Q p.t) (hb : BufAt w d.W d.rw L) (hD : BufD w L D) (hk : ∀ x ∈ L, 0 ≤ x.1 ∧ x.1 < 258) (hl : L.length ≤ 16) (hl0 : 0 < L.length)
    (hV : VwT w base d.Q d.X d.W d.V p.t n) (hS : SpV w base d.V n) (hn : n ≤ 16) : Calls Tryz.prog 40 #[.pointer (some ⟨d.M, 0, none⟩), .int .i64 p.h] w fun e w' =>
    ∃ g c, e = .returned (.int .i64 0) ∧ Chg (d.M :: d.T :: (Value.slice pq 0 cq).ownBlock.toList) w w' ∧ MgrG w' d.M d.X d.B d.r (.slice (some ⟨g, 0, none⟩) 1 c) out num bas last (given + 1) false ∧ w'.ownsRow loq 3 1 (.slice (some ⟨g, 0, none⟩) 1 c) 1 [.int .i64 p.h] ∧ TxW w' d.T d.W d.Q (given + 1) p.t := by
  have HO := Lib.hid (topen_gen w hN hT)
  have t4 : w.cell? ⟨d.T, 4, none⟩ = some (.pointer (some ⟨d.W, 0, none⟩)) := cell_is hT 4 rfl
  have HLn := Lib.hid (blen_any w hb hD hk (by omega))
  have hver := hN.ver
  rw [hv0] at hver
  have HMy := Lib.hid (fun w1 (k : Chg [] w w1) => may_none w1 (k.heap h (by simp)) hg (hver.keep k) (k.heap hT (by simp)) (hb.keep k (by simp) (by simp)) (hD.keep k) hk hl (hV.keep k (Av.nil _ _)) (hS.keep0 k) hn)
  have hMT : d.M ≠ d.T := heap_ne h hT (by simp)
  have HM := Lib.hid h
  have HT := Lib.hid hT
  have HQ := Lib.hid hq
  have hl0i : ¬ (L.length : Int) = 0 := by omega
  have HL0 := Lib.hid hl0i
  clear hN hb hD hV hS hver h hT hq
  go_enter Tryz.func40, Tryz.ntmps40
  go_wp2_with fail
  refine HO.out.mono ?_
  rintro e w1 ⟨rfl, rfl⟩
  go_wp2_with fail
  refine HLn.out.mono ?_
  rintro e w1 ⟨rfl, k1⟩
  go_wp2_with fail
  refine (HMy.out w1 k1).mono ?_
  rintro e w2 ⟨rfl, k2'⟩
  have k2 := k1.then k2'
  have hM2 := k2.heap HM.out (by simp)
  have hT2 := k2.heap HT.out (by simp)
  have hq2 := ownsRow_av HQ.out k2 (Av.nil _ _)
  have hs2 := k2.size
  have m8 : w2.cell? ⟨d.M, 8, none⟩ = some (.int .i64 given) := cell_is hM2 8 rfl
  have f8 := unfrozen hM2 8
  have m3 : w2.cell? ⟨d.M, 3, none⟩ = some (.slice pq 0 cq) := cell_is hM2 3 rfl
  have f3 := unfrozen hM2 3
  have t0 : w2.cell? ⟨d.T, 0, none⟩ = some (.int .i64 1) := cell_is hT2 0 rfl
  have t1 : w2.cell? ⟨d.T, 1, none⟩ = some (.int .i64 0) := cell_is hT2 1 rfl
  have ft0 := unfrozen hT2 0
  have ft1 := unfrozen hT2 1
  have hgw : wrap64 (given + 1) = given + 1 := by unfold wrap64; omega
  have kS := ((((Chg.refl [] w2).mono (T := [d.M, d.T]) (fun x hx _ => by cases hx)).then_set (g := d.M) (fun _ => by simp) 8 (.int .i64 (given + 1))).then_set (g := d.T) (fun _ => by simp) 0 (.int .i64 2)).then_set (g := d.T) (fun _ => by simp) 1 (.int .i64 (given + 1))
  have hMS : MgrG (((w2.setCell ⟨d.M, 8, none⟩ (.int .i64 (given + 1))).setCell ⟨d.T, 0, none⟩ (.int .i64 2)).setCell ⟨d.T, 1, none⟩ (.int .i64 (given + 1))) d.M d.X d.B d.r (.slice pq 0 cq) out num bas last (given + 1) false :=
    heap_set_ne (heap_set_ne (heap_set hM2 8 _ rfl) hMT _ _) hMT _ _
  have hTS : TxW (((w2.setCell ⟨d.M, 8, none⟩ (.int .i64 (given + 1))).setCell ⟨d.T, 0, none⟩ (.int .i64 2)).setCell ⟨d.T, 1, none⟩ (.int .i64 (given + 1))) d.T d.W d.Q (given + 1) p.t :=
    heap_set (heap_set (heap_set_ne hT2 hMT.symm _ _) 0 _ rfl) 1 _ rfl
  have avS : Av w2 [d.M, d.T] [3] := fun x hx cs t fr hh => by
    simp at hx
    rcases hx with rfl | rfl
    · rw [show w2.heap[d.M]? = _ from hM2] at hh; cases hh; simp
    · rw [show w2.heap[d.T]? = _ from hT2] at hh; cases hh; simp
  have hqS := ownsRow_av hq2 kS avS
  clear HMy HLn HO k1 k2' t4
  go_upto_region 14 with fail
  have hsS : loq ≤ (((w2.setCell ⟨d.M, 8, none⟩ (.int .i64 (given + 1))).setCell ⟨d.T, 0, none⟩ (.int .i64 2)).setCell ⟨d.T, 1, none⟩ (.int .i64 (given + 1))).heap.size := by have := kS.size; omega
  clear m8 f8 m3 f3 t0 t1 ft0 ft1 avS hq2
  generalize ((w2.setCell ⟨d.M, 8, none⟩ (.int .i64 (given + 1))).setCell ⟨d.T, 0, none⟩ (.int .i64 2)).setCell ⟨d.T, 1, none⟩ (.int .i64 (given + 1)) = wS at *
  have m3 : wS.cell? ⟨d.M, 3, none⟩ = some (.slice pq 0 cq) := cell_is hMS 3 rfl
  go_wp2_with (at_builtin; refine wpList_append_lit rfl (.tmp 59) (.tmp 61) 47 3 rfl ty62 inf3 rfl (by decide) loq wS [.int .i64 p.h] 1 rfl (.slice pq 0 cq) 0 [] rfl hqS (by omega) (by decide) hsS (k := 0) rfl (by simp [Value.oneCell']) rfl 1 rfl ?_; intro v' w4 hap; obtain ⟨g4, c4, rfl⟩ := own_some hap.1 (by decide); have k4 : Chg (Value.slice pq 0 cq).ownBlock.toList wS w4 := Chg.own hap.2.2 (fun g hg _ => by have hg2 : (Value.slice pq 0 cq).ownBlock = some g := hg; simp [hg2]); have hM4 := k4.heap hMS (own_block_ne hqS hMS (by decide)); have m34 := cell_is hM4 3 rfl; have f34 := unfrozen hM4 3)
  have hT4 := k4.heap hTS (own_block_ne hqS hTS (by decide))
  have hset := Chg.set w4 d.M 3 (.slice (some ⟨g4, 0, none⟩) (0 + 1) c4)
  have hq4 := ownsRow_av hap.1 hset (Av.row hM4 (by decide))
  go_ret
  refine ⟨g4, c4, rfl, ?_, heap_set hM4 3 _ rfl, hq4, heap_set_ne hT4 hMT.symm _ _⟩
  refine (((k2.mono (fun x hx _ => by cases hx)).then (kS.mono ?_)).then (k4.mono ?_)).then (hset.mono ?_)
  · intro x hx _; simp only [List.mem_cons, List.not_mem_nil, or_false] at hx; rcases hx with rfl | rfl <;> simp
  · intro x hx _; exact List.mem_cons_of_mem _ (List.mem_cons_of_mem _ hx)
  · intro x hx _; rw [List.mem_singleton] at hx; subst hx; exact List.mem_cons_self
end Go.Proofs.YtnelakpdmjfolaaGreat
namespace Go.Proofs.YtnelakpdmjfolaaGreat
open Go.RowKit Go.Lib

set_option maxRecDepth 100000 in
theorem scommit_one (w : World) {d : Ids} {p : Par} {P : World → Prop} (hN : Need w d p) (hC : Calls Tryz.prog 40 #[.pointer (some ⟨d.M, 0, none⟩), .int .i64 p.h] w fun e w' => e = .returned (.int .i64 0) ∧ P w') :
    Calls Tryz.prog 13 #[.pointer (some ⟨d.P, 0, none⟩), .int .i64 p.h] w fun e w' => e = .returned (.int .i64 0) ∧ P w' := by
  have c5 := hN.p5
  have HO := Lib.hid (dead_gen w hN)
  have HC := Lib.hid hC
  clear hN hC
  go_enter Tryz.func13, Tryz.ntmps13
  go_wp2_with fail
  refine HO.out.mono ?_
  rintro e w1 ⟨rfl, rfl⟩
  go_wp2_with fail
  refine HC.out.mono ?_
  rintro e w1 ⟨rfl, hp⟩
  have HPp := Lib.hid hp
  clear hp
  go_wp2_with fail
  go_ret
  exact ⟨rfl, HPp.out⟩
theorem ty100 : Tryz.prog.underlying 92 = some (.slice 128) := by kernel_rfl
theorem inf189 : (Tryz.prog.info? 128).map (fun i => (i.zero, i.size, i.bytes)) = some (some (.agg #[.int .i64 0, .slice none 0 0]), 2, 32) := by kernel_rfl
/-- a transaction's part is put behind none, as a step of a region that draws. -/
theorem step_append_tx {ops : Array Oper} {o : Oper} {a : Act} {w : World} {K : Act → World → Prop} {Q : Exit → Act → World → Prop} {E : Prop} (hgd : o.guard = none) (s x : Operand)
    (ho : o.op = .call { callee := .builtin .append, args := #[s, x], argTypes := #[92, 92] }) (b c : Nat) (u0 u1 : Value) (hs : a.eval s = .slice none 0 0)
    (hx : a.eval x = .slice (some ⟨b, 0, none⟩) 1 c) (c0 : w.cell? ⟨b, 0, none⟩ = some u0) (c1 : w.cell? ⟨b, 1, none⟩ = some u1) (h1 : u0.oneCell' = true ∧ u1.oneCell' = true)
    (h : ∀ g cap w', w'.ownsRow w.heap.size 128 2 (.slice (some ⟨g, 0, none⟩) 1 cap) 1 [u0, u1] → Chg [] w w' → K (a.put o.dst (.slice (some ⟨g, 0, none⟩) 1 cap)) w') :
    if Region.wanted o (yielded ops a.tmps) = true then Oper.wp Tryz.prog o a w K Q else E := by
  obtain ⟨i, hi0, hz, hz1, hz2⟩ := info_parts inf189
  refine step_append_lies w hgd s x 92 ho w.heap.size 128 i _ 2 32 ty100 hi0 hz hz1 hz2 rfl (by decide) _ 0 [] hs (World.ownsRow_nil _ _ _ _) ⟨b, 0, none⟩ 1 c [u0, u1] hx rfl ?_ ?_ (by decide) (by unfold maxLen; omega) (by omega) (Nat.le_refl _) _ rfl ?_
  · intro j u hu
    rw [add_lit, Nat.zero_add]
    match j with
    | 0 => cases hu; exact c0
    | 1 => cases hu; exact c1
    | j + 2 => simp at hu
  · intro u hu
    simp at hu
    rcases hu with rfl | rfl
    · exact h1.1
    · exact h1.2
  · intro g cap w' h2 h3 _ _
    exact h g cap w' h2 (Chg.of_grown0 h3)
/-- one transaction's part: its time k, its puts l. -/
def TxOne (w : World) (lo : Nat) (v : Value) (k : Int) (l : List (Int × List UInt8)) : Prop :=
  ∃ g c cs pv, v = .slice (some ⟨g, 0, none⟩) 1 c ∧ 1 ≤ c ∧ lo ≤ g ∧ w.heap[g]? = some (.cells cs 128 (0, 0)) ∧ cs[0]? = some (.int .i64 k) ∧ cs[1]? = some pv ∧ PutsAt w lo pv l
theorem TxOne.keep {w w' : World} {lo : Nat} {v : Value} {k : Int} {l : List (Int × List UInt8)} (h : TxOne w lo v k l) (hc : Chg [] w w') : TxOne w' lo v k l := by
  obtain ⟨g, c, cs, pv, h1, h2, h3, h4, h5, h6, h7⟩ := h
  exact ⟨g, c, cs, pv, h1, h2, h3, hc.heap h4 (by simp), h5, h6, h7.keep0 hc⟩
theorem tx_of_own {w : World} {b lo g c : Nat} {k : Int} {pv : Value} {l : List (Int × List UInt8)} (ho : w.ownsRow b 128 2 (.slice (some ⟨g, 0, none⟩) 1 c) 1 [.int .i64 k, pv]) (hb : lo ≤ b) (hp : PutsAt w lo pv l) : TxOne w lo (.slice (some ⟨g, 0, none⟩) 1 c) k l := by
  rcases ho.2 with ⟨e, _⟩ | ⟨g', cap, cur, e, hA, hg, hc1, hc2, hc3, ht⟩
  · cases e
  · cases e
    have h0 : cur[0]? = some (.int .i64 k) := by
      have : (cur.toList.take (1 * 2))[0]? = some (.int .i64 k) := by rw [ht]; rfl
      rwa [List.getElem?_take_of_lt (by omega), Array.getElem?_toList] at this
    have h1 : cur[1]? = some pv := by
      have : (cur.toList.take (1 * 2))[1]? = some pv := by rw [ht]; rfl
      rwa [List.getElem?_take_of_lt (by omega), Array.getElem?_toList] at this
    exact ⟨g, c, cur, pv, rfl, hc1, by omega, hg, h0, h1, hp⟩
set_option maxRecDepth 100000 in
set_option maxHeartbeats 4000000 in
theorem waiting_one (w : World) {M X B r cq gq T W rw Q : Nat} {out num bas last given k t h : Int} {rd : Bool} {Lr L : List (Int × Value)} {D : Int → List UInt8} (hM : MgrG w M X B r (.slice (some ⟨gq, 0, none⟩) 1 cq) out num bas last given rd)
    (hq : w.cell? ⟨gq, 0, none⟩ = some (.int .i64 h)) (hr : MapAt w r Lr) (hg : getL Lr h = some (.pointer (some ⟨T, 0, none⟩))) (hT : TxW w T W Q k t) (hb : BufAt w W rw L) (hD : BufD w L D) (hk : ∀ x ∈ L, 0 ≤ x.1 ∧ x.1 < 258) (hl : L.length ≤ 1000) :
    Calls Tryz.prog 87 #[.pointer (some ⟨M, 0, none⟩)] w fun e w' => ∃ v, e = .returned v ∧ Chg [] w w' ∧ TxOne w' w.heap.size v k (putsL L D) := by
  have m3 : w.cell? ⟨M, 3, none⟩ = some (.slice (some ⟨gq, 0, none⟩) 1 cq) := cell_is hM 3 rfl
  have m2 : w.cell? ⟨M, 2, none⟩ = some (.map (some r)) := cell_is hM 2 rfl
  have t1 : w.cell? ⟨T, 1, none⟩ = some (.int .i64 k) := cell_is hT 1 rfl
  have t4 : w.cell? ⟨T, 4, none⟩ = some (.pointer (some ⟨W, 0, none⟩)) := cell_is hT 4 rfl
  have hlook : (Instr.lookup 134 (.map (some r)) (.int .i64 h) false).run Tryz.prog w = .ok (.pointer (some ⟨T, 0, none⟩)) w := by
    have := lookup178 hr h false
    rw [hg] at this
    exact this
  have kd : Chg [] w w.drew := (Chg.refl [] w).drew
  have HP := Lib.hid (bputs_any w.drew (hb.keep kd (by simp) (by simp)) (hD.keep kd) hk hl)
  have t1d : w.drew.cell? ⟨T, 1, none⟩ = some (.int .i64 k) := t1
  have t4d : w.drew.cell? ⟨T, 4, none⟩ = some (.pointer (some ⟨W, 0, none⟩)) := t4
  clear hM hr hg hT hb hD hk
  go_enter Tryz.func87, Tryz.ntmps87
  go_wp2_with fail
  go_loopw [2, 4, 5, 11] (fun v _ _ i wr => (i = .int .i64 0 ∧ w = wr ∧ v = .slice none 0 0) ∨ (i = .int .i64 1 ∧ Chg [] w wr ∧ TxOne wr w.heap.size v k (putsL L D))) (fun _ _ _ i _ => 1 - (intOf i).toNat)
  case atStart => exact Or.inl ⟨rfl, rfl, rfl⟩
  case round =>
    rcases hrel with ⟨rfl, rfl, rfl⟩ | ⟨rfl, kr, hv⟩
    · go_wp2_with fail
      go_region_law
        (first
          | (go_simp; go_at_call 124; refine HP.out.mono ?_; rintro e w6 ⟨pv, rfl, k6, hp6⟩; obtain ⟨pb, cb, rfl, hcb⟩ := own_form hp6.choose_spec.1; have t16 := k6.cell t1d (by simp); have kA : Chg [] w (w6.alloc (.cells #[.int .i64 k, (.slice pb (putsL L D).length cb)] 128)) := (kd.then k6).then_alloc _; have y0 := heap_new w6 (.cells #[.int .i64 k, (.slice pb (putsL L D).length cb)] 128); have hp7 := hp6.keep0 (Chg.alloc (S := []) w6 (.cells #[.int .i64 k, (.slice pb (putsL L D).length cb)] 128)))
          | (refine step_append_tx rfl (.tmp 21) (.tmp 32) rfl w6.heap.size 1 _ _ rfl rfl (cell_is y0 0 rfl) (cell_is y0 1 rfl) ⟨rfl, rfl⟩ ?_; intro g5 cp5 w5 o5 k5))
      all_goals
        have HF := Lib.hid (show Chg [] w w5 ∧ TxOne w5 w.heap.size (.slice (some ⟨g5, 0, none⟩) 1 cp5) k (putsL L D) from by
          refine ⟨kA.then k5, tx_of_own o5 kA.size ?_⟩
          obtain ⟨xs, ho, hx⟩ := hp7.keep0 k5
          exact ⟨xs, own_base ho (kd.size), hx⟩)
        clear kA y0 hp6 hp7 o5 k5 k6
        go_wp2_with fail
        go_roundw
        case rel => exact Or.inr ⟨rfl, HF.out⟩
        case measure => decide
    · go_wp2_with fail
      go_ret
      exact ⟨_, rfl, kr, hv⟩
end Go.Proofs.YtnelakpdmjfolaaGreat
namespace Go.Proofs.YtnelakpdmjfolaaGreat
open Go.RowKit Go.Lib

theorem TxOne.keepA {w w' : World} {T : List Nat} {lo : Nat} {v : Value} {k : Int} {l : List (Int × List UInt8)} (h : TxOne w lo v k l) (hc : Chg T w w') (hT : Av w T [128, 41, 5]) : TxOne w' lo v k l := by
  obtain ⟨g, c, cs, pv, h1, h2, h3, h4, h5, h6, h7⟩ := h
  refine ⟨g, c, cs, pv, h1, h2, h3, hc.heap h4 (hT.ne h4 (by simp)), h5, h6, h7.keep hc (fun x hx cs t fr hh ht => hT x hx cs t fr hh (by simp at ht; simp [ht])) (fun g hg => ?_)⟩
  obtain ⟨_, cs, hb⟩ := h7.block g hg
  exact hT.ne hb (by simp)
theorem TxOne.low {w : World} {lo lo' : Nat} {v : Value} {k : Int} {l : List (Int × List UInt8)} (h : TxOne w lo v k l) (hl : lo' ≤ lo) : TxOne w lo' v k l := by
  obtain ⟨g, c, cs, pv, h1, h2, h3, h4, h5, h6, xs, ho, hx⟩ := h
  exact ⟨g, c, cs, pv, h1, h2, by omega, h4, h5, h6, xs, own_base ho hl, hx⟩
/-- .. opened: the cells of a transaction's part. -/
theorem TxOne.open_ {w : World} {lo : Nat} {v : Value} {k : Int} {l : List (Int × List UInt8)} (h : TxOne w lo v k l) : ∃ g c pb cb, v = .slice (some ⟨g, 0, none⟩) 1 c ∧ 1 ≤ c ∧ lo ≤ g ∧ g < w.heap.size ∧ w.cell? ⟨g, 0, none⟩ = some (.int .i64 k) ∧ w.cell? ⟨g, 1, none⟩ = some (.slice pb l.length cb) ∧ l.length ≤ cb ∧ PutsAt w lo (.slice pb l.length cb) l := by
  obtain ⟨g, c, cs, pv, h1, h2, h3, h4, h5, h6, h7⟩ := h
  obtain ⟨pb, cb, rfl, hcb⟩ := own_form h7.choose_spec.1
  exact ⟨g, c, pb, cb, h1, h2, h3, heap_lt h4, cell_is h4 0 h5, cell_is h4 1 h6, hcb, h7⟩
set_option maxRecDepth 100000 in
set_option maxHeartbeats 1000000 in
theorem form_one (w : World) {lo : Nat} {v : Value} {k : Int} {l : List (Int × List UInt8)} (h : TxOne w lo v k l) (hl : l.length ≤ 32) : Calls Tryz.prog 88 #[v] w fun e w' => e = .returned (.int .i64 1) ∧ Chg [] w w' := by
  obtain ⟨g, c, pb, cb, rfl, -, -, -, c0, c1, hcb, -⟩ := h.open_
  clear h
  go_enter Tryz.func88, Tryz.ntmps88
  go_wp2_with fail
  go_loopw [2, 3, 5, 8] (fun n p _ i wr => (i = .int .i64 0 ∧ n = .int .i64 0 ∧ p = .int .i64 0 ∧ wr = w) ∨ (i = .int .i64 1 ∧ n = .int .i64 1 ∧ Chg [] w wr)) (fun _ _ _ i _ => 1 - (intOf i).toNat)
  case atStart => exact Or.inl ⟨rfl, rfl, rfl, rfl⟩
  case round =>
    rcases hrel with ⟨rfl, rfl, rfl, rfl⟩ | ⟨rfl, rfl, kr⟩
    · have ka : Chg [] wr (wr.alloc (.cells #[.int .i64 k, .slice pb l.length cb] 128)) := Chg.alloc wr _
      go_wp2_with fail
      go_roundw
      case rel => exact Or.inr ⟨rfl, rfl, ka⟩
      case measure => decide
    · go_wp2_with fail
      go_ret
      exact ⟨rfl, kr⟩
set_option maxRecDepth 100000 in
set_option maxHeartbeats 4000000 in
theorem tbatch_one (w : World) {M X B r cq gq : Nat} {num bas last given k : Int} {rd : Bool} {l : List (Int × List UInt8)} (hM : MgrG w M X B r (.slice (some ⟨gq, 0, none⟩) 1 cq) 0 num bas last given rd) (hl : l.length ≤ 32) (hn0 : 0 ≤ num) (hn1 : num ≤ 1000000000000)
    (hW : ∀ w1, Chg [] w w1 → Calls Tryz.prog 87 #[.pointer (some ⟨M, 0, none⟩)] w1 fun e w' => ∃ v, e = .returned v ∧ Chg [] w1 w' ∧ TxOne w' w1.heap.size v k l) :
    Calls Tryz.prog 41 #[.pointer (some ⟨M, 0, none⟩)] w fun e w' => ∃ g c, e = .returned (.tuple #[.agg #[.int .i64 (num + 1), .slice (some ⟨g, 0, none⟩) 1 c], .int .i64 0]) ∧ Chg [M] w w' ∧ MgrG w' M X B r (.slice (some ⟨gq, 0, none⟩) 1 cq) 1 num bas last given rd ∧ TxOne w' w.heap.size (.slice (some ⟨g, 0, none⟩) 1 c) k l := by
  have k0 : Chg [] w (w.alloc (.cells #[.int .i64 0, .slice none 0 0] 94)) := Chg.alloc w _
  have K0 := heap_new w (.cells #[.int .i64 0, .slice none 0 0] 94)
  have hM0 := k0.heap hM (by simp)
  have HW := Lib.hid (hW _ k0)
  have m0 : (w.alloc (.cells #[.int .i64 0, .slice none 0 0] 94)).cell? ⟨M, 0, none⟩ = some (.pointer (some ⟨X, 0, none⟩)) := cell_is hM0 0 rfl
  have m4 : (w.alloc (.cells #[.int .i64 0, .slice none 0 0] 94)).cell? ⟨M, 4, none⟩ = some (.int .i64 0) := cell_is hM0 4 rfl
  have m3 : (w.alloc (.cells #[.int .i64 0, .slice none 0 0] 94)).cell? ⟨M, 3, none⟩ = some (.slice (some ⟨gq, 0, none⟩) 1 cq) := cell_is hM0 3 rfl
  have hgone : ∀ w1 : World, w1.cell? ⟨M, 0, none⟩ = some (.pointer (some ⟨X, 0, none⟩)) → Calls Tryz.prog 73 #[.pointer (some ⟨M, 0, none⟩)] w1 fun e w' => e = .returned (.bool false) ∧ w1 = w' := by
    intro w1 c0
    clear hW HW hM hM0 m0 m4 m3 K0
    go_enter Tryz.func73, Tryz.ntmps73
    go_wp2_with fail
    go_ret
    exact ⟨rfl, rfl⟩
  have HG := Lib.hid (hgone _ m0)
  clear hW hM hgone
  go_enter Tryz.func41, Tryz.ntmps41
  go_wp2_with fail
  generalize w.alloc (.cells #[.int .i64 0, .slice none 0 0] 94) = w1 at *
  generalize hR : w.heap.size = R at *
  refine HG.out.mono ?_
  rintro e w2 ⟨rfl, rfl⟩
  go_wp2_with fail
  refine HW.out.mono ?_
  rintro e w2 ⟨v, rfl, k2, ht⟩
  have hM2 := k2.heap hM0 (by simp)
  have K2 := k2.heap K0 (by simp)
  have HF := Lib.hid (form_one w2 ht hl)
  have kk2 := k0.then k2
  obtain ⟨g, c, pb, cb, rfl, hc1, hlo, -, -, -, -, -⟩ := ht.open_
  have HT := Lib.hid ht
  clear m0 m4 m3 ht hM0 K0 HG HW
  go_wp2_with fail
  refine HF.out.mono ?_
  rintro e w3 ⟨rfl, k3⟩
  have hM3 := k3.heap hM2 (by simp)
  have K3 := k3.heap K2 (by simp)
  have HT3 := Lib.hid (HT.out.keep k3)
  have kk3 := kk2.then k3
  have m4 : w3.cell? ⟨M, 4, none⟩ = some (.int .i64 0) := cell_is hM3 4 rfl
  have f4 := unfrozen hM3 4
  clear hM2 K2 HF HT k3 kk2
  have hMR : M ≠ R := heap_ne hM3 K3 (by simp)
  have kS := Chg.set w3 M 4 (.int .i64 1)
  have hM4 : MgrG (w3.setCell ⟨M, 4, none⟩ (.int .i64 1)) M X B r (.slice (some ⟨gq, 0, none⟩) 1 cq) 1 num bas last given rd := heap_set hM3 4 _ rfl
  have K4 := heap_set_ne K3 hMR.symm 4 (.int .i64 1)
  have HT4 := Lib.hid (HT3.out.keepA kS (Av.row hM3 (by decide)))
  have kk4 : Chg [M] w (w3.setCell ⟨M, 4, none⟩ (.int .i64 1)) := (kk3.mono (fun x hx _ => by cases hx)).then kS
  go_upto_region 9 with fail
  clear kk3 K3 hM3 HT3 m4 f4 kS
  generalize w3.setCell ⟨M, 4, none⟩ (.int .i64 1) = w4 at *
  have n5 : w4.drew.cell? ⟨M, 5, none⟩ = some (.int .i64 num) := cell_is hM4 5 rfl
  have n4 : w4.drew.cell? ⟨M, 4, none⟩ = some (.int .i64 1) := cell_is hM4 4 rfl
  have r0 : w4.drew.cell? ⟨R, 0, none⟩ = some (.int .i64 0) := cell_is K4 0 rfl
  have r1 : w4.drew.cell? ⟨R, 1, none⟩ = some (.slice none 0 0) := cell_is K4 1 rfl
  have z0 : w4.drew.frozen? ⟨R, 0, none⟩ = false := unfrozen K4 0
  have z1 : w4.drew.frozen? ⟨R, 1, none⟩ = false := unfrozen K4 1
  have r0' : w4.cell? ⟨R, 0, none⟩ = some (.int .i64 0) := r0
  have r1' : w4.cell? ⟨R, 1, none⟩ = some (.slice none 0 0) := r1
  have z0' : w4.frozen? ⟨R, 0, none⟩ = false := z0
  have z1' : w4.frozen? ⟨R, 1, none⟩ = false := z1
  have hcl : (1 : Int) ≤ c := by omega
  have hnw : IntKind.i64.wrap (num + 1) = num + 1 := by rw [IntKind.wrap_i64]; omega
  have kR : ∀ a b, Chg [R] w4 ((w4.setCell ⟨R, 0, none⟩ a).setCell ⟨R, 1, none⟩ b).drew := fun a b => (((Chg.refl [R] w4).then_set (fun _ => by simp) 0 a).then_set (fun _ => by simp) 1 b).drew
  have fR : ∀ a b, ((w4.setCell ⟨R, 0, none⟩ a).setCell ⟨R, 1, none⟩ b).drew.cell? ⟨M, 5, none⟩ = some (.int .i64 num) ∧ ((w4.setCell ⟨R, 0, none⟩ a).setCell ⟨R, 1, none⟩ b).drew.cell? ⟨M, 4, none⟩ = some (.int .i64 1) := fun a b => ⟨(kR a b).cell n5 (by simpa using hMR), (kR a b).cell n4 (by simpa using hMR)⟩
  go_region_held3 (fun wx => wx.cell? ⟨M, 5, none⟩ = some (.int .i64 num) ∧ wx.cell? ⟨M, 4, none⟩ = some (.int .i64 1))
    (first | (with_reducible exact ⟨n5, n4⟩) | (with_reducible exact fR _ _))
    (first | (fail))
  all_goals
    have kF := kR (.int .i64 (num + 1)) (.slice (some ⟨g, 0, none⟩) 1 c)
    have K6 : ((w4.setCell ⟨R, 0, none⟩ (.int .i64 (num + 1))).setCell ⟨R, 1, none⟩ (.slice (some ⟨g, 0, none⟩) 1 c)).drew.heap[R]? = some (.cells #[.int .i64 (num + 1), .slice (some ⟨g, 0, none⟩) 1 c] 94 (0, 0)) := heap_set (heap_set K4 0 _ rfl) 1 _ rfl
    have hM6 := kF.heap hM4 (by simpa using hMR)
    have HT6 := Lib.hid (HT4.out.keepA kF (Av.row K4 (by decide)))
    have kk6 : Chg [M] w ((w4.setCell ⟨R, 0, none⟩ (.int .i64 (num + 1))).setCell ⟨R, 1, none⟩ (.slice (some ⟨g, 0, none⟩) 1 c)).drew := kk4.trans kF (fun x hx hlt => by rw [List.mem_singleton] at hx; omega)
    have c0 : ((w4.setCell ⟨R, 0, none⟩ (.int .i64 (num + 1))).setCell ⟨R, 1, none⟩ (.slice (some ⟨g, 0, none⟩) 1 c)).drew.cell? ⟨R, 0, none⟩ = some (.int .i64 (num + 1)) := cell_is K6 0 rfl
    have c1 : ((w4.setCell ⟨R, 0, none⟩ (.int .i64 (num + 1))).setCell ⟨R, 1, none⟩ (.slice (some ⟨g, 0, none⟩) 1 c)).drew.cell? ⟨R, 1, none⟩ = some (.slice (some ⟨g, 0, none⟩) 1 c) := cell_is K6 1 rfl
    clear kR fR HT4 r0 r1 z0 z1 r0' r1' z0' z1' n5 n4 K4
    go_wp2_with fail
    refine bodyPost_ret (v := .tuple #[.agg #[.int .i64 (num + 1), .slice (some ⟨g, 0, none⟩) 1 c], .int .i64 0]) (by simp [results, Tryz.results41, go_sem, c0, c1]) rfl ?_
    exact ⟨g, c, rfl, kk6, hM6, HT6.out.low (by rw [hR]; have := k0.size; omega)⟩
end Go.Proofs.YtnelakpdmjfolaaGreat
namespace Go.Proofs.YtnelakpdmjfolaaGreat
open Go.RowKit Go.Lib

/-- the numbers of puts rise. -/
def Rise (l : List (Int × List UInt8)) : Prop := ∀ i (h : i + 1 < l.length), l[i].1 < l[i + 1].1
set_option maxRecDepth 100000 in
set_option maxHeartbeats 4000000 in
theorem order_one (w : World) {lo : Nat} {v : Value} {k : Int} {l : List (Int × List UInt8)} (h : TxOne w lo v k l) (hk0 : 1 ≤ k) (hk1 : k ≤ 1099511627776) (hl0 : 0 < l.length) (hl : l.length ≤ 1000) (hr : Rise l) : Calls Tryz.prog 148 #[v] w fun e w' => e = .returned (.bool true) ∧ Chg [] w w' := by
  obtain ⟨g, c, pb, cb, rfl, -, -, -, c0, c1, hcb, hp⟩ := h.open_
  have HP := Lib.hid hp
  have HR := Lib.hid hr
  have n0 : decide (k ≤ 0) = false := decide_eq_false (by omega)
  have n1 : decide (1099511627776 < k) = false := decide_eq_false (by omega)
  have n2 : ((l.length : Int) == 0) = false := beq_eq_false_iff_ne.2 (by omega)
  have hcbi : (l.length : Int) ≤ cb := by omega
  clear h hp hr
  go_enter Tryz.func148, Tryz.ntmps148
  go_wp2_with fail
  go_loopw [3, 5, 6, 9] (fun s _ _ i wr => (i = .int .i64 0 ∧ s = .int .i64 0 ∧ wr = w) ∨ (i = .int .i64 1 ∧ Chg [] w wr)) (fun _ _ _ i _ => 1 - (intOf i).toNat)
  case atStart => exact Or.inl ⟨rfl, rfl, rfl⟩
  case round =>
    rcases hrel with ⟨rfl, rfl, rfl⟩ | ⟨rfl, kr⟩
    · have ka : Chg [] wr (wr.alloc (.cells #[.int .i64 k, .slice pb l.length cb] 128)) := Chg.alloc wr _
      have A0 := heap_new wr (.cells #[.int .i64 k, .slice pb l.length cb] 128)
      go_wp2_with fail
      generalize hzz : wr.heap.size = z at *
      generalize wr.alloc (.cells #[.int .i64 k, .slice pb l.length cb] 128) = w2 at *
      go_loopw [6] (fun i wz => ∃ j : Nat, 1 ≤ j ∧ j ≤ l.length ∧ i = .int .i64 j ∧ Chg [] w2 wz) (fun i _ => l.length - (intOf i).toNat)
      case atStart => exact ⟨1, by omega, by omega, rfl, Chg.refl _ _⟩
      case round =>
        obtain ⟨j, hj1, hj, rfl, kz⟩ := hrel
        rename World => wz
        have b1 : wz.cell? ⟨z, 1, none⟩ = some (.slice pb l.length cb) := cell_is (kz.heap A0 (by simp)) 1 rfl
        by_cases hlt : j < l.length
        · obtain ⟨q, rfl⟩ : ∃ q, j = q + 1 := ⟨j - 1, by omega⟩
          have hP2 := (HP.out.keep0 ka).keep0 kz
          obtain ⟨gp, cap, gd, cd, hv, -, d1, -, -, -, -⟩ := hP2.get (q + 1) hlt
          obtain ⟨gp', cap', gd', cd', hv', -, d0, -, -, -, -⟩ := hP2.get q (by omega)
          cases hv
          cases hv'
          have hlt2 := HR.out q hlt
          have hnle : decide ((l[q + 1]).1 ≤ (l[q]'(by omega)).1) = false := decide_eq_false (by omega)
          have hwq : IntKind.i64.wrap (((q + 1 : Nat) : Int) - 1) = q := by rw [IntKind.wrap_i64]; omega
          have hqi : (q : Int) < l.length := by omega
          have hqi2 : ((q + 1 : Nat) : Int) < l.length := by omega
          clear hP2 HP HR hlt2
          generalize (l[q + 1]).1 = x at *
          generalize (l[q]'(by omega)).1 = y at *
          go_wp2_with fail
          go_quiet (fail)
          go_wp2_with fail
          exact ⟨⟨q + 2, by omega, by omega, by go_num, kz.drewN nq⟩, by simp [intOf]; omega⟩
        · obtain rfl : j = l.length := by omega
          go_wp2_with fail
          exact ⟨Or.inr ⟨rfl, ka.then kz⟩, by decide⟩
    · go_wp2_with fail
      go_ret
      exact ⟨rfl, kr⟩
set_option maxRecDepth 100000 in
set_option maxHeartbeats 1000000 in
theorem blocks_one (w : World) {lo : Nat} {v : Value} {k num : Int} {l : List (Int × List UInt8)} (h : TxOne w lo v k l) (hl : l.length ≤ 1000) : Calls Tryz.prog 149 #[.agg #[.int .i64 num, v]] w fun e w' => e = .returned (.int .i64 ((1 + l.length : Nat) : Int)) ∧ Chg [] w w' := by
  have k0 : Chg [] w (w.alloc (.cells #[.int .i64 num, v] 94)) := Chg.alloc w _
  have K0 := heap_new w (.cells #[.int .i64 num, v] 94)
  obtain ⟨g, c, pb, cb, rfl, -, -, -, c0, c1, hcb, -⟩ := (h.keep k0).open_
  have b1 : (w.alloc (.cells #[.int .i64 num, .slice (some ⟨g, 0, none⟩) 1 c] 94)).cell? ⟨w.heap.size, 1, none⟩ = some (.slice (some ⟨g, 0, none⟩) 1 c) := cell_is K0 1 rfl
  clear h K0
  go_enter Tryz.func149, Tryz.ntmps149
  go_wp2_with fail
  generalize w.alloc (.cells #[.int .i64 num, .slice (some ⟨g, 0, none⟩) 1 c] 94) = w1 at *
  go_loopw [3, 5, 9] (fun n _ i wr => (i = .int .i64 0 ∧ n = .int .i64 1 ∧ wr = w1) ∨ (i = .int .i64 1 ∧ n = .int .i64 ((1 + l.length : Nat) : Int) ∧ Chg [] w1 wr)) (fun _ _ i _ => 1 - (intOf i).toNat)
  case atStart => exact Or.inl ⟨rfl, rfl, rfl⟩
  case round =>
    rcases hrel with ⟨rfl, rfl, rfl⟩ | ⟨rfl, rfl, kr⟩
    · have ka : Chg [] wr (wr.alloc (.cells #[.int .i64 k, .slice pb l.length cb] 128)) := Chg.alloc wr _
      go_wp2_with fail
      go_roundw
      case rel => exact Or.inr ⟨rfl, by go_num, ka⟩
      case measure => decide
    · go_wp2_with fail
      go_ret
      exact ⟨rfl, k0.then kr⟩
set_option maxRecDepth 100000 in
theorem bput_ok (w : World) {b : Int} {pd : Option Addr} {cd : Nat} (h0 : 0 ≤ b) (h1 : b < 258) : Calls Tryz.prog 151 #[.agg #[.int .i64 b, .slice pd 40 cd]] w fun e w' => e = .returned (.bool true) ∧ Chg [] w w' := by
  have kc : Chg [] w (w.alloc (.cells #[.int .i64 b, .slice pd 40 cd] 41)) := Chg.alloc w _
  have n0 : decide (0 ≤ b) = true := decide_eq_true h0
  have n1 : decide (b ≤ 1048576) = true := decide_eq_true (by omega)
  go_enter Tryz.func151, Tryz.ntmps151
  go_wp2_with fail
  go_ret
  exact ⟨rfl, kc⟩
set_option maxRecDepth 100000 in
theorem bcheck1_ok (w : World) {b : Int} {pd : Option Addr} {cd : Nat} (h0 : 0 ≤ b) (h1 : b < 258) : Calls Tryz.prog 150 #[.agg #[.int .i64 b, .slice pd 40 cd]] w fun e w' => e = .returned (.bool false) ∧ Chg [] w w' := by
  have kc : Chg [] w (w.alloc (.cells #[.int .i64 b, .slice pd 40 cd] 41)) := Chg.alloc w _
  go_enter Tryz.func150, Tryz.ntmps150
  go_wp2_with fail
  refine (bput_ok _ h0 h1).mono ?_
  rintro e w2 ⟨rfl, k2⟩
  go_wp2_with fail
  go_ret
  exact ⟨rfl, kc.then k2⟩
set_option maxRecDepth 100000 in
theorem apply1_ok (w : World) {b : Int} {pd : Option Addr} {cd : Nat} : Calls Tryz.prog 114 #[.agg #[.int .i64 b, .slice pd 40 cd]] w fun e w' => e = .returned (.bool false) ∧ Chg [] w w' := by
  have kc : Chg [] w (w.alloc (.cells #[.int .i64 b, .slice pd 40 cd] 41)) := Chg.alloc w _
  go_enter Tryz.func114, Tryz.ntmps114
  go_wp2_with fail
  go_ret
  exact ⟨rfl, kc⟩
set_option maxRecDepth 100000 in
set_option maxHeartbeats 1000000 in
/-- IndexFunc over puts, by a function that says no. -/
theorem idxputs_200 (w : World) {lo cb : Nat} {pb : Option Addr} {l : List (Int × List UInt8)} (hp : PutsAt w lo (.slice pb l.length cb) l) (hk : ∀ x ∈ l, 0 ≤ x.1 ∧ x.1 < 258) (hl : l.length ≤ 1000) : Calls Tryz.prog 137 #[.slice pb l.length cb, .func (.func 150) #[] #[]] w fun e w' => e = .returned (.int .i64 (-1)) ∧ Chg [] w w' := by
  have hG : ∀ (w1 : World) (b : Int) (pd : Option Addr) (cd : Nat), 0 ≤ b → b < 258 → Calls Tryz.prog 150 #[.agg #[.int .i64 b, .slice pd 40 cd]] w1 fun e w' => e = .returned (.bool false) ∧ Chg [] w1 w' := fun w1 b pd cd h0 h1 => bcheck1_ok w1 h0 h1
  have HG := Lib.hid hG
  have HP := Lib.hid hp
  have HK := Lib.hid hk
  have hcb : l.length ≤ cb := by obtain ⟨pa, c, e, h⟩ := own_form hp.choose_spec.1; cases e; exact h
  clear hG hp hk
  go_enter Tryz.func137, Tryz.ntmps137
  go_wp2_with fail
  go_loopw [5, 8] (fun _ i wr => ∃ j : Nat, j ≤ l.length ∧ i = .int .i64 j ∧ Chg [] w wr) (fun _ i _ => l.length - (intOf i).toNat)
  case atStart => exact ⟨0, by omega, rfl, Chg.refl _ _⟩
  case round =>
    obtain ⟨j, hj, rfl, kr⟩ := hrel
    by_cases hlt : j < l.length
    · obtain ⟨g, cap, gd, cd, hv, -, d0, d1, -, -, -⟩ := (HP.out.keep0 kr).get j hlt
      cases hv
      have hb := HK.out l[j] (List.getElem_mem hlt)
      have HB := Lib.hid (HG.out wr l[j].1 (some ⟨gd, 0, none⟩) cd hb.1 hb.2)
      clear hb
      generalize (l[j]).1 = x at *
      go_wp2_with fail
      refine HB.out.mono ?_
      rintro e w2 ⟨rfl, k2⟩
      go_wp2_with fail
      go_roundw
      case rel => exact ⟨j + 1, by omega, by simp, kr.then k2⟩
      case measure => simp [intOf]; omega
    · obtain rfl : j = l.length := by omega
      go_wp2_with fail
      go_ret
      exact ⟨rfl, kr⟩
set_option maxRecDepth 100000 in
theorem contputs_200 (w : World) {lo cb : Nat} {pb : Option Addr} {l : List (Int × List UInt8)} (hp : PutsAt w lo (.slice pb l.length cb) l) (hk : ∀ x ∈ l, 0 ≤ x.1 ∧ x.1 < 258) (hl : l.length ≤ 1000) : Calls Tryz.prog 113 #[.slice pb l.length cb, .func (.func 150) #[] #[]] w fun e w' => e = .returned (.bool false) ∧ Chg [] w w' := by
  have HI := Lib.hid (idxputs_200 w hp hk hl)
  clear hp hk
  go_enter Tryz.func113, Tryz.ntmps113
  go_wp2_with fail
  refine HI.out.mono ?_
  rintro e w2 ⟨rfl, k⟩
  go_wp2_with fail
  go_ret
  exact ⟨rfl, k⟩
set_option maxRecDepth 100000 in
set_option maxHeartbeats 1000000 in
/-- IndexFunc over puts, by a function that says no. -/
theorem idxputs_164 (w : World) {lo cb : Nat} {pb : Option Addr} {l : List (Int × List UInt8)} (hp : PutsAt w lo (.slice pb l.length cb) l) (hk : ∀ x ∈ l, 0 ≤ x.1 ∧ x.1 < 258) (hl : l.length ≤ 1000) : Calls Tryz.prog 137 #[.slice pb l.length cb, .func (.func 114) #[] #[]] w fun e w' => e = .returned (.int .i64 (-1)) ∧ Chg [] w w' := by
  have hG : ∀ (w1 : World) (b : Int) (pd : Option Addr) (cd : Nat), 0 ≤ b → b < 258 → Calls Tryz.prog 114 #[.agg #[.int .i64 b, .slice pd 40 cd]] w1 fun e w' => e = .returned (.bool false) ∧ Chg [] w1 w' := fun w1 _ _ _ _ _ => apply1_ok w1
  have HG := Lib.hid hG
  have HP := Lib.hid hp
  have HK := Lib.hid hk
  have hcb : l.length ≤ cb := by obtain ⟨pa, c, e, h⟩ := own_form hp.choose_spec.1; cases e; exact h
  clear hG hp hk
  go_enter Tryz.func137, Tryz.ntmps137
  go_wp2_with fail
  go_loopw [5, 8] (fun _ i wr => ∃ j : Nat, j ≤ l.length ∧ i = .int .i64 j ∧ Chg [] w wr) (fun _ i _ => l.length - (intOf i).toNat)
  case atStart => exact ⟨0, by omega, rfl, Chg.refl _ _⟩
  case round =>
    obtain ⟨j, hj, rfl, kr⟩ := hrel
    by_cases hlt : j < l.length
    · obtain ⟨g, cap, gd, cd, hv, -, d0, d1, -, -, -⟩ := (HP.out.keep0 kr).get j hlt
      cases hv
      have hb := HK.out l[j] (List.getElem_mem hlt)
      have HB := Lib.hid (HG.out wr l[j].1 (some ⟨gd, 0, none⟩) cd hb.1 hb.2)
      clear hb
      generalize (l[j]).1 = x at *
      go_wp2_with fail
      refine HB.out.mono ?_
      rintro e w2 ⟨rfl, k2⟩
      go_wp2_with fail
      go_roundw
      case rel => exact ⟨j + 1, by omega, by simp, kr.then k2⟩
      case measure => simp [intOf]; omega
    · obtain rfl : j = l.length := by omega
      go_wp2_with fail
      go_ret
      exact ⟨rfl, kr⟩
set_option maxRecDepth 100000 in
theorem contputs_164 (w : World) {lo cb : Nat} {pb : Option Addr} {l : List (Int × List UInt8)} (hp : PutsAt w lo (.slice pb l.length cb) l) (hk : ∀ x ∈ l, 0 ≤ x.1 ∧ x.1 < 258) (hl : l.length ≤ 1000) : Calls Tryz.prog 113 #[.slice pb l.length cb, .func (.func 114) #[] #[]] w fun e w' => e = .returned (.bool false) ∧ Chg [] w w' := by
  have HI := Lib.hid (idxputs_164 w hp hk hl)
  clear hp hk
  go_enter Tryz.func113, Tryz.ntmps113
  go_wp2_with fail
  refine HI.out.mono ?_
  rintro e w2 ⟨rfl, k⟩
  go_wp2_with fail
  go_ret
  exact ⟨rfl, k⟩
end Go.Proofs.YtnelakpdmjfolaaGreat
namespace Go.Proofs.YtnelakpdmjfolaaGreat
open Go.RowKit Go.Lib

set_option maxRecDepth 100000 in
set_option maxHeartbeats 1000000 in
theorem rise_ok (w : World) {lo cb : Nat} {pb : Option Addr} {l : List (Int × List UInt8)} (hp : PutsAt w lo (.slice pb l.length cb) l) (hr : Rise l) (hl0 : 0 < l.length) (hl : l.length ≤ 1000) : Calls Tryz.prog 111 #[.slice pb l.length cb] w fun e w' => e = .returned (.bool true) ∧ Chg [] w w' := by
  have HP := Lib.hid hp
  have HR := Lib.hid hr
  have n2 : decide (0 < (l.length : Int)) = true := decide_eq_true (by omega)
  clear hp hr
  go_enter Tryz.func111, Tryz.ntmps111
  go_wp2_with fail
  go_loopw [3] (fun i wz => ∃ j : Nat, 1 ≤ j ∧ j ≤ l.length ∧ i = .int .i64 j ∧ Chg [] w wz) (fun i _ => l.length - (intOf i).toNat)
  case atStart => exact ⟨1, by omega, by omega, rfl, Chg.refl _ _⟩
  case round =>
    obtain ⟨j, hj1, hj, rfl, kz⟩ := hrel
    rename World => wz
    by_cases hlt : j < l.length
    · obtain ⟨q, rfl⟩ : ∃ q, j = q + 1 := ⟨j - 1, by omega⟩
      have hP2 := HP.out.keep0 kz
      obtain ⟨gp, cap, gd, cd, hv, hcap, d1, -, -, -, -⟩ := hP2.get (q + 1) hlt
      obtain ⟨gp', cap', gd', cd', hv', -, d0, -, -, -, -⟩ := hP2.get q (by omega)
      cases hv
      cases hv'
      have hlt2 := HR.out q hlt
      have hnle : decide ((l[q + 1]).1 ≤ (l[q]'(by omega)).1) = false := decide_eq_false (by omega)
      have hwq : IntKind.i64.wrap (((q + 1 : Nat) : Int) - 1) = q := by rw [IntKind.wrap_i64]; omega
      have hqi : (q : Int) < l.length := by omega
      have hqi2 : ((q + 1 : Nat) : Int) < l.length := by omega
      clear hP2 HP HR hlt2
      generalize (l[q + 1]).1 = x at *
      generalize (l[q]'(by omega)).1 = y at *
      go_wp2_with fail
      go_quiet (fail)
      go_wp2_with fail
      exact ⟨⟨q + 2, by omega, by omega, by go_num, kz.drewN nq⟩, by simp [intOf]; omega⟩
    · obtain rfl : j = l.length := by omega
      go_wp2_with fail
      go_ret
      exact ⟨rfl, kz⟩
theorem ty265 : Tryz.prog.underlying 194 = some (.slice 196) := by kernel_rfl
theorem inf267 : (Tryz.prog.info? 196).map (fun i => (i.zero, i.size, i.bytes)) = some (some (.agg #[.int .i64 0, .slice none 0 0]), 2, 32) := by kernel_rfl
/-- a version is put behind others, as a step of a region that draws. -/
theorem step_append_ver {ops : Array Oper} {o : Oper} {a : Act} {w : World} {K : Act → World → Prop} {Q : Exit → Act → World → Prop} {E : Prop} (hgd : o.guard = none) (s x : Operand)
    (ho : o.op = .call { callee := .builtin .append, args := #[s, x], argTypes := #[194, 194] }) (base : Nat) (v : Value) (n : Nat) (xs : List Value) (hs : a.eval s = v) (hown : w.ownsRow base 196 2 v n xs) (b c : Nat) (u0 u1 : Value)
    (hx : a.eval x = .slice (some ⟨b, 0, none⟩) 1 c) (c0 : w.cell? ⟨b, 0, none⟩ = some u0) (c1 : w.cell? ⟨b, 1, none⟩ = some u1) (h1 : u0.oneCell' = true ∧ u1.oneCell' = true) (hn : n ≤ 1000000) (hbase : base ≤ w.heap.size)
    (h : ∀ g cap w', w'.ownsRow base 196 2 (.slice (some ⟨g, 0, none⟩) (n + 1) cap) (n + 1) (xs ++ [u0, u1]) → Chg v.ownBlock.toList w w' → (v.ownBlock = some g ∨ g = w.heap.size) → K (a.put o.dst (.slice (some ⟨g, 0, none⟩) (n + 1) cap)) w') :
    if Region.wanted o (yielded ops a.tmps) = true then Oper.wp Tryz.prog o a w K Q else E := by
  obtain ⟨i, hi0, hz, hz1, hz2⟩ := info_parts inf267
  refine step_append_lies w hgd s x 194 ho base 196 i _ 2 32 ty265 hi0 hz hz1 hz2 rfl (by decide) v n xs hs hown ⟨b, 0, none⟩ 1 c [u0, u1] hx rfl ?_ ?_ (by decide) (by unfold maxLen; omega) (by omega) hbase _ rfl ?_
  · intro j u hu
    rw [add_lit, Nat.zero_add]
    match j with
    | 0 => cases hu; exact c0
    | 1 => cases hu; exact c1
    | j + 2 => simp at hu
  · intro u hu
    simp at hu
    rcases hu with rfl | rfl
    · exact h1.1
    · exact h1.2
  · intro g cap w' h2 h3 h4 _
    refine h g cap w' h2 ?_ h4
    cases hv : v.ownBlock with
    | none => rw [hv] at h3; exact Chg.of_grown0 h3
    | some k => rw [hv] at h3; exact Chg.of_grown h3
/-- .. in a list. -/
theorem wpList_append_ver {ops : Array Oper} {rest : List Oper} {o : Oper} {a : Act} {w : World} {Q : Exit → Act → World → Prop} (hgd : o.guard = none) (s x : Operand)
    (ho : o.op = .call { callee := .builtin .append, args := #[s, x], argTypes := #[194, 194] }) (base : Nat) (v : Value) (n : Nat) (xs : List Value) (hs : a.eval s = v) (hown : w.ownsRow base 196 2 v n xs) (b c : Nat) (u0 u1 : Value)
    (hx : a.eval x = .slice (some ⟨b, 0, none⟩) 1 c) (c0 : w.cell? ⟨b, 0, none⟩ = some u0) (c1 : w.cell? ⟨b, 1, none⟩ = some u1) (h1 : u0.oneCell' = true ∧ u1.oneCell' = true) (hn : n ≤ 1000000) (hbase : base ≤ w.heap.size)
    (h : ∀ g cap w', w'.ownsRow base 196 2 (.slice (some ⟨g, 0, none⟩) (n + 1) cap) (n + 1) (xs ++ [u0, u1]) → Chg v.ownBlock.toList w w' → (v.ownBlock = some g ∨ g = w.heap.size) → wpList Tryz.prog ops Q rest (a.put o.dst (.slice (some ⟨g, 0, none⟩) (n + 1) cap)) w') : wpList Tryz.prog ops Q (o :: rest) a w := by
  obtain ⟨i, hi0, hz, hz1, hz2⟩ := info_parts inf267
  refine wpList_append_lies w hgd s x 194 ho base 196 i _ 2 32 ty265 hi0 hz hz1 hz2 rfl (by decide) v n xs hs hown ⟨b, 0, none⟩ 1 c [u0, u1] hx rfl ?_ ?_ (by decide) (by unfold maxLen; omega) (by omega) hbase _ rfl ?_
  · intro j u hu
    rw [add_lit, Nat.zero_add]
    match j with
    | 0 => cases hu; exact c0
    | 1 => cases hu; exact c1
    | j + 2 => simp at hu
  · intro u hu
    simp at hu
    rcases hu with rfl | rfl
    · exact h1.1
    · exact h1.2
  · intro g cap w' h2 h3 h4 _
    refine h g cap w' h2 ?_ h4
    cases hv : v.ownBlock with
    | none => rw [hv] at h3; exact Chg.of_grown0 h3
    | some k => rw [hv] at h3; exact Chg.of_grown h3
theorem VRow.nil (w : World) (lo : Nat) : VRow w lo (.slice none 0 0) [] := ⟨[], World.ownsRow_nil _ _ _ _, fun i h => by simp at h⟩
/-- .. when a version is put behind them. -/
theorem VRow.push {w w' : World} {lo gb cb n : Nat} {v v' : Value} {l : List (Int × List UInt8)} {k : Int} {b : List UInt8} {xs : List Value} (hx : ∀ i (h : i < l.length), xs[i * 2]? = some (.int .i64 l[i].1) ∧ ∃ g c, xs[i * 2 + 1]? = some (.slice (some ⟨g, 0, none⟩) 40 c) ∧ Bs w (some ⟨g, 0, none⟩) l[i].2 ∧ l[i].2.length = 40 ∧ Bt w g)
    (hl : xs.length = l.length * 2) (hn : n = l.length) (hv : ∀ g, v.ownBlock = some g → ∃ cs, w.heap[g]? = some (.cells cs 196 (0, 0))) (ho : w'.ownsRow lo 196 2 v' (n + 1) (xs ++ [.int .i64 k, .slice (some ⟨gb, 0, none⟩) 40 cb])) (hc : Chg v.ownBlock.toList w w')
    (hb : Bs w (some ⟨gb, 0, none⟩) b) (hb4 : b.length = 40) (hbt : Bt w gb) : VRow w' lo v' (l ++ [(k, b)]) := by
  subst hn
  have hne : ∀ {g}, Bt w g → g ∉ v.ownBlock.toList := by
    rintro g ⟨cs2, h2⟩ hm
    obtain ⟨cs, h1⟩ := hv g (by simpa using hm)
    rw [h1] at h2
    cases h2
  have keepB : ∀ {g}, Bt w g → Bt w' g := fun {g} h => by
    obtain ⟨cs, h2⟩ := id h
    exact ⟨cs, hc.heap h2 (hne h)⟩
  refine ⟨_, by rw [List.length_append]; exact ho, fun i hi => ?_⟩
  by_cases h : i < l.length
  · obtain ⟨h0, g, c, h1, h2, h3, h4⟩ := hx i h
    rw [List.getElem_append_left h]
    exact ⟨by rw [List.getElem?_append_left (by omega)]; exact h0, g, c, by rw [List.getElem?_append_left (by omega)]; exact h1, h2.chgT hc (hne h4), h3, keepB h4⟩
  · have hi2 : i = l.length := by simp at hi; omega
    subst hi2
    have e : (l ++ [(k, b)])[l.length]'(by simp) = (k, b) := by simp
    rw [e]
    exact ⟨by rw [← hl]; simp, gb, cb, by rw [← hl, List.getElem?_append_right (by omega)]; simp, hb.chgT hc (hne hbt), hb4, keepB hbt⟩
theorem getL_memk {L : List (Int × Value)} {k : Int} {v : Value} (h : getL L k = some v) : (k, v) ∈ L := by
  induction L with
  | nil => cases h
  | cons p l ih =>
    simp only [getL] at h
    split at h
    · rename_i hk
      injection h with h
      subst hk h
      exact List.mem_cons_self
    · exact List.mem_cons_of_mem _ (ih h)
/-- the rows of unlike blocks lie apart. -/
def ApL (L : List (Int × Value)) : Prop := ∀ b c v u g, b ≠ c → getL L b = some v → getL L c = some u → v.ownBlock = some g → u.ownBlock ≠ some g
/-- versions with one more of one block. -/
def addV (vs : Int → List (Int × List UInt8)) (b : Int) (x : Int × List UInt8) : Int → List (Int × List UInt8) := fun k => if k = b then vs k ++ [x] else vs k
/-- .. with a transaction's puts at its time. -/
def applyV (vs : Int → List (Int × List UInt8)) (k : Int) (l : List (Int × List UInt8)) : Int → List (Int × List UInt8) := l.foldl (fun vs p => addV vs p.1 (k, p.2)) vs
theorem applyV_take (vs : Int → List (Int × List UInt8)) (k : Int) (l : List (Int × List UInt8)) (j : Nat) (h : j < l.length) : applyV vs k (l.take (j + 1)) = addV (applyV vs k (l.take j)) l[j].1 (k, l[j].2) := by
  unfold applyV
  rw [List.take_succ_eq_append_getElem h, List.foldl_append]
  rfl
theorem addV_len (vs : Int → List (Int × List UInt8)) (b : Int) (x : Int × List UInt8) (c : Int) : (addV vs b x c).length ≤ (vs c).length + 1 := by
  unfold addV
  split <;> simp
theorem applyV_len (vs : Int → List (Int × List UInt8)) (k : Int) (l : List (Int × List UInt8)) (c : Int) : (applyV vs k l c).length ≤ (vs c).length + l.length := by
  induction l generalizing vs with
  | nil => exact Nat.le_refl _
  | cons p l ih =>
    have h1 := ih (addV vs p.1 (k, p.2))
    have h2 := addV_len vs p.1 (k, p.2) c
    show (applyV (addV vs p.1 (k, p.2)) k l c).length ≤ _
    simp only [List.length_cons]
    omega
/-- what of memory may change where versions are added. -/
def Cv (lo X rx : Nat) (w w' : World) : Prop := ∃ T, Chg T w w' ∧ ∀ x ∈ T, x < w.heap.size → x = X ∨ x = rx ∨ (lo ≤ x ∧ ∃ cs, w.heap[x]? = some (.cells cs 196 (0, 0)))
theorem Cv.of_chg {lo X rx : Nat} {w w' : World} (h : Chg [] w w') : Cv lo X rx w w' := ⟨[], h, fun x hx => by cases hx⟩
theorem Cv.trans {lo X rx : Nat} {a b c : World} (h : Cv lo X rx a b) (k : Cv lo X rx b c) : Cv lo X rx a c := by
  obtain ⟨T, h1, h2⟩ := h
  obtain ⟨U, k1, k2⟩ := k
  refine ⟨T ++ U, (h1.mono (fun x hx _ => List.mem_append_left _ hx)).trans k1 (fun x hx _ => List.mem_append_right _ hx), fun x hx hlt => ?_⟩
  by_cases hT : x ∈ T
  · exact h2 x hT hlt
  · rcases List.mem_append.1 hx with h | h
    · exact absurd h hT
    · rcases k2 x h (Nat.lt_of_lt_of_le hlt h1.size) with e | e | ⟨e, cs, hh⟩
      · exact Or.inl e
      · exact Or.inr (Or.inl e)
      · exact Or.inr (Or.inr ⟨e, cs, by rw [← h1.block x hlt hT]; exact hh⟩)
theorem Cv.then {lo X rx : Nat} {a b c : World} (h : Cv lo X rx a b) (k : Chg [] b c) : Cv lo X rx a c := h.trans (Cv.of_chg k)
theorem Cv.size {lo X rx : Nat} {w w' : World} (h : Cv lo X rx w w') : w.heap.size ≤ w'.heap.size := by obtain ⟨T, h1, _⟩ := h; exact h1.size
/-- what holds of other blocks goes on to hold. -/
theorem Cv.av {lo X rx : Nat} {w : World} {T ts : List Nat} {csX : Array Value} {L : List (Int × Value)} (hT : ∀ x ∈ T, x < w.heap.size → x = X ∨ x = rx ∨ (lo ≤ x ∧ ∃ cs, w.heap[x]? = some (.cells cs 196 (0, 0)))) (hX : w.heap[X]? = some (.cells csX 186 (0, 0))) (hr : MapAt w rx L) (h1 : 186 ∉ ts) (h2 : 196 ∉ ts) : Av w T ts := by
  intro x hx cs t fr hh
  rcases hT x hx (heap_lt hh) with rfl | rfl | ⟨-, cs2, h3⟩
  · rw [hX] at hh; cases hh; exact h1
  · exact absurd rfl (map_cells hr hh)
  · rw [h3] at hh; cases hh; exact h2
theorem Cv.map {lo X rx r : Nat} {w : World} {T : List Nat} {csX : Array Value} {L : List (Int × Value)} (hT : ∀ x ∈ T, x < w.heap.size → x = X ∨ x = rx ∨ (lo ≤ x ∧ ∃ cs, w.heap[x]? = some (.cells cs 196 (0, 0)))) (hX : w.heap[X]? = some (.cells csX 186 (0, 0))) (hr : MapAt w r L) (h : r ≠ rx) : r ∉ T := by
  intro hm
  rcases hT r hm hr.lt with e | e | ⟨-, cs2, h3⟩
  · exact map_cells hr hX e
  · exact h e
  · exact map_cells hr h3 rfl
/-- a version is put behind those of one block. -/
theorem VerG.added {wx wA wB : World} {lo X rx g cap gb cb n : Nat} {last b k : Int} {L : List (Int × Value)} {vs : Int → List (Int × List UInt8)} {v : Value} {d : List UInt8} {xs : List Value} (h : VerG wx lo X rx last L vs) (hap : ApL L) (hkeys : ∀ p ∈ L, 0 ≤ p.1 ∧ p.1 < 258) (hgl : getL L b = some v ∨ getL L b = none ∧ v = .slice none 0 0)
    (hown : wx.ownsRow lo 196 2 v n xs) (hx : ∀ i (h : i < (vs b).length), xs[i * 2]? = some (.int .i64 (vs b)[i].1) ∧ ∃ g c, xs[i * 2 + 1]? = some (.slice (some ⟨g, 0, none⟩) 40 c) ∧ Bs wx (some ⟨g, 0, none⟩) (vs b)[i].2 ∧ (vs b)[i].2.length = 40 ∧ Bt wx g) (hn : n = (vs b).length)
    (hA : wA.ownsRow lo 196 2 (.slice (some ⟨g, 0, none⟩) (n + 1) cap) (n + 1) (xs ++ [.int .i64 k, .slice (some ⟨gb, 0, none⟩) 40 cb])) (kA : Chg v.ownBlock.toList wx wA) (hg : v.ownBlock = some g ∨ g = wx.heap.size)
    (hB : Bs wx (some ⟨gb, 0, none⟩) d) (hd : d.length = 40) (hBt : Bt wx gb) (mB : MapAt wB rx (putL L b (.slice (some ⟨g, 0, none⟩) (n + 1) cap))) (kB : Chg [rx] wA wB) (hs : ∀ c, (vs c).length < 1000000) :
    VerG wB lo X rx last (putL L b (.slice (some ⟨g, 0, none⟩) (n + 1) cap)) (addV vs b (k, d)) ∧ ApL (putL L b (.slice (some ⟨g, 0, none⟩) (n + 1) cap)) ∧ Cv lo X rx wx wB := by
  have hvb : ∀ g, v.ownBlock = some g → lo ≤ g ∧ ∃ cs, wx.heap[g]? = some (.cells cs 196 (0, 0)) := fun g hg => by
    obtain ⟨h1, cs, h2⟩ := own_elem hown hg
    exact ⟨h1, cs, h2⟩
  have mA : MapAt wA rx L := h.m.keep kA (fun hm => by
    obtain ⟨-, cs, h2⟩ := hvb rx (by simpa using hm)
    exact map_cells h.m h2 rfl)
  have hXv : X ∉ v.ownBlock.toList := own_block_ne hown h.x (by decide)
  have hXA := kA.heap h.x hXv
  have avA : Av wx v.ownBlock.toList [5] := fun x hx cs t fr hh => by
    obtain ⟨-, cs2, h2⟩ := hvb x (by simpa using hx)
    rw [h2] at hh; cases hh; simp
  have avB : Av wA [rx] [5] := av_map mA _
  refine ⟨⟨kB.heap hXA (by simpa using (map_cells mA hXA).symm), mB, fun c c0 c1 => ?_, fun c => ?_⟩, ?_, ?_⟩
  · rw [getL_put]
    by_cases hc : c = b
    · subst hc
      rw [if_pos rfl]
      refine Or.inr ⟨_, rfl, ?_, by simp [addV]⟩
      have hr : VRow wA lo (.slice (some ⟨g, 0, none⟩) (n + 1) cap) (vs c ++ [(k, d)]) := VRow.push hx (by have := hown.1; omega) hn (fun g hg => (hvb g hg).2) hA kA hB hd hBt
      have hr2 := hr.keep kB avB (fun g' hg' hm => by
        obtain ⟨cs, h2⟩ := hr.block g' hg'
        rw [List.mem_singleton] at hm
        subst hm
        exact map_cells mA h2 rfl)
      simpa [addV] using hr2
    · rw [if_neg hc]
      rcases h.row c c0 c1 with ⟨e1, e2⟩ | ⟨u, e1, e2, e3⟩
      · exact Or.inl ⟨e1, by simp [addV, hc, e2]⟩
      · refine Or.inr ⟨u, e1, ?_, by simp [addV, hc, e3]⟩
        have hr := e2.keep kA avA (fun g' hg' hm => by
          have hm' : v.ownBlock = some g' := by simpa using hm
          rcases hgl with e | ⟨-, rfl⟩
          · exact hap c b u v g' hc e1 e hg' hm'
          · cases hm')
        have hr2 := hr.keep kB avB (fun g' hg' hm => by
          obtain ⟨cs, h2⟩ := hr.block g' hg'
          rw [List.mem_singleton] at hm
          subst hm
          exact map_cells mA h2 rfl)
        simpa [addV, hc] using hr2
  · have := addV_len vs b (k, d) c
    have := hs c
    omega
  · intro c1 c2 v1 v2 gg hne h1 h2 e1 e2
    rw [getL_put] at h1 h2
    have key : ∀ c u gg, c ≠ b → getL L c = some u → u.ownBlock = some gg → g ≠ gg := by
      rintro c u gg hc hu hug rfl
      rcases hg with hg | hg
      · rcases hgl with e | ⟨-, rfl⟩
        · exact hap c b u v g hc hu e hug hg
        · cases hg
      · by_cases hr : 0 ≤ c ∧ c < 258
        · rcases h.row c hr.1 hr.2 with ⟨x1, -⟩ | ⟨u', x1, x2, -⟩
          · rw [x1] at hu; cases hu
          · rw [x1] at hu; cases hu
            obtain ⟨cs, h5⟩ := x2.block g hug
            have := heap_lt h5
            omega
        · exact absurd (hkeys _ (getL_memk hu)) hr
    by_cases hc1 : c1 = b
    · rw [if_pos hc1] at h1
      cases h1
      have hc2 : c2 ≠ b := fun e => hne (hc1.trans e.symm)
      rw [if_neg hc2] at h2
      have e1' : g = gg := Option.some.inj e1
      exact key c2 v2 gg hc2 h2 e2 e1'
    · rw [if_neg hc1] at h1
      by_cases hc2 : c2 = b
      · rw [if_pos hc2] at h2
        cases h2
        have e2' : g = gg := Option.some.inj e2
        exact key c1 v1 gg hc1 h1 e1 e2'
      · rw [if_neg hc2] at h2
        exact hap c1 c2 v1 v2 gg hne h1 h2 e1 e2
  · refine ⟨v.ownBlock.toList ++ [rx], (kA.mono (fun x hx _ => List.mem_append_left _ hx)).trans kB (fun x hx _ => List.mem_append_right _ hx), fun x hx _ => ?_⟩
    rcases List.mem_append.1 hx with h | h
    · exact Or.inr (Or.inr (hvb x (by simpa using h)))
    · exact Or.inr (Or.inl (by simpa using h))
end Go.Proofs.YtnelakpdmjfolaaGreat
namespace Go.Proofs.YtnelakpdmjfolaaGreat
open Go.RowKit Go.Lib

theorem still_of_quiet {P : Program} {ops : Array Oper} {w : World} {Q : Act → Prop} : ∀ (l : List Oper) (a : Act), wpQuiet P ops (fun w' => w' = w) Q l a → wpStill P ops w Q l a
  | [], _, h => h
  | o :: l, a, h => by
    unfold wpQuiet at h
    unfold wpStill
    by_cases hw : Region.wanted o (yielded ops a.tmps) = true
    · rw [if_pos hw] at h ⊢
      obtain ⟨v, h1, h2⟩ := h
      have h3 := h1 w rfl
      unfold Oper.quietAt at h3
      unfold Oper.still
      generalize (execOp a.eval o).run P w = r at h3
      unfold Oper.quietUpon at h3
      unfold Oper.stillUpon
      split at h3
      · obtain ⟨rfl, rfl⟩ := h3; exact ⟨rfl, still_of_quiet l _ h2⟩
      · obtain ⟨rfl, rfl⟩ := h3; exact ⟨rfl, still_of_quiet l _ h2⟩
      · obtain ⟨rfl, h4⟩ := h3; exact ⟨rfl, v, h4, still_of_quiet l _ h2⟩
      · exact h3.elim
    · rw [if_neg hw] at h ⊢
      exact still_of_quiet l _ h
/-- a region that draws: operations that only read, guarded or not, then a tail in one order. -/
theorem region_tail {P : Program} {id : Nat} {Q : Exit → Act → World → Prop} {a : Act} {w : World} {l : List Oper} (n : Nat) (hm : P.follows .mixedOrders = true) (hB : Region.lexTailB .any l.toArray n = true)
    (h : wpQuiet P l.toArray (fun w' => w' = w.drew) (fun a' => wpList P l.toArray Q (l.drop n) a' w.drew) (l.take n) a) : (Code.region id l.toArray true).wp P Q a w :=
  wp_region_still_tail n hm hB (still_of_quiet _ _ h)

set_option maxRecDepth 100000 in
set_option maxHeartbeats 4000000 in
theorem bcheck_one (w : World) {lo : Nat} {v : Value} {k num : Int} {l : List (Int × List UInt8)} (h : TxOne w lo v k l) (hn0 : 1 ≤ num) (hn1 : num ≤ 1099511627776) (hk0 : 1 ≤ k) (hk1 : k ≤ 1099511627776) (hl0 : 0 < l.length) (hl : l.length ≤ 16) (hr : Rise l) (hk : ∀ x ∈ l, 0 ≤ x.1 ∧ x.1 < 258) :
    Calls Tryz.prog 129 #[.agg #[.int .i64 num, v]] w fun e w' => e = .returned (.int .i64 0) ∧ Chg [] w w' := by
  have k0 : Chg [] w (w.alloc (.cells #[.int .i64 num, v] 94)) := Chg.alloc w _
  have K0 := heap_new w (.cells #[.int .i64 num, v] 94)
  have h1 := h.keep k0
  obtain ⟨g, c, pb, cb, rfl, hc1, -, -, c0, c1, hcb, hp⟩ := h1.open_
  have b0 : (w.alloc (.cells #[.int .i64 num, .slice (some ⟨g, 0, none⟩) 1 c] 94)).cell? ⟨w.heap.size, 0, none⟩ = some (.int .i64 num) := cell_is K0 0 rfl
  have b1 : (w.alloc (.cells #[.int .i64 num, .slice (some ⟨g, 0, none⟩) 1 c] 94)).cell? ⟨w.heap.size, 1, none⟩ = some (.slice (some ⟨g, 0, none⟩) 1 c) := cell_is K0 1 rfl
  have n0 : decide (num < 1) = false := decide_eq_false (by omega)
  have n1 : decide (1099511627776 < num) = false := decide_eq_false (by omega)
  have n2 : decide (16 < (l.length : Int)) = false := decide_eq_false (by omega)
  have n3 : decide (33 < ((1 + l.length : Nat) : Int)) = false := decide_eq_false (by omega)
  have n3' : decide (33 < 1 + (l.length : Int)) = false := decide_eq_false (by omega)
  have HO := Lib.hid (order_one _ h1 hk0 hk1 hl0 (by omega) hr)
  have HB := Lib.hid (fun w1 (kk : Chg [] (w.alloc (.cells #[.int .i64 num, .slice (some ⟨g, 0, none⟩) 1 c] 94)) w1) => blocks_one w1 (num := num) (h1.keep kk) (by omega))
  have HC := Lib.hid (fun w1 (kk : Chg [] (w.alloc (.cells #[.int .i64 num, .slice (some ⟨g, 0, none⟩) 1 c] 94)) w1) => contputs_200 w1 (hp.keep0 kk) hk (by omega))
  clear h h1 hp hr hk
  go_enter Tryz.func129, Tryz.ntmps129
  go_wp2_with fail
  generalize w.alloc (.cells #[.int .i64 num, .slice (some ⟨g, 0, none⟩) 1 c] 94) = w1 at *
  generalize hz : w.heap.size = z at *
  refine HO.out.mono ?_
  rintro e w2 ⟨rfl, k2⟩
  have b02 := k2.cell b0 (by simp)
  have b12 := k2.cell b1 (by simp)
  go_wp2_with fail
  refine (HB.out w2 k2).mono ?_
  rintro e w3 ⟨rfl, k3⟩
  have k23 := k2.then k3
  have b13 := k23.cell b1 (by simp)
  have c03 := k23.cell c0 (by simp)
  have c13 := k23.cell c1 (by simp)
  clear HO HB
  go_wp2_with fail
  go_loopw [3, 4, 39] (fun _ _ i wr => (i = .int .i64 0 ∧ wr = w3) ∨ (i = .int .i64 1 ∧ Chg [] w1 wr)) (fun _ _ i _ => 1 - (intOf i).toNat)
  case atStart => exact Or.inl ⟨rfl, rfl⟩
  case round =>
    rcases hrel with ⟨rfl, rfl⟩ | ⟨rfl, kr⟩
    · have ka : Chg [] wr (wr.alloc (.cells #[.int .i64 k, .slice pb l.length cb] 128)) := Chg.alloc wr _
      have A0 := heap_new wr (.cells #[.int .i64 k, .slice pb l.length cb] 128)
      have HC4 := Lib.hid (HC.out _ ((k23.then ka).drew))
      go_wp2_with fail
      generalize wr.alloc (.cells #[.int .i64 k, .slice pb l.length cb] 128) = w4 at *
      generalize wr.heap.size = z4 at *
      have a1 : w4.cell? ⟨z4, 1, none⟩ = some (.slice pb l.length cb) := cell_is A0 1 rfl
      have a1d : w4.drew.cell? ⟨z4, 1, none⟩ = some (.slice pb l.length cb) := a1
      refine region_tail 24 (by kernel_rfl) (by kernel_rfl) ?_
      simp only [List.take_succ_cons, List.take_zero, List.drop_succ_cons, List.drop_zero]
      repeat (go_big_quiet_step (fail))
      refine wpQuiet_nil ?_
      go_wp2_with fail
      refine HC4.out.mono ?_
      rintro e w6 ⟨rfl, k6⟩
      have kf := ((k23.then ka).drew).then k6
      clear HC4 HC k6
      go_wp2_with fail
      go_roundw
      case rel => exact Or.inr ⟨rfl, kf⟩
      case measure => decide
    · go_wp2_with fail
      go_ret
      exact ⟨rfl, k0.then kr⟩
end Go.Proofs.YtnelakpdmjfolaaGreat
namespace Go.Proofs.YtnelakpdmjfolaaGreat
open Go.RowKit Go.Lib

/-- the bytes of a number, the least first. -/
def leB (v n : Nat) : List UInt8 := (List.range n).map fun i => UInt8.ofNat (v / 256 ^ i % 256)
theorem leB_length (v n : Nat) : (leB v n).length = n := by simp [leB]
/-- the row of n bytes of which j are written. -/
def rowL (n v j : Nat) : Array Value := ((List.range n).map fun i => Value.int .u8 (if i < j then ((v / 256 ^ i % 256 : Nat) : Int) else 0)).toArray
theorem rowL_zero (n v u : Nat) : rowL n v 0 = rowL n u 0 := by simp [rowL]
theorem rowL_get (n v j i : Nat) (h : i < n) : (rowL n v j)[i]? = some (.int .u8 (if i < j then ((v / 256 ^ i % 256 : Nat) : Int) else 0)) := by simp [rowL, h]
theorem rowL_set (n v j : Nat) (_h : j < n) : (rowL n v j).setIfInBounds j (.int .u8 ((v / 256 ^ j % 256 : Nat) : Int)) = rowL n v (j + 1) := by
  apply Array.ext
  · simp [rowL]
  · intro i h1 h2
    have hi : i < n := by simpa [rowL] using h2
    by_cases e : j = i
    · subst e
      simp [rowL]
    · rw [Array.getElem_setIfInBounds (by simpa [rowL] using hi), if_neg e]
      have : (i < j + 1) = (i < j) := by simp; omega
      simp [rowL, this]
theorem rowL_full (n v : Nat) : rowL n v n = (Lib.byteCells (leB v n)).toArray := by
  apply Array.ext
  · simp [rowL, Lib.byteCells, leB]
  · intro i h1 h2
    have hi : i < n := by simpa [rowL] using h1
    simp [rowL, Lib.byteCells, leB, hi]
set_option maxRecDepth 100000 in
set_option maxHeartbeats 1000000 in
theorem bput_any (w : World) (v n : Nat) (hn : n ≤ 8) (_hv : v < 18446744073709551616)
    (hmk : ∀ w : World, (Instr.makeSlice 38 (.int .i64 n) (.int .i64 n)).run Tryz.prog w = .ok (.slice (some ⟨w.heap.size, 0, none⟩) n n) (w.alloc (.cells (rowL n 0 0) 5))) :
    Calls Tryz.prog 131 #[.int .u64 v, .int .i64 n] w fun e w' => ∃ g, e = .returned (.slice (some ⟨g, 0, none⟩) n n) ∧ Chg [] w w' ∧ w'.heap[g]? = some (.cells (rowL n v n) 5 (0, 0)) ∧ w.heap.size ≤ g := by
  go_enter Tryz.func131, Tryz.ntmps131
  have g0 : (w.alloc (.cells (rowL n 0 0) 5)).heap[w.heap.size]? = some (.cells (rowL n v 0) 5 (0, 0)) := by
    rw [rowL_zero n v 0]
    exact heap_new w _
  have k0 : Chg [] w (w.alloc (.cells (rowL n 0 0) 5)) := Chg.alloc w _
  go_wp2_with fail
  generalize w.alloc (.cells (rowL n 0 0) 5) = w1 at *
  generalize hz : w.heap.size = z at *
  go_loopw [11] (fun i wr => ∃ j : Nat, j ≤ n ∧ i = .int .i64 j ∧ Chg [] w wr ∧ wr.heap[z]? = some (.cells (rowL n v j) 5 (0, 0))) (fun i _ => n - (intOf i).toNat)
  case atStart => exact ⟨0, by omega, rfl, k0, g0⟩
  case round =>
    obtain ⟨j, hj, rfl, kc, gj⟩ := hrel
    by_cases hlt : j < n
    · have cj : wr.cell? ⟨z, j, none⟩ = some (.int .u8 0) := by
        refine cell_is gj j ?_
        rw [rowL_get n v j j hlt, if_neg (Nat.lt_irrefl j)]
      have fj := unfrozen gj j
      clear g0 k0
      go_wp2_with fail
      have e : (v : Int) / 2 ^ (8 * j) % 256 = ((v / 256 ^ j % 256 : Nat) : Int) := by
        have h2 : (2 : Int) ^ (8 * j) = ((256 ^ j : Nat) : Int) := by
          rw [Int.pow_mul, Int.natCast_pow]
          rfl
        rw [h2]
        rfl
      refine ⟨⟨j + 1, by omega, by simp, kc.new_set (by omega) j _, ?_⟩, by simp [intOf]; omega⟩
      rw [e]
      exact heap_set gj j _ (rowL_set n v j hlt)
    · obtain rfl : j = n := by omega
      go_wp2_with fail
      go_ret
      exact ⟨z, rfl, kc, gj, by omega⟩
theorem bput_bs (w : World) (v n : Nat) (hn : n ≤ 8) (hv : v < 18446744073709551616)
    (hmk : ∀ w : World, (Instr.makeSlice 38 (.int .i64 n) (.int .i64 n)).run Tryz.prog w = .ok (.slice (some ⟨w.heap.size, 0, none⟩) n n) (w.alloc (.cells (rowL n 0 0) 5))) :
    Calls Tryz.prog 131 #[.int .u64 v, .int .i64 n] w fun e w' => ∃ g, e = .returned (.slice (some ⟨g, 0, none⟩) n n) ∧ Chg [] w w' ∧ Bs w' (some ⟨g, 0, none⟩) (leB v n) ∧ w.heap.size ≤ g := by
  refine (bput_any w v n hn hv hmk).mono ?_
  rintro e w' ⟨g, rfl, hc, hg, hl⟩
  refine ⟨g, rfl, hc, ?_, hl⟩
  rw [rowL_full] at hg
  exact Bs.row hg
set_option maxRecDepth 100000 in
theorem put32_any (w : World) (v : Nat) (hv : v < 4294967296) : Calls Tryz.prog 96 #[.int .u32 v] w fun e w' => ∃ g, e = .returned (.slice (some ⟨g, 0, none⟩) 4 4) ∧ Chg [] w w' ∧ Bs w' (some ⟨g, 0, none⟩) (leB v 4) ∧ w.heap.size ≤ g := by
  have HP := Lib.hid (bput_bs w v 4 (by omega) (by omega) (fun w => by kernel_rfl))
  go_enter Tryz.func96, Tryz.ntmps96
  go_wp2_with fail
  refine HP.out.mono ?_
  rintro e w' ⟨g, rfl, h1, h2, h3⟩
  go_wp2_with fail
  go_ret
  exact ⟨g, rfl, h1, h2, h3⟩
set_option maxRecDepth 100000 in
theorem put64_any (w : World) (v : Nat) (hv : v < 18446744073709551616) : Calls Tryz.prog 95 #[.int .u64 v] w fun e w' => ∃ g, e = .returned (.slice (some ⟨g, 0, none⟩) 8 8) ∧ Chg [] w w' ∧ Bs w' (some ⟨g, 0, none⟩) (leB v 8) ∧ w.heap.size ≤ g := by
  have HP := Lib.hid (bput_bs w v 8 (by omega) hv (fun w => by kernel_rfl))
  go_enter Tryz.func95, Tryz.ntmps95
  go_wp2_with fail
  refine HP.out.mono ?_
  rintro e w' ⟨g, rfl, h1, h2, h3⟩
  go_wp2_with fail
  go_ret
  exact ⟨g, rfl, h1, h2, h3⟩
end Go.Proofs.YtnelakpdmjfolaaGreat
namespace Go.Proofs.YtnelakpdmjfolaaGreat
open Go.RowKit Go.Lib

/-- a turn of the register. -/
def crcBit (r : Int) : Int := bits .xor .u32 (r / 2) (bits .and .u32 2197175160 (-(bits .and .u32 r 1) % 4294967296))
def crcBits : Nat → Int → Int
  | 0, r => r
  | n + 1, r => crcBit (crcBits n r)
/-- .. behind a byte. -/
def crcByte (r : Int) (c : UInt8) : Int := crcBits 8 (bits .xor .u32 r (c.toNat : Int))
def crcRun (r : Int) (l : List UInt8) : Int := l.foldl crcByte r
/-- the check sum of bytes. -/
def crcI (l : List UInt8) : Int := bits .xor .u32 IntKind.u32.max (crcRun (bits .xor .u32 IntKind.u32.max 0) l)
theorem wrap_u32 (n : Int) : 0 ≤ IntKind.u32.wrap n ∧ IntKind.u32.wrap n < 4294967296 := by
  have : IntKind.u32.wrap n = n % 4294967296 := by simp [IntKind.wrap, IntKind.signed, IntKind.bits]
  rw [this]; omega
theorem bits_u32 (op : BinOp) (x y : Int) : 0 ≤ bits op .u32 x y ∧ bits op .u32 x y < 4294967296 := wrap_u32 _
theorem crcI_ge (l : List UInt8) : 0 ≤ crcI l ∧ crcI l < 4294967296 := bits_u32 _ _ _
theorem crcBits_ge (n : Nat) (r : Int) (h0 : 0 ≤ r) (h1 : r < 4294967296) : 0 ≤ crcBits n r ∧ crcBits n r < 4294967296 := by
  cases n with
  | zero => exact ⟨h0, h1⟩
  | succ n => exact bits_u32 .xor (crcBits n r / 2) (bits .and .u32 2197175160 (-(bits .and .u32 (crcBits n r) 1) % 4294967296))
/-- .. as a number. -/
def crcN (l : List UInt8) : Nat := (crcI l).toNat
theorem crcN_lt (l : List UInt8) : crcN l < 4294967296 := by have := crcI_ge l; unfold crcN; omega
theorem crcN_eq (l : List UInt8) : ((crcN l : Nat) : Int) = crcI l := by have := crcI_ge l; unfold crcN; omega
set_option maxRecDepth 100000 in
set_option maxHeartbeats 2000000 in
theorem cadd_crc (w : World) {C : Nat} {pa : Option Addr} {m c : Nat} {l : List UInt8} (hC : w.heap[C]? = some (.cells #[.int .u32 0] 257 (0, 0))) (hb : Bs w pa l) (hl : l.length = m) (hm : m ≤ 1000000) :
    Calls Tryz.prog 156 #[.pointer (some ⟨C, 0, none⟩), .slice pa m c] w fun e w' => e = .returned (.pointer (some ⟨C, 0, none⟩)) ∧ Chg [C] w w' ∧ w'.heap[C]? = some (.cells #[.int .u32 (crcI l)] 257 (0, 0)) := by
  have c0 : w.cell? ⟨C, 0, none⟩ = some (.int .u32 0) := cell_is hC 0 rfl
  have f0 := unfrozen hC 0
  have HC := Lib.hid hC
  have HB := Lib.hid hb
  clear hC hb
  go_enter Tryz.func156, Tryz.ntmps156
  go_wp2_with fail
  go_loopw [5, 7, 17] (fun r _ i wr => ∃ j : Nat, j ≤ m ∧ i = .int .i64 j ∧ r = .int .u32 (crcRun (bits .xor .u32 IntKind.u32.max 0) (l.take j)) ∧ w = wr) (fun _ _ i _ => m - (intOf i).toNat)
  case atStart => exact ⟨0, by omega, rfl, rfl, rfl⟩
  case round =>
    obtain ⟨j, hj, rfl, rfl, rfl⟩ := hrel
    by_cases hlt : j < m
    · obtain ⟨b, o, rfl, cj⟩ : ∃ b o, pa = some ⟨b, o, none⟩ ∧ w.cell? ⟨b, o + j, none⟩ = some (.int .u8 (l[j]'(by omega)).toNat) := by
        rcases HB.out with h | ⟨b, o, e, _, h⟩
        · rw [h] at hl; simp at hl; omega
        · exact ⟨b, o, e, h j (by omega)⟩
      have htk : l.take (j + 1) = l.take j ++ [l[j]'(by omega)] := by rw [List.take_succ_eq_append_getElem]
      have hrun : crcRun (bits .xor .u32 IntKind.u32.max 0) (l.take (j + 1)) = crcByte (crcRun (bits .xor .u32 IntKind.u32.max 0) (l.take j)) (l[j]'(by omega)) := by rw [htk]; unfold crcRun; rw [List.foldl_append]; rfl
      have HR := Lib.hid hrun
      clear hrun htk
      generalize l[j]'(by omega) = y at *
      generalize crcRun (bits .xor .u32 IntKind.u32.max 0) (l.take j) = r at *
      go_wp2_with fail
      go_loopw [5, 25] (fun q i wr => ∃ k : Nat, k ≤ 8 ∧ i = .int .i64 k ∧ q = .int .u32 (crcBits k (bits .xor .u32 r (y.toNat : Int))) ∧ w = wr) (fun _ i _ => 8 - (intOf i).toNat)
      case atStart =>
        have hy : (y.toNat : Int) % 4294967296 = y.toNat := by have := y.toNat_lt; omega
        exact ⟨0, by omega, rfl, by rw [hy]; rfl, rfl⟩
      case round =>
        obtain ⟨k, hk, rfl, rfl, rfl⟩ := hrel
        by_cases hlk : k < 8
        · generalize hq : crcBits k (bits .xor .u32 r (y.toNat : Int)) = q at *
          go_wp2_with fail
          exact ⟨⟨k + 1, by omega, by simp, by rw [← hq]; rfl, trivial⟩, by simp [intOf]; omega⟩
        · obtain rfl : k = 8 := by omega
          generalize hq : crcBits 8 (bits .xor .u32 r (y.toNat : Int)) = q at *
          go_wp2_with fail
          exact ⟨⟨j + 1, by omega, by simp, by rw [HR.out, ← hq]; rfl, trivial⟩, by simp [intOf]; omega⟩
    · obtain rfl : j = m := by omega
      have ht : l.take j = l := List.take_of_length_le (by omega)
      rw [ht] at *
      go_wp2_with fail
      go_ret
      exact ⟨rfl, Chg.set w C 0 _, heap_set HC.out 0 _ rfl⟩
theorem cnew_crc (w : World) : Calls Tryz.prog 155 #[] w fun e w' => e = .returned (.pointer (some ⟨w.heap.size, 0, none⟩)) ∧ w' = w.alloc (.cells #[.int .u32 0] 257) := by
  go_enter Tryz.func155, Tryz.ntmps155
  go_wp2_with fail
  go_ret
  exact ⟨rfl, rfl⟩
theorem cval_crc (w : World) {C : Nat} {r : Int} (hC : w.heap[C]? = some (.cells #[.int .u32 r] 257 (0, 0))) : Calls Tryz.prog 157 #[.pointer (some ⟨C, 0, none⟩)] w fun e w' => e = .returned (.int .u32 r) ∧ w' = w := by
  have c0 : w.cell? ⟨C, 0, none⟩ = some (.int .u32 r) := cell_is hC 0 rfl
  clear hC
  go_enter Tryz.func157, Tryz.ntmps157
  go_wp2_with fail
  go_ret
  exact ⟨rfl, rfl⟩
set_option maxRecDepth 100000 in
theorem crc_of (w : World) {pa : Option Addr} {m c : Nat} {l : List UInt8} (hb : Bs w pa l) (hl : l.length = m) (hm : m ≤ 1000000) :
    Calls Tryz.prog 136 #[.slice pa m c] w fun e w' => e = .returned (.int .u32 (crcN l : Nat)) ∧ Chg [] w w' := by
  have HB := Lib.hid hb
  clear hb
  rw [crcN_eq]
  go_enter Tryz.func136, Tryz.ntmps136
  go_wp2_with fail
  refine (cnew_crc w).mono ?_
  rintro e w1 ⟨rfl, rfl⟩
  have k1 : Chg [] w (w.alloc (.cells #[.int .u32 0] 257)) := Chg.alloc w _
  have h1 := heap_new w (.cells #[.int .u32 0] 257)
  have HB1 := Lib.hid (HB.out.chg k1)
  generalize w.alloc (.cells #[.int .u32 0] 257) = w1 at *
  generalize hz : w.heap.size = C at *
  go_wp2_with fail
  refine (cadd_crc w1 h1 HB1.out hl hm).mono ?_
  rintro e w2 ⟨rfl, k2, h2⟩
  go_wp2_with fail
  refine (cval_crc w2 h2).mono ?_
  rintro e w3 ⟨rfl, rfl⟩
  go_wp2_with fail
  go_ret
  exact ⟨rfl, k1.trans k2 (fun x hx hlt => by simp at hx; omega)⟩
end Go.Proofs.YtnelakpdmjfolaaGreat
