/- Lemmas and walks: Walks: two runs of doubles that are alike. Walks: versions that nobody reads are taken away: slices.Clone of versions 133; a map's entry is put anew, its stamp is kept. Walks: extmap.Prune 99: versions that nobody reads are taken away. Walks: horizon.Low 141 where one handle is open, txn.Prune 64, store.Clean 22 beside it. Walks: store.Commit and Flush once more, told which old blocks change. Printed by mkHk.py out of Yj and Ki. Walks: a transaction begins beside others. Printed by mkMi.py out of Ua. A store with a reader open: another transaction begins, writes one block, commits; checkpoint, flush, clean; the reader's blocks stay. Walks: scarpalike.Block 18, forty bytes that hang on a number. A reader's questions beside others; what fresh leaves is a store with a reader. -/
import Derived.Maps.RangeRun
import Derived.Test.YtelakcjbknbehaaGreatAd
import Derived.Test.YtelakcjbknbehaaGreatAg
import Derived.Test.YtelakcjbknbehaaGreatAi
import Derived.Test.YtelakcjbknbehaaGreatAj
import Derived.Test.YtelakcjbknbehaaGreatAk
import Derived.Test.YtelakcjbknbehaaGreatAl
import Derived.Test.YtelakcjbknbehaaGreatAm
import Derived.Test.YtelakcjbknbehaaGreatAo
namespace Go.Proofs.YtelakcjbknbehaaGreat
open Go.RowKit Go.Lib

set_option maxRecDepth 100000 in
set_option maxHeartbeats 1000000 in
theorem nums_same (w : World) {pa pb : Option Addr} {m ca cb : Nat} {a b : List Nat} (hm : m ≤ 1000000) (ha : a.length = m) (hb : b.length = m) (_hca : m ≤ ca) (_hcb : m ≤ cb) (hab : a.map canB = b.map canB) (hA : Fl w pa a) (hB : Fl w pb b) :
    Calls Tryz.prog 23 #[.slice pa m ca, .slice pb m cb] w fun e w' => e = .returned (.bool true) ∧ Chg [] w w' := by
  go_enter Tryz.func23, Tryz.ntmps23
  go_wp2_with fail
  go_loopw [5] (fun i wr => ∃ j : Nat, j ≤ m ∧ i = .int .i64 j ∧ Chg [] w wr) (fun i _ => m - (intOf i).toNat)
  case atStart => exact ⟨0, by omega, rfl, Chg.refl _ _⟩
  case round =>
    obtain ⟨j, hj, rfl, kc⟩ := hrel
    by_cases hlt : j < m
    · have cA : ∃ x o, pa = some ⟨x, o, none⟩ ∧ wr.cell? ⟨x, o + j, none⟩ = some (.float .f64 (a[j]'(by omega))) := by
        rcases hA.keep kc with h | ⟨x, o, e, h⟩
        · rw [h] at ha; simp at ha; omega
        · exact ⟨x, o, e, h j (by omega)⟩
      have cB : ∃ x o, pb = some ⟨x, o, none⟩ ∧ wr.cell? ⟨x, o + j, none⟩ = some (.float .f64 (b[j]'(by omega))) := by
        rcases hB.keep kc with h | ⟨x, o, e, h⟩
        · rw [h] at hb; simp at hb; omega
        · exact ⟨x, o, e, h j (by omega)⟩
      have hx : canB (a[j]'(by omega)) = canB (b[j]'(by omega)) := by
        have h1 : (a.map canB)[j]? = (b.map canB)[j]? := by rw [hab]
        simpa [show j < a.length by omega, show j < b.length by omega] using h1
      obtain ⟨xa, oa, rfl, cA⟩ := cA
      obtain ⟨xb, ob, rfl, cB⟩ := cB
      generalize a[j]'(by omega) = p at *
      generalize b[j]'(by omega) = q at *
      clear hA hB hab
      have hs : ((canB p : Int) == (canB q : Int)) = true := by rw [hx]; simp
      go_wp2_with fail
      go_region_held3 (fun wx => wx.cell? ⟨xa, oa + j, none⟩ = some (.float .f64 p) ∧ wx.cell? ⟨xb, ob + j, none⟩ = some (.float .f64 q)) (first | (exact ⟨cA, cB⟩))
        (first | (go_at_call 14; refine (same_any' p q _).mono ?_; rintro e w2 ⟨rfl, rfl⟩; rw [hs]))
      go_wp2_with fail
      go_roundw
      case rel => exact ⟨j + 1, by omega, by go_num, kc.drew⟩
      case measure => simp [intOf]; omega
    · go_wp2_with fail
      go_ret
      exact ⟨rfl, kc⟩
end Go.Proofs.YtelakcjbknbehaaGreat
namespace Go.Proofs.YtelakcjbknbehaaGreat
open Go.RowKit Go.Lib

theorem findL_of_get {L : List (Int × Value)} {k : Int} {v : Value} (h : getL L k = some v) (i : Nat) : ∃ x, findL L k i = some x := by
  induction L generalizing i with
  | nil => cases h
  | cons p l ih =>
    simp only [getL] at h
    simp only [findL]
    split at h
    · rename_i e
      rw [if_pos e]
      exact ⟨_, rfl⟩
    · rename_i e
      rw [if_neg e]
      exact ih h _
/-- a map's entry is put anew: the stamps stay. -/
theorem run_update_born {P : Program} {w : World} {mty kt et : TypeId} (hm : P.underlying mty = some (.map kt et)) (hk : P.underlying kt = some (.int .i64)) {r : Nat} {L : List (Int × Value)} {es : Array MapEntry} {clock : Nat} (hb : w.heap[r]? = some (.map es clock)) (hIS : IMS es clock L) {k : Int} {v0 : Value} (hg : getL L k = some v0) (v : Value) :
    ∃ es' w', (Instr.mapUpdate mty (.map (some r)) (.int .i64 k) v).run P w = .ok () w' ∧ w'.heap[r]? = some (.map es' clock) ∧ IMS es' clock (putL L k v) ∧ es'.toList.map (·.born) = es.toList.map (·.born) ∧ Chg [r] w w' := by
  obtain ⟨hI, hS⟩ := hIS
  have hf := findNow_im .i64 k es.toList L hI 0
  have hc : (Instr.checkKey false 10000 kt (.int .i64 k)).run P w = .ok () w := MapKept.run_checkKey (k := .int .i64 k) hk (by simp [MapKept.IsKey]) false 9999
  obtain ⟨⟨i, u⟩, hfl⟩ := findL_of_get hg 0
  rw [hfl] at hf
  have hp := putL_some hfl v
  simp only [Nat.sub_zero] at hp
  have hkey : ((es[i]?).map (·.key)).getD (.int .i64 k) = .int .i64 k := by
    have h1 : (es.toList.map (fun e => (e.key, e.val)))[i]?.map Prod.fst = (es[i]?).map (·.key) := by
      rw [List.getElem?_map, Option.map_map, Array.getElem?_toList]; rfl
    rw [← h1, hI, List.getElem?_map, Option.map_map]
    have h2 := hp.2
    cases hl : L[i]? with
    | none => rfl
    | some p => rw [hl] at h2; simp at h2; simp [h2]
  have hst : (Instr.keyThatStays (.int .i64 k) (.int .i64 k)).run P w = .ok (.int .i64 k) w := by
    unfold Instr.keyThatStays
    rw [if_pos (by simp [Instr.sameBits])]
    rfl
  refine ⟨es.modify i fun e => { e with key := .int .i64 k, val := v }, mapSet w r (.map (es.modify i fun e => { e with key := .int .i64 k, val := v }) clock), ?_, mapSet_heap hb, ⟨?_, MapKept.stamped_modify hS i _ (fun e _ => rfl) (fun e he hi => ?_)⟩, ?_, mapSet_chg _ _ _⟩
  · simp [Instr.mapUpdate, run_underlying hm, MapKept.run_getObj_map hb, hc, MapKept.run_findKey hk hf, hkey, hst, MapKept.run_setObj_map _ hb, Result.andThen, mapSet]
  · rw [hp.1]
    unfold IM at hI ⊢
    rw [Array.toList_modify, modify_map (fun e : MapEntry => (e.key, e.val)) _ (fun _ => (Value.int .i64 k, v)) (fun a => rfl), hI,
      modify_map (fun p : Int × Value => (Value.int .i64 p.1, p.2)) _ (fun _ => (Value.int .i64 k, v)) (fun a => rfl)]
  · have h3 := hkey
    rw [hi] at h3
    exact h3.symm
  · rw [Array.toList_modify, modify_map (fun e : MapEntry => e.born) (fun e : MapEntry => { e with key := .int .i64 k, val := v }) id (fun a => rfl)]
    apply List.ext_getElem?
    intro j
    rw [List.getElem?_modify]
    cases (List.map (fun e : MapEntry => e.born) es.toList)[j]? <;> simp
theorem run_append_vr (w : World) (ty base : Nat) (v : Value) (n : Nat) (xs l : List Value) (hown : w.ownsRow base 288 2 v n xs) (b o m c : Nat) (hl : l.length = m * 2) (hs : ∀ j u, l[j]? = some u → w.cell? ⟨b, o + j, none⟩ = some u) (h1 : ∀ u ∈ l, u.oneCell' = true) (hn : n + m ≤ 1000000) (hbase : base ≤ w.heap.size) :
    ∃ v' w', (Builtin.append_ #[286, 286] ty #[v, .slice (some ⟨b, o, none⟩) m c]).run Tryz.prog w = .ok v' w' ∧ AppendedV base 288 2 w v (n + m) (xs ++ l) v' w' := by
  obtain ⟨i, hi0, hz, hz1, hz2⟩ := info_parts inf267
  obtain ⟨v', w', h2, h3, h4, _⟩ := run_append_own (P := Tryz.prog) w base 286 ty 288 i (.agg #[.int .i64 0, .slice none 0 0]) 2 32 ty265 hi0 hz hz1 hz2 rfl (by decide) v n xs hown ⟨b, o, none⟩ m c l hl
    (fun j u hu => by
      have ha : (⟨b, o, none⟩ : Addr).add j = ⟨b, o + j, none⟩ := by unfold Addr.add; split <;> simp_all
      rw [ha]; exact hs j u hu) h1 (by unfold maxLen; omega) (by omega) hbase
  exact ⟨v', w', h2, h3, below_grown hown h4 hbase, h4⟩
theorem wpList_append_vr {ops : Array Oper} {rest : List Oper} {o : Oper} {a : Act} {w : World} {Q : Exit → Act → World → Prop} (hg : o.guard = none) (s x : Operand)
    (ho : o.op = .call { callee := .builtin .append, args := #[s, x], argTypes := #[286, 286] }) (base : Nat) (v : Value) (n : Nat) (xs l : List Value) (hs : a.eval s = v) (hown : w.ownsRow base 288 2 v n xs)
    (b eo m c : Nat) (hx : a.eval x = .slice (some ⟨b, eo, none⟩) m c) (hl : l.length = m * 2) (hr : ∀ j u, l[j]? = some u → w.cell? ⟨b, eo + j, none⟩ = some u) (h1 : ∀ u ∈ l, u.oneCell' = true) (hn : n + m ≤ 1000000) (hbase : base ≤ w.heap.size)
    (h : ∀ v' w', AppendedV base 288 2 w v (n + m) (xs ++ l) v' w' → wpList Tryz.prog ops Q rest (a.put o.dst v') w') : wpList Tryz.prog ops Q (o :: rest) a w := by
  obtain ⟨v', w', h2, h3⟩ := run_append_vr w o.type base v n xs l hown b eo m c hl hr h1 hn hbase
  exact Lib.wpList_append_run w hg s x 286 286 ho v (.slice (some ⟨b, eo, none⟩) m c) hs hx v' w' h2 (h v' w' h3)
theorem own_empty196 (w : World) : (w.alloc (.cells #[] 288)).ownsRow w.heap.size 288 2 (.slice (some ⟨w.heap.size, 0, none⟩) 0 0) 0 [] := by
  refine ⟨rfl, Or.inr ⟨w.heap.size, 0, #[], rfl, Nat.le_refl _, ?_⟩⟩
  simp
  exact (Array.getElem?_eq_some_iff.1 (heap_new w (.cells #[] 288))).2
set_option maxRecDepth 100000 in
set_option maxHeartbeats 1000000 in
theorem clone_vr (w : World) {D o c m : Nat} {l : List Value} (hl : l.length = m * 2) (hm0 : 0 < m) (hm1 : m ≤ 1000000) (hb : ∀ j u, l[j]? = some u → w.cell? ⟨D, o + j, none⟩ = some u) (h1 : ∀ u ∈ l, u.oneCell' = true) : Calls Tryz.prog 201 #[.slice (some ⟨D, o, none⟩) m c] w fun e w' =>
    ∃ v, e = .returned v ∧ Chg [] w w' ∧ w'.ownsRow w.heap.size 288 2 v m l := by
  have hn : ∀ w, (binOp .eql 286 (.slice (some ⟨D, o, none⟩) m c) (.slice none 0 0)).run Tryz.prog w = .ok (.bool false) w := fun w => Lib.run_eql_slice_nil w 286 288 _ _ _ 0 0 ty265
  have HB := Lib.hid hb
  have HL := Lib.hid hl
  have H1 := Lib.hid h1
  clear hb hl h1
  go_enter Tryz.func201, Tryz.ntmps201
  go_wp2_with (first | (at_builtin; refine wpList_append_vr rfl (.tmp 5) (.tmp 6) rfl w.heap.size _ 0 [] l rfl (own_empty196 w) D o m c rfl HL.out (fun j u hu => (Chg.alloc (S := []) w _).cell (HB.out j u hu) (by simp)) H1.out (by omega) (by simp) ?_; intro v1 w1 h1))
  go_ret
  exact ⟨v1, rfl, Chg.of_below ((Below.of_alloc w _).trans h1.2.1), by simpa using h1.1⟩
end Go.Proofs.YtelakcjbknbehaaGreat
namespace Go.Proofs.YtelakcjbknbehaaGreat
open Go.RowKit Go.Lib

set_option maxRecDepth 100000 in
theorem upd_born {w : World} {r : Nat} {L : List (Int × Value)} {es : Array MapEntry} {clock : Nat} (hb : w.heap[r]? = some (.map es clock)) (hIS : IMS es clock L) {k : Int} {v0 : Value} (hg : getL L k = some v0) (v : Value) :
    ∃ es', (Instr.mapUpdate 268 (.map (some r)) (.int .i64 k) v).run Tryz.prog w = .ok () (updW w 268 r k v) ∧ (updW w 268 r k v).heap[r]? = some (.map es' clock) ∧ IMS es' clock (putL L k v) ∧ es'.toList.map (·.born) = es.toList.map (·.born) ∧ Chg [r] w (updW w 268 r k v) := by
  obtain ⟨es', w', h1, h2, h3, h4, h5⟩ := run_update_born (P := Tryz.prog) (mty := 268) (kt := 3) (et := 286) (by kernel_rfl) (by kernel_rfl) hb hIS hg v
  have h6 := (upd258 ⟨es, clock, hb, hIS⟩ k v).1
  have h7 := h1.symm.trans h6
  injection h7 with _ h8
  subst h8
  exact ⟨es', h1, h2, h3, h4, h5⟩
theorem IMS.entry {es : Array MapEntry} {clock : Nat} {L : List (Int × Value)} (h : IMS es clock L) (hn : (L.map Prod.fst).Nodup) : ∀ e ∈ es.toList, ∃ k, e.key = .int .i64 k ∧ (k, e.val) ∈ L ∧ getL L k = some e.val := fun e he => by
  have h1 : (e.key, e.val) ∈ es.toList.map (fun e => (e.key, e.val)) := List.mem_map.2 ⟨e, he, rfl⟩
  rw [h.im] at h1
  obtain ⟨p, hp, e1⟩ := List.mem_map.1 h1
  have e2 : e.key = .int .i64 p.1 := (congrArg Prod.fst e1).symm
  have e3 : e.val = p.2 := (congrArg Prod.snd e1).symm
  exact ⟨p.1, e2, by rw [e3]; exact hp, by rw [e3]; exact getL_of_mem hn hp⟩
/-- entries of the same stamps: as many are left. -/
theorem left_born {es es' : Array MapEntry} {seen : Array Nat} (h : es'.toList.map (·.born) = es.toList.map (·.born)) (e : MapEntry) (he : e ∈ (leftOf es' seen).toList) : (leftOf es (seen.push e.born)).size < (leftOf es seen).size := by
  obtain ⟨h1, h2⟩ := mem_left he
  have h3 : e.born ∈ es.toList.map (·.born) := by rw [← h]; exact List.mem_map.2 ⟨e, h1, rfl⟩
  obtain ⟨e0, h4, h5⟩ := List.mem_map.1 h3
  have h6 : e0 ∈ (leftOf es seen).toList := by
    unfold leftOf
    rw [Array.toList_filter, List.mem_filter]
    exact ⟨h4, by rw [h5, h2]; rfl⟩
  rw [← h5]
  exact left_shrinks es seen e0 h6
theorem vr_one {w : World} {l : List (Int × List UInt8)} {xs : List Value} (hl : xs.length = l.length * 2) (hx : ∀ i (h : i < l.length), xs[i * 2]? = some (.int .i64 l[i].1) ∧ ∃ g c, xs[i * 2 + 1]? = some (.slice (some ⟨g, 0, none⟩) 40 c) ∧ Bs w (some ⟨g, 0, none⟩) l[i].2 ∧ l[i].2.length = 40 ∧ Bt w g) : ∀ v ∈ xs, v.oneCell' = true := by
  intro v hv
  obtain ⟨i, hi, e⟩ := List.getElem_of_mem hv
  have hi2 : i / 2 < l.length := by omega
  obtain ⟨e0, g', c', e1, -⟩ := hx (i / 2) hi2
  have h3 : xs[i]? = some v := by rw [List.getElem?_eq_getElem hi, e]
  have : i = i / 2 * 2 ∨ i = i / 2 * 2 + 1 := by omega
  rcases this with h4 | h4
  · rw [← h4, h3] at e0
    rw [Option.some.inj e0]; rfl
  · rw [← h4, h3] at e1
    rw [Option.some.inj e1]; rfl
/-- what a pruning leaves. -/
def PrG (w w' : World) (lo X rx : Nat) (last t : Int) (vs : Int → List (Int × List UInt8)) : Prop :=
  Chg [rx] w w' ∧ ∃ L' vs', VerG w' lo X rx last L' vs' ∧ ApL L' ∧ (∀ p ∈ L', 0 ≤ p.1 ∧ p.1 < 258) ∧ ∀ b, Cut t (vs b) (vs' b)
theorem set_iter {wr w2 : World} {R rx clock : Nat} {seen sn : Array Nat} (hR : wr.heap[R]? = some (.mapIter (some rx) clock seen clock)) (hal : w2 = wr ∨ w2 = wr.drew) : (Go.ChangeMaps.setBlock w2 R (.mapIter (some rx) clock sn clock)).heap[R]? = some (.mapIter (some rx) clock sn clock) ∧ Chg [R] wr (Go.ChangeMaps.setBlock w2 R (.mapIter (some rx) clock sn clock)) := by
  refine ⟨?_, ?_⟩
  · have hl : R < w2.heap.size := by rcases hal with rfl | rfl <;> exact heap_lt hR
    simp [Go.ChangeMaps.setBlock, hl]
  · have kk : Chg [R] wr w2 := by rcases hal with e | e <;> rw [e]; exact Chg.refl _ _; exact (Chg.refl _ _).drew
    refine kk.trans (T := [R]) ⟨rfl, rfl, rfl, by simp [Go.ChangeMaps.setBlock], fun q _ hq => ?_⟩ (fun x hx _ => hx)
    have : R ≠ q := by intro e; exact hq (by rw [e]; simp)
    simp [Go.ChangeMaps.setBlock, this]
set_option maxRecDepth 100000 in
set_option maxHeartbeats 4000000 in
theorem prune_ok (w : World) {lo X rx : Nat} {last t : Int} {L : List (Int × Value)} {vs : Int → List (Int × List UInt8)} (h : VerG w lo X rx last L vs) (hap : ApL L) (hk : ∀ p ∈ L, 0 ≤ p.1 ∧ p.1 < 258) (hlo : lo ≤ w.heap.size) :
    Calls Tryz.prog 140 #[.pointer (some ⟨X, 0, none⟩), .int .i64 t] w fun e w' => (∃ n : Int, e = .returned (.int .i64 n)) ∧ PrG w w' lo X rx last t vs := by
  have x0 : w.cell? ⟨X, 0, none⟩ = some (.int .i64 258) := cell_is h.x 0 rfl
  have x1 : w.cell? ⟨X, 1, none⟩ = some (.map (some rx)) := cell_is h.x 1 rfl
  have HG := Lib.hid (xgone_any w x0)
  obtain ⟨es0, clock, hm, hIS⟩ := id h.m
  have hr1 := run_range_map (P := Tryz.prog) w 268 3 286 rx es0 clock (by kernel_rfl) hm
  have kR : Chg [] w (w.alloc (.mapIter (some rx) clock #[] clock)) := Chg.alloc w _
  have R0 := heap_new w (.mapIter (some rx) clock #[] clock)
  have hrl := h.m.lt
  have HI := Lib.hid (show PrI w (w.alloc (.mapIter (some rx) clock #[] clock)) lo X rx w.heap.size clock last t vs es0 #[] es0 L vs from
    ⟨R0, kR.heap hm (by simp), hIS, rfl, h.keep kR, hap, hk, fun b => Cut.refl _ _, kR.mono (fun x hx _ => by cases hx)⟩)
  clear h hap hk hIS kR R0
  go_enter Tryz.func140, Tryz.ntmps140
  go_wp2_with fail
  refine HG.out.mono ?_
  rintro e w1 ⟨rfl, rfl⟩
  go_wp2_with fail
  generalize hzR : w.heap.size = R at *
  generalize w.alloc (.mapIter (some rx) clock #[] clock) = w3 at *
  clear hr1 x0 x1 hm HG
  go_loopw [4, 5, 6, 7] (fun v _ _ _ wr => (∃ n : Int, v = .int .i64 n) ∧ ∃ seen es L' vr, PrI w wr lo X rx R clock last t vs es0 seen es L' vr) (fun _ _ _ _ wr => (leftOf es0 (wr.iterSeen R)).size)
  case atStart => exact ⟨⟨0, rfl⟩, _, _, _, _, HI.out⟩
  case round =>
    obtain ⟨⟨n, rfl⟩, seen, es, L', vr, hI⟩ := hrel
    rename World => wr
    clear HI
    have hR := hI.it
    have hb1 := hI.mp
    have hst := hI.im.st
    rcases run_next_at (P := Tryz.prog) wr 0 R rx clock clock seen es clock hR hb1 hst.1 (Nat.le_refl _) with ⟨h0, hrun⟩ | ⟨e, he, w2, hal2, hrun⟩
    · have hnx : ∀ ty, (Instr.next (.pointer (some ⟨R, 0, none⟩)) false ty).run Tryz.prog wr = _ := fun _ => hrun
      have HI := Lib.hid hI
      clear hI
      go_wp2_with fail
      go_ret
      exact ⟨⟨n, rfl⟩, HI.out.chg, L', vr, HI.out.ver, HI.out.ap, HI.out.keys, HI.out.cut⟩
    · obtain ⟨k, hky, hL, hget⟩ := hI.im.entry hI.ver.m.nodup e (mem_left he).1
      obtain ⟨hk0, hk1⟩ : 0 ≤ k ∧ k < 258 := hI.keys _ hL
      obtain ⟨hR5, k5⟩ := set_iter (sn := seen.push e.born) hR hal2
      generalize hw5 : Go.ChangeMaps.setBlock w2 R (.mapIter (some rx) clock (seen.push e.born) clock) = w5 at *
      have hI5 := hI.step (by omega) k5 hR5 (by omega)
      have hen := run_entry_at (P := Tryz.prog) w5 R rx clock seen es clock e hR5 hI5.mp (mem_left he).1 hst.2.1
      have HM := Lib.hid (left_born hI.bo e he)
      obtain ⟨v, hv, hrow, hne⟩ : ∃ v, e.val = v ∧ VRow w5 lo v (vr k) ∧ vr k ≠ [] := by
        rcases hI5.ver.row k hk0 hk1 with ⟨e1, _⟩ | ⟨v, e1, e2, e3⟩
        · rw [hget] at e1; cases e1
        · rw [hget] at e1; cases e1; exact ⟨_, rfl, e2, e3⟩
      rw [hv] at hget hrun hen
      rw [hky] at hrun hen
      have HGt := Lib.hid (gat_any w5 (t := t) hI5.ver hk0 hk1)
      have hsm := hI5.ver.small k
      have HI := Lib.hid hI5
      have HGet := Lib.hid hget
      have HR := Lib.hid hR
      have Hne := Lib.hid hne
      have x1 : w5.cell? ⟨X, 1, none⟩ = some (.map (some rx)) := cell_is hI5.ver.x 1 rfl
      obtain ⟨xs, ho, hxs⟩ := hrow
      have hnl : (vr k).length ≠ 0 := fun e => hne (List.length_eq_zero_iff.1 e)
      obtain ⟨g, cap, cur, rfl, hlg, hgc, hcells, hc2, hc3⟩ : ∃ g cap cur, v = .slice (some ⟨g, 0, none⟩) (vr k).length cap ∧ lo ≤ g ∧ w5.heap[g]? = some (.cells cur 288 (0, 0)) ∧ cur.toList.take ((vr k).length * 2) = xs ∧ (vr k).length ≤ cap ∧ cap * 2 = cur.size := by
        rcases ho.2 with ⟨_, h0⟩ | ⟨g, cap, cur, e, hA, hg, hc1, hc2, hc3, ht⟩
        · exact absurd h0 hnl
        · exact ⟨g, cap, cur, e, hA, hg, ht, hc1, by first | exact hc3 | exact hc3.symm | omega⟩
      have hcells2 : ∀ wx, Chg [] w5 wx → ∀ (j : Nat) i u, (xs.drop (j * 2))[i]? = some u → wx.cell? ⟨g, j * 2 + i, none⟩ = some u := fun wx kx j i u hu => by
        refine kx.cell (cell_is hgc (j * 2 + i) ?_) (by simp)
        rw [List.getElem?_drop] at hu
        rw [← hcells, List.getElem?_take] at hu
        split at hu
        · rw [← Array.getElem?_toList]; exact hu
        · cases hu
      have hxl : xs.length = (vr k).length * 2 := ho.1
      have hone := vr_one hxl hxs
      have hnx : ∀ ty, (Instr.next (.pointer (some ⟨R, 0, none⟩)) false ty).run Tryz.prog wr = _ := fun _ => hrun
      have HC2 := Lib.hid hcells2
      have HXs := Lib.hid (And.intro hxl (And.intro hone hxs))
      have HLg := Lib.hid hlg
      clear hI hI5 hL hget ho hxs hcells hcells2 hone hxl hrun hne hnl hv hky
      go_wp2_with fail
      refine HGt.out.mono ?_
      rintro e6 w6 ⟨rfl, ⟨rfl, hno⟩ | ⟨j, rfl, hj, hvj⟩⟩
      · clear hno
        go_wp2_with fail
        go_roundw
        case rel => exact ⟨⟨n, rfl⟩, _, _, _, _, HI.out⟩
        case measure => simp only [World.iterSeen, hR5, HR.out]; exact HM.out
      · have HCut := Lib.hid (Cut.at_ (t := t) hj (by
          have := List.find?_some hvj
          simpa using this))
        have HLn := Lib.hid hj
        clear hvj
        by_cases hj0 : j = 0
        · have m1 : decide ((0 : Int) < (j : Int)) = false := decide_eq_false (by omega)
          clear HCut
          go_wp2_with fail
          go_roundw
          case rel => exact ⟨⟨n, rfl⟩, _, _, _, _, HI.out⟩
          case measure => simp only [World.iterSeen, hR5, HR.out]; exact HM.out
        · have m1 : decide ((0 : Int) < (j : Int)) = true := decide_eq_true (by omega)
          obtain ⟨len, hlen⟩ : ∃ len, len = (vr k).length := ⟨_, rfl⟩
          rw [← hlen] at HGet hc2 hj hsm ⊢
          have Hlen := Lib.hid hlen
          clear hlen HGt
          have hjl : j ≤ len := Nat.le_of_lt hj
          have hji : (j : Int) ≤ len := by omega
          have hci : (len : Int) ≤ cap := by omega
          have hcj : ¬ cap = j := by omega
          have x1d : w5.drew.cell? ⟨X, 1, none⟩ = some (.map (some rx)) := x1
          have kd : Chg [] w5 w5.drew := (Chg.refl [] w5).drew
          go_upto_region 8 with fail
          go_region_held3 (fun wx => wx.cell? ⟨X, 1, none⟩ = some (.map (some rx)))
            (first
              | (exact x1)
              | (exact x1d)
              | (exact x16)
              | (exact k7.cell x16 hrX))
            (first
              | (go_at_call 201; refine (clone_vr w5.drew (D := g) (o := j * 2) (l := xs.drop (j * 2)) (m := len - j) (by rw [List.length_drop, HXs.out.1, ← Hlen.out]; omega) (by omega) (by omega) (HC2.out _ kd j) (fun u hu => HXs.out.2.1 u (List.mem_of_mem_drop hu))).mono ?_; rintro e w6 ⟨v6, rfl, k6, o6⟩; have kk6 := kd.then k6; have x16 := k6.cell x1d (by simp); obtain ⟨es7, hmu, hb7, hI7, hbo7, k7⟩ := upd_born (w := w6) (kk6.heap HI.out.mp (by simp)) HI.out.im HGet.out v6; have hrX : X ∉ [rx] := by simpa using (map_cells HI.out.ver.m HI.out.ver.x).symm))
          all_goals
            have HF := Lib.hid (And.intro hb7 (And.intro hI7 (And.intro hbo7 (And.intro k7 (And.intro kk6 (And.intro o6 k6))))))
            clear hb7 hI7 hbo7 k7 kk6 o6 k6 x16
            generalize updW w6 268 rx k v6 = w7 at *
            go_wp2_with fail
            go_roundw
            case rel =>
              obtain ⟨hb7, hI7, hbo7, k7, kk6, o6, -⟩ := HF.out
              have hI := HI.out
              have hne : rx ≠ R := by omega
              have hs5 : lo ≤ w5.heap.size := by have := hI.chg.size; omega
              rw [Hlen.out] at o6
              have hr := VRow.drop HXs.out.2.2 kk6 o6 hs5
              have hcutv := VerG.cut (hI.ver.keep kk6) hI.ap hI.keys HGet.out hr (HCut.out.2.1 Hne.out) (by simp) (fun g6 hg6 c u hu hug => by
                have h1 := (own_elem o6 hg6).1
                have hck := hI.keys _ (getL_memk hu)
                rcases hI.ver.row c hck.1 hck.2 with ⟨e1, -⟩ | ⟨u', e1, e2, -⟩
                · rw [hu] at e1; cases e1
                · rw [hu] at e1
                  cases e1
                  obtain ⟨cs, hh⟩ := e2.block g6 hug
                  have h2 := heap_lt hh
                  have h3 : w5.heap.size ≤ g6 := h1
                  omega) ⟨_, _, hb7, hI7⟩ k7
              refine ⟨⟨_, rfl⟩, seen.push e.born, es7, _, _, k7.heap (kk6.heap hR5 (by simp)) (by simpa using hne.symm), hb7, hI7, hbo7.trans hI.bo, hcutv.1, hcutv.2.1, hcutv.2.2, fun b => ?_, (hI.chg.then (kk6.mono (fun x hx _ => by cases hx))).then k7⟩
              by_cases hb : b = k
              · rw [if_pos hb, hb]; exact (hI.cut k).trans HCut.out
              · rw [if_neg hb]; exact hI.cut b
            case measure =>
              obtain ⟨hb7, hI7, hbo7, k7, kk6, o6, -⟩ := HF.out
              have hne : rx ≠ R := by omega
              have hR7 := k7.heap (kk6.heap hR5 (by simp)) (by simpa using hne.symm)
              simp only [World.iterSeen, hR7, HR.out]
              exact HM.out
end Go.Proofs.YtelakcjbknbehaaGreat
namespace Go.Proofs.YtelakcjbknbehaaGreat
open Go.RowKit Go.Lib Go.Maps Go.Shelf

set_option maxRecDepth 100000 in
set_option maxHeartbeats 2000000 in
theorem low_one (w : World) {B rb : Nat} {bl t hh t0 : Int} (h : BookAt w B rb bl [(hh, .int .i64 t0)]) : Calls Tryz.prog 141 #[.pointer (some ⟨B, 0, none⟩), .int .i64 t] w fun e w' => e = .returned (.int .i64 (min t t0)) ∧ Chg [] w w' := by
  have b2 : w.cell? ⟨B, 2, none⟩ = some (.map (some rb)) := cell_is h.1 2 rfl
  have hbl := h.2.lt
  obtain ⟨es, clock, hm, hI⟩ := h.2
  have hst := hI.st
  obtain ⟨e0, hes, hk0, hv0⟩ : ∃ e0, es = #[e0] ∧ e0.key = .int .i64 hh ∧ e0.val = .int .i64 t0 := by
    have h1 : es.toList.map (fun e => (e.key, e.val)) = [((hh, Value.int .i64 t0) : Int × Value)].map (fun p => (Value.int .i64 p.1, p.2)) := hI.im
    have hl := congrArg List.length h1
    rw [List.length_map, List.length_map] at hl
    obtain ⟨e0, he⟩ := Array.size_eq_one_iff.1 (show es.size = 1 by rw [← Array.length_toList]; exact hl)
    subst he
    simp only [List.map_cons, List.map_nil, List.cons.injEq, and_true, Prod.mk.injEq] at h1
    exact ⟨e0, rfl, h1.1, h1.2⟩
  subst hes
  have hr1 := run_range_map (P := Tryz.prog) w 263 3 3 rb #[e0] clock (by kernel_rfl) hm
  have kR : Chg [] w (w.alloc (.mapIter (some rb) clock #[] clock)) := Chg.alloc w _
  have R0 := heap_new w (.mapIter (some rb) clock #[] clock)
  have m3 := kR.heap hm (by simp)
  have HI := Lib.hid (And.intro R0 (And.intro m3 kR))
  have HE := Lib.hid (And.intro hk0 hv0)
  have HS := Lib.hid hst
  clear h hI hm kR R0 m3 hk0 hv0 hst
  go_enter Tryz.func141, Tryz.ntmps141
  go_wp2_with fail
  generalize hzR : w.heap.size = R at *
  generalize w.alloc (.mapIter (some rb) clock #[] clock) = w3 at *
  clear hr1 b2
  go_loopw [1, 6] (fun a _ wr => ∃ seen, wr.heap[R]? = some (.mapIter (some rb) clock seen clock) ∧ wr.heap[rb]? = some (.map #[e0] clock) ∧ Chg [] w wr ∧ ((a = .int .i64 t ∧ seen = #[]) ∨ (a = .int .i64 (min t t0) ∧ seen = #[e0.born]))) (fun _ _ wr => (leftOf #[e0] (wr.iterSeen R)).size)
  case atStart => exact ⟨#[], HI.out.1, HI.out.2.1, HI.out.2.2, Or.inl ⟨rfl, rfl⟩⟩
  case round =>
    obtain ⟨seen, hR, hb1, kr, ha⟩ := hrel
    rename World => wr
    clear HI
    have hl0 : leftOf #[e0] #[] = #[e0] := by simp [leftOf]
    have hl1 : leftOf #[e0] #[e0.born] = #[] := by simp [leftOf]
    have HR := Lib.hid hR
    rcases ha with ⟨rfl, rfl⟩ | ⟨rfl, rfl⟩
    · rcases run_next_at (P := Tryz.prog) wr 0 R rb clock clock #[] #[e0] clock hR hb1 HS.out.1 (Nat.le_refl _) with ⟨h0, -⟩ | ⟨e, he, w2, hal2, hrun⟩
      · rw [hl0] at h0; cases h0
      · have hee : e = e0 := by have := (mem_left he).1; simpa using this
        subst hee
        obtain ⟨hR5, k5⟩ := set_iter (sn := #[].push e.born) hR hal2
        generalize hw5 : Go.ChangeMaps.setBlock w2 R (.mapIter (some rb) clock (#[].push e.born) clock) = w5 at *
        have hne : rb ∉ [R] := by rw [List.mem_singleton]; omega
        have hb5 := k5.heap hb1 hne
        have hen := run_entry_at (P := Tryz.prog) w5 R rb clock #[] #[e] clock e hR5 hb5 (by simp) HS.out.2.1
        have kr5 : Chg [] w w5 := kr.trans k5 (fun x hx hlt => by simp at hx; omega)
        rw [HE.out.1, HE.out.2] at hrun hen
        have hnx : ∀ ty, (Instr.next (.pointer (some ⟨R, 0, none⟩)) false ty).run Tryz.prog wr = _ := fun _ => hrun
        have HB5 := Lib.hid (And.intro hR5 (And.intro hb5 kr5))
        clear hR5 hb5 kr5 k5 hR hb1 kr hrun
        go_wp2_with fail
        go_roundw
        case rel => exact ⟨_, HB5.out.1, HB5.out.2.1, HB5.out.2.2, Or.inr ⟨rfl, rfl⟩⟩
        case measure =>
          simp only [World.iterSeen, HB5.out.1, HR.out]
          rw [hl0]
          show (leftOf #[e] #[e.born]).size < _
          rw [hl1]
          exact Nat.zero_lt_one
    · rcases run_next_at (P := Tryz.prog) wr 0 R rb clock clock #[e0.born] #[e0] clock hR hb1 HS.out.1 (Nat.le_refl _) with ⟨h0, hrun⟩ | ⟨e, he, -⟩
      · have hnx : ∀ ty, (Instr.next (.pointer (some ⟨R, 0, none⟩)) false ty).run Tryz.prog wr = _ := fun _ => hrun
        go_wp2_with fail
        go_ret
        exact ⟨rfl, kr⟩
      · rw [hl1] at he; simp at he
/-- what a Clean leaves beside a reader of time t0. -/
def ClL (t0 : Int) (w w' : World) (lw : Nat) (d : Ids) (s : Gs) (g : Gd) : Prop :=
  ∃ L' vs', Sto w' lw d { s with Lv := L', vs := vs' } g ∧ Cs lw w w' ∧ Chg [d.rx] w w' ∧ ∀ b, Cut (min s.last t0) (s.vs b) (vs' b)
set_option maxRecDepth 100000 in
set_option maxHeartbeats 2000000 in
theorem tprune_low (w : World) {M X rx B rb r : Nat} {s : Gs} (h : Mx w M X rx B rb r s) {hh t0 : Int} (hLb : s.Lb = [(hh, .int .i64 t0)]) (hap : ApL s.Lv) (hk : ∀ p ∈ s.Lv, 0 ≤ p.1 ∧ p.1 < 258) (hlo : s.lo ≤ w.heap.size) :
    Calls Tryz.prog 64 #[.pointer (some ⟨M, 0, none⟩)] w fun e w' => (∃ n : Int, e = .returned (.int .i64 n)) ∧ PrG w w' s.lo X rx s.lastv (min s.last t0) s.vs := by
  have HG := Lib.hid (tgone_x w h)
  obtain ⟨m0, m1, -, m7⟩ := h.cells
  have hbk := h.book
  rw [hLb] at hbk
  have HL := Lib.hid (low_one w.drew (t := s.last) ⟨hbk.1, hbk.2.keep (Chg.refl [] w).drew (by simp)⟩)
  have HP := Lib.hid (fun wx (k : Chg [] w wx) => prune_ok wx (t := min s.last t0) (h.ver.keep k) hap hk (Nat.le_trans hlo k.size))
  have kd : Chg [] w w.drew := (Chg.refl [] w).drew
  have m0d : w.drew.cell? ⟨M, 0, none⟩ = some (.pointer (some ⟨X, 0, none⟩)) := m0
  have m1d : w.drew.cell? ⟨M, 1, none⟩ = some (.pointer (some ⟨B, 0, none⟩)) := m1
  have m7d : w.drew.cell? ⟨M, 7, none⟩ = some (.int .i64 s.last) := m7
  have hmr := h.mgr
  have hvm := h.ver.m
  clear h hbk
  go_enter Tryz.func64, Tryz.ntmps64
  go_wp2_with fail
  refine HG.out.mono ?_
  rintro e w1 ⟨rfl, rfl⟩
  go_wp2_with fail
  go_region_held3 (fun wx => wx.cell? ⟨M, 0, none⟩ = some (.pointer (some ⟨X, 0, none⟩)) ∧ wx.cell? ⟨M, 1, none⟩ = some (.pointer (some ⟨B, 0, none⟩)) ∧ wx.cell? ⟨M, 7, none⟩ = some (.int .i64 s.last))
    (first
      | (exact ⟨m0, m1, m7⟩)
      | (exact ⟨m0d, m1d, m7d⟩)
      | (exact ⟨k1.cell m0d (by simp), k1.cell m1d (by simp), k1.cell m7d (by simp)⟩)
      | (exact ⟨k2.1.cell (k1.cell m0d (by simp)) hrM, k2.1.cell (k1.cell m1d (by simp)) hrM, k2.1.cell (k1.cell m7d (by simp)) hrM⟩))
    (first
      | (go_at_call 141; refine HL.out.mono ?_; rintro e w2 ⟨rfl, k1⟩)
      | (go_at_call 140; refine (HP.out w2 (kd.then k1)).mono ?_; rintro e w3 ⟨⟨n, rfl⟩, k2⟩; have hrM : M ∉ [rx] := by simpa using (map_cells hvm hmr).symm))
  all_goals
    have HF := Lib.hid (And.intro (kd.then k1) k2)
    clear k1 k2
    go_wp2_with fail
    go_ret
    obtain ⟨q1, q2, q3⟩ := HF.out
    exact ⟨⟨_, rfl⟩, (q1.mono (fun x hx _ => by cases hx)).then q2, q3⟩
set_option maxRecDepth 100000 in
theorem sclean_low (w : World) {lw : Nat} {d : Ids} {s : Gs} {g : Gd} (h : Sto w lw d s g) {hh t0 : Int} (hLb : s.Lb = [(hh, .int .i64 t0)]) : Calls Tryz.prog 22 #[.pointer (some ⟨d.P, 0, none⟩)] w fun e w' => (∃ n : Int, e = .returned (.int .i64 n)) ∧ ClL t0 w w' lw d s g := by
  have HD := Lib.hid (dead_g w h.store)
  have p5 : w.cell? ⟨d.P, 5, none⟩ = some (.pointer (some ⟨d.M, 0, none⟩)) := cell_is h.store 5 rfl
  have HP := Lib.hid (tprune_low w h.mx hLb h.ap h.keys h.slo)
  have HS := Lib.hid h
  clear h
  go_enter Tryz.func22, Tryz.ntmps22
  go_wp2_with fail
  refine HD.out.mono ?_
  rintro e w1 ⟨rfl, rfl⟩
  go_wp2_with fail
  refine HP.out.mono ?_
  rintro e w1 ⟨⟨n, rfl⟩, k1, L', vs', hv, ha, hk, hc⟩
  have hF : ClL t0 w w1 lw d s g := by
    have hS := HS.out
    have hm := hS.mx.ver.m
    have av : ∀ ts, Av w [d.rx] ts := fun ts => av_map hm ts
    have ne : ∀ {x : Nat} {cs : Array Value} {t : TypeId}, w.heap[x]? = some (.cells cs t (0, 0)) → x ∉ [d.rx] := fun hh => by simpa using (map_cells hm hh).symm
    refine ⟨L', vs', ⟨k1.heap hS.store (ne hS.store), k1.heap hS.slot (ne hS.slot), hS.text.keep k1 (av _), hS.dev.keep k1 (av _), ⟨k1.heap hS.mx.mgr (ne hS.mx.mgr), hv, ⟨k1.heap hS.mx.book.1 (ne hS.mx.book.1), hS.mx.book.2.keep k1 (by simpa using hS.mx.n1.symm)⟩, hS.mx.map.keep k1 (by simpa using hS.mx.n3), hS.mx.n1, hS.mx.n2, hS.mx.n3⟩, ha, hk, hS.bnd, hS.bndZ, Nat.le_trans hS.slo k1.size, hS.dlo⟩, ⟨[d.rx], k1, fun x hx hlt => ?_⟩, k1, hc⟩
    rw [List.mem_singleton] at hx
    subst hx
    exact ⟨hS.bnd.2.2.2.2.2.1, fun cs t fr hh => absurd rfl (map_cells hm hh)⟩
  have HF := Lib.hid hF
  clear hF k1 hv ha hk hc
  go_wp2_with fail
  go_ret
  exact ⟨⟨n, rfl⟩, HF.out⟩
end Go.Proofs.YtelakcjbknbehaaGreat
namespace Go.Proofs.YtelakcjbknbehaaGreat
open Go.RowKit Go.Lib

/-- the old blocks that a Commit changes. -/
def CmX (d : Ids) (w w' : World) : Prop := ∃ U, Chg U w w' ∧ ∀ x ∈ U, x < w.heap.size → x = d.M ∨ x = d.T ∨ ∃ cs, w.heap[x]? = some (.cells cs 3 (0, 0))
/-- the old blocks that a Flush changes. -/
def FlX (d : Ids) (w w' : World) : Prop := ∃ U, Chg U w w' ∧ ∀ x ∈ U, x < w.heap.size → x = d.M ∨ x = d.T ∨ x = d.rb ∨ x = d.X ∨ x = d.rx ∨ ∃ cs t, w.heap[x]? = some (.cells cs t (0, 0)) ∧ t ∈ [288, 102, 128, 132, 47]
theorem FlX.of_chg {d : Ids} {w w' : World} (h : Chg [] w w') : FlX d w w' := ⟨[], h, fun x hx => by cases hx⟩
theorem FlX.trans {d : Ids} {a b c : World} (h : FlX d a b) (k : FlX d b c) : FlX d a c := by
  obtain ⟨S, h1, h2⟩ := h
  obtain ⟨U, k1, k2⟩ := k
  refine ⟨S ++ U, (h1.mono (fun x hx _ => List.mem_append_left _ hx)).trans k1 (fun x hx _ => List.mem_append_right _ hx), fun x hx hlt => ?_⟩
  by_cases hT : x ∈ S
  · exact h2 x hT hlt
  · rcases List.mem_append.1 hx with hx | hx
    · exact absurd hx hT
    · rcases k2 x hx (Nat.lt_of_lt_of_le hlt h1.size) with e | e | e | e | e | ⟨cs, t, e, ht⟩
      · exact Or.inl e
      · exact Or.inr (Or.inl e)
      · exact Or.inr (Or.inr (Or.inl e))
      · exact Or.inr (Or.inr (Or.inr (Or.inl e)))
      · exact Or.inr (Or.inr (Or.inr (Or.inr (Or.inl e))))
      · exact Or.inr (Or.inr (Or.inr (Or.inr (Or.inr ⟨cs, t, by rw [← h1.block x hlt hT]; exact e, ht⟩))))
theorem FlX.of_tp {d : Ids} {w w' : World} {U : List Nat} (h : Chg U w w') (ht : Tp w U [102, 128, 132, 47]) : FlX d w w' :=
  ⟨U, h, fun x hx _ => by
    obtain ⟨cs, t, e1, e2⟩ := ht x hx
    exact Or.inr (Or.inr (Or.inr (Or.inr (Or.inr ⟨cs, t, e1, List.mem_cons_of_mem _ e2⟩))))⟩
theorem FlX.of_cd {d : Ids} {lo : Nat} {w w' : World} (h : Cd lo d.M d.T d.rb d.X d.rx w w') : FlX d w w' := by
  obtain ⟨U, h1, h2⟩ := h
  refine ⟨U, h1, fun x hx hlt => ?_⟩
  rcases h2 x hx hlt with e | e | e | e | e | ⟨-, cs, e⟩
  · exact Or.inl e
  · exact Or.inr (Or.inl e)
  · exact Or.inr (Or.inr (Or.inl e))
  · exact Or.inr (Or.inr (Or.inr (Or.inl e)))
  · exact Or.inr (Or.inr (Or.inr (Or.inr (Or.inl e))))
  · exact Or.inr (Or.inr (Or.inr (Or.inr (Or.inr ⟨cs, 288, e, by simp⟩))))
set_option maxRecDepth 100000 in
theorem scommit_x (w : World) {lw base loq n k : Nat} {d : Ids} {s : Gs} {g : Gd} {p : Par} {q : Int → List UInt8} {L : List (Int × Value)} {pq : Option Addr} {cq : Nat} (hf : Fr base d p (StoF lw d s g)) (h : Su w base d p (StoF lw d s g) q L n) (hqv : s.qv = .slice pq 0 cq) (hq : w.ownsRow loq 3 1 (.slice pq 0 cq) 0 []) (hlq : loq ≤ w.heap.size) (hlw : lw ≤ loq)
    (hrd : s.rd = false) (ho : OldV p.Lv p.vs p.t) (hg : s.given + 1 = (k : Nat)) (hg1 : s.given < 1099511627776) (hg0 : 0 ≤ s.given) (hl : L.length ≤ 16) (hl0 : 0 < L.length) (hn : n ≤ 16) (htab : getL s.Lr p.h = some (.pointer (some ⟨d.T, 0, none⟩))) (hbook : getL s.Lb p.h = some (.int .i64 p.t)) (hT : lw ≤ d.T) :
    Calls Tryz.prog 19 #[.pointer (some ⟨d.P, 0, none⟩), .int .i64 p.h] w fun e w' => e = .returned (.int .i64 0) ∧ ComR w w' lw cq d s g p L q k ∧ CmX d w w' := by
  have hS : Sto w lw d s g := h.env
  have hN := hf.need w h.env
  have hm := hS.mx.mgr
  rw [hqv, hrd] at hm
  refine scommit_one w hN ((tcommit_old w hN ho hm hg0 hg1 hq hlq h.tx h.buf h.bufD h.keys hl hl0 h.vw h.sp hn).mono ?_)
  rintro e w' ⟨gq, c, rfl, k1, hm', ho', hT'⟩
  refine ⟨rfl, ?_, ⟨_, k1, fun x hx _ => by
    simp only [List.mem_cons] at hx
    rcases hx with rfl | rfl | hx
    · exact Or.inl rfl
    · exact Or.inr (Or.inl rfl)
    · obtain ⟨-, cs, hh⟩ := own_elem hq (show (Value.slice pq 0 cq).ownBlock = some x by simpa using hx)
      exact Or.inr (Or.inr ⟨cs, hh⟩)⟩⟩
  refine ⟨gq, c, ?_⟩
  have tp : Tp w (d.M :: d.T :: (Value.slice pq 0 cq).ownBlock.toList) [195, 203, 3] := fun x hx => by
    simp only [List.mem_cons] at hx
    rcases hx with rfl | rfl | hx
    · exact ⟨_, _, hm, by simp⟩
    · exact ⟨_, _, h.tx, by simp⟩
    · obtain ⟨-, cs, hh⟩ := own_elem hq (show (Value.slice pq 0 cq).ownBlock = some x by simpa using hx)
      exact ⟨_, _, hh, by simp⟩
  have hbn := hS.bnd
  refine ⟨⟨k1.heap hS.store ((tp.av (ts' := [102]) (by decide)).ne hS.store (by simp)), k1.heap hS.slot ((tp.av (ts' := [210]) (by decide)).ne hS.slot (by simp)), hS.text.keep k1 (tp.av (by decide)), hS.dev.keep k1 (tp.av (by decide)),
    ⟨by show MgrG w' d.M d.X d.B d.r (.slice (some ⟨gq, 0, none⟩) 1 c) s.out s.num s.bas s.last (s.given + 1) s.rd; rw [hrd]; exact hm', hS.mx.ver.keepA k1 (tp.av (by decide)) (tp.map hS.mx.ver.m), ⟨k1.heap hS.mx.book.1 ((tp.av (ts' := [265]) (by decide)).ne hS.mx.book.1 (by simp)), hS.mx.book.2.keep k1 (tp.map hS.mx.book.2)⟩, hS.mx.map.keep k1 (tp.map hS.mx.map), hS.mx.n1, hS.mx.n2, hS.mx.n3⟩, hS.ap, hS.keys, hS.bnd, hS.bndZ, Nat.le_trans hS.slo k1.size, hS.dlo⟩, ?_, ⟨_, k1, fun x hx _ => ⟨?_, fun cs t fr hh => ?_⟩⟩⟩
  · refine ⟨rfl, ?_, ?_, htab, by rw [← hg]; exact hT', h.buf.keep k1 ((tp.av (ts' := [267]) (by decide)).ne h.buf.1 (by simp)) (tp.map h.buf.2), h.bufD.keepA k1 (tp.av (by decide)), h.keys, hl0, by omega, hbook⟩
    · obtain ⟨pz, cz', e, hle⟩ := own_form ho'
      cases e
      omega
    · rcases ho'.2 with ⟨e, h0⟩ | ⟨g', cap', cur', e, -, hh, -, -, -, ht⟩
      · omega
      · cases e
        refine ⟨_, hh, ?_⟩
        have := congrArg (fun l => l[0]?) ht
        simpa [List.getElem?_take] using this
  · simp only [List.mem_cons] at hx
    rcases hx with rfl | rfl | hx
    · omega
    · exact hT
    · have := (own_elem hq (show (Value.slice pq 0 cq).ownBlock = some x by simpa using hx)).1
      omega
  · simp only [List.mem_cons] at hx
    rcases hx with rfl | rfl | hx
    · rw [hm] at hh; cases hh; exact Or.inl rfl
    · rw [h.tx] at hh; cases hh; exact Or.inr (Or.inl rfl)
    · rcases hq.2 with ⟨e, h0⟩ | ⟨g', cap', cur', e, -, hh', -, -, hz, -⟩
      · cases e; cases hx
      · cases e
        obtain rfl : x = g' := by simpa [Value.ownBlock] using hx
        rw [hh'] at hh
        cases hh
        exact Or.inr (Or.inr ⟨rfl, by omega⟩)
set_option maxRecDepth 100000 in
set_option maxHeartbeats 4000000 in
theorem sflush_x (w : World) {lw : Nat} {d : Ids} {s : Gs} {g : Gd} {gq cq : Nat} {hdl : Int} {k : Nat} {t t0 : Int} {L : List (Int × Value)} {D : Int → List UInt8} (h : Sto w lw d s g) (hw : Wtx w d s gq cq hdl k t t0 L D) (hout : s.out = 0) (hT : lw ≤ d.T) (hlw : lw ≤ w.heap.size)
    (hk0 : 1 ≤ k) (hlast : s.lastv < k) (hk1 : k ≤ 1099511627776) (hs : ∀ c, (s.vs c).length + 16 < 1000000) (hn0 : 0 ≤ s.num) (hn1 : s.num ≤ 100000000) (hz6 : (g.zs 6).length = min g.pos 96) (hz7 : (g.zs 7).length = g.pos - 96) (hpos : g.pos + L.length + 1 ≤ 192) (ho0 : 0 ≤ g.ops) (ho1 : g.ops ≤ 900000) (hcnt : g.cnt < 4294967296) (hnum : g.num < 1000000000) :
    Calls Tryz.prog 21 #[.pointer (some ⟨d.P, 0, none⟩)] w fun e w' => e = .returned (.int .i64 0) ∧ FlushT w w' lw d s g k hdl (putsL L D) ∧ FlX d w w' := by
  have HD := Lib.hid (dead_g w h.store)
  have p5 : w.cell? ⟨d.P, 5, none⟩ = some (.pointer (some ⟨d.M, 0, none⟩)) := cell_is h.store 5 rfl
  have hm := h.mx.mgr
  rw [hw.qv, hout] at hm
  obtain ⟨cs, hq1, hq2⟩ := hw.q
  have hpl : (putsL L D).length = L.length := putsL_length L D
  have HB := Lib.hid (tbatch_one w (k := k) (l := putsL L D) hm (by have := hw.len; omega) hn0 (by omega) (fun w1 k1 => waiting_one w1 (k1.heap hm (by simp)) (k1.cell (cell_is hq1 0 hq2) (by simp)) (h.mx.map.keep k1 (by simp)) hw.tab (k1.heap hw.tx (by simp)) (hw.buf.keep k1 (by simp) (by simp)) (hw.bd.keep k1) hw.bk (by have := hw.len; omega)))
  have HS := Lib.hid h
  have HW := Lib.hid hw
  have HO := Lib.hid hout
  have HQv := Lib.hid hw.qv
  clear h hw hm hout hq1 hq2
  go_enter Tryz.func21, Tryz.ntmps21
  go_wp2_with fail
  refine HD.out.mono ?_
  rintro e w1 ⟨rfl, rfl⟩
  go_wp2_with fail
  refine HB.out.mono ?_
  rintro e w1 ⟨gt, ct, rfl, k1, hm1, ht1⟩
  have hS := HS.out
  have avM : ∀ ts, 195 ∉ ts → Av w [d.M] ts := fun ts h1 => Av.row hS.mx.mgr h1
  have nmM : ∀ {x L}, MapAt w x L → x ∉ [d.M] := fun hm => by simpa using map_cells hm hS.mx.mgr
  have S1 : Sto w1 lw d { s with out := 1 } g :=
    ⟨k1.heap hS.store ((avM [102] (by decide)).ne hS.store (by simp)), k1.heap hS.slot ((avM [210] (by decide)).ne hS.slot (by simp)), hS.text.keep k1 (avM _ (by decide)), hS.dev.keep k1 (avM _ (by decide)),
      hS.mx.chgM k1 (by rw [HQv.out]; exact hm1) rfl rfl rfl rfl rfl rfl rfl, hS.ap, hS.keys, hS.bnd, hS.bndZ, Nat.le_trans hS.slo k1.size, hS.dlo⟩
  have W1 := HW.out.keepA k1 (avM _ (by decide)) (nmM HW.out.buf.2)
  have c1 : Cs lw w w1 := Cs.of_tp (ts := [195]) k1 (fun x hx => by rw [List.mem_singleton] at hx; subst hx; exact ⟨_, _, hS.mx.mgr, by simp⟩) (by decide) (fun x hx => by rw [List.mem_singleton] at hx; subst hx; exact hS.bnd.2.2.2.1)
  have f1 : FlX d w w1 := ⟨_, k1, fun x hx _ => Or.inl (by rw [List.mem_singleton] at hx; exact hx)⟩
  have ka : Chg [] w1 (w1.alloc (.cells #[.int .i64 (s.num + 1), .slice (some ⟨gt, 0, none⟩) 1 ct] 108)) := Chg.alloc w1 _
  have A0 := heap_new w1 (.cells #[.int .i64 (s.num + 1), .slice (some ⟨gt, 0, none⟩) 1 ct] 108)
  have S2 := S1.keep ka
  have W2 := W1.keep ka
  have c2 := c1.trans (Cs.of_chg ka)
  have f2 := f1.trans (FlX.of_chg ka)
  have ht2 := ht1.keep ka
  have h7 : 7 < d.Z.length := by have := S2.dev.len; omega
  have hl0 : 0 < (putsL L D).length := by have := HW.out.len0; omega
  have hl16 : (putsL L D).length ≤ 16 := by have := HW.out.len; omega
  have hwr := swrite_two _ (num0 := s.num + 1) S2.store (fun w' k' => load_g w' (k'.heap S2.slot (by simp)) (S2.text.keep k' (Av.nil _ _))) S2.dev ho0 ho1 S2.dlo ht2 hk0 hk1 hcnt (by omega) hl0 hl16 (rise_puts D HW.out.buf.2.nodup) (putsL_in D HW.out.bk) hz6 hz7 (by rw [hpl]; exact hpos) h7
  have HWr := Lib.hid hwr
  have q5 : w1.cell? ⟨d.P, 5, none⟩ = some (.pointer (some ⟨d.M, 0, none⟩)) := cell_is S1.store 5 rfl
  have HS2 := Lib.hid S2
  have HW2 := Lib.hid W2
  have HC2 := Lib.hid c2
  have HF2 := Lib.hid f2
  have Hpl := Lib.hid hpl
  clear hwr S1 S2 W1 W2 c1 c2 f1 f2 ht1 ht2 hm1 k1 ka hS avM nmM hpos hl0 hl16 HB HD hpl hk0
  go_wp2_with fail
  generalize w1.alloc (.cells #[.int .i64 (s.num + 1), .slice (some ⟨gt, 0, none⟩) 1 ct] 108) = w2 at *
  refine HWr.out.mono ?_
  rintro e w3 ⟨rfl, hP3, ⟨U0, k0, hU0⟩, dv, hd3⟩
  have S2 := HS2.out
  have hbn := S2.bnd
  have hmem : ∀ x ∈ U0.filter (fun x => decide (x < w2.heap.size)), x ∈ d.P :: d.N :: d.Z ∨ ∃ z, z < 8 ∧ (g.dv z).ownBlock = some x := fun x hx => by
    obtain ⟨hx1, hx2⟩ := List.mem_filter.1 hx
    exact hU0 x hx1 (of_decide_eq_true hx2)
  have k3 : Chg (U0.filter (fun x => decide (x < w2.heap.size))) w2 w3 := k0.mono (fun x hx hlt => List.mem_filter.2 ⟨hx, decide_eq_true hlt⟩)
  have tp : Tp w2 (U0.filter (fun x => decide (x < w2.heap.size))) [102, 128, 132, 47] := fun x hx => by
    rcases hmem x hx with h1 | ⟨z, hz, hg⟩
    · exact S2.wtp.1 x (List.mem_append_left _ h1)
    · obtain ⟨cs, h2⟩ := (S2.dev.rows z hz).block x hg
      exact ⟨cs, 47, h2, by simp⟩
  have hlow : ∀ x ∈ U0.filter (fun x => decide (x < w2.heap.size)), lw ≤ x := fun x hx => by
    rcases hmem x hx with h1 | ⟨z, hz, hg⟩
    · exact S2.wtp.2 x (List.mem_append_left _ h1)
    · obtain ⟨xs, ho, -⟩ := S2.dev.rows z hz
      have := (own_elem ho hg).1
      omega
  have S3x : Mx w3 d.M d.X d.rx d.B d.rb d.r { s with out := 1 } := S2.mx.keepA k3 (tp.av (by decide)) (tp.map S2.mx.ver.m) (tp.map S2.mx.book.2) (tp.map S2.mx.map)
  have slot3 := k3.heap S2.slot ((tp.av (ts' := [210]) (by decide)).ne S2.slot (by simp))
  have text3 := S2.text.keep k3 (tp.av (by decide))
  have W3 := HW2.out.keepA k3 (tp.av (by decide)) (tp.map HW2.out.buf.2)
  have c3 := HC2.out.trans (Cs.of_tp k3 tp (by decide) hlow)
  have f3 := HF2.out.trans (FlX.of_tp k3 tp)
  obtain ⟨cs, hq1, hq2⟩ := W3.q
  have hdn := tdone_ok w3 S3x (show ({ s with out := 1 } : Gs).qv = _ from W3.qv) W3.cq rfl (cell_is hq1 0 hq2) W3.tab W3.tx W3.buf W3.bd W3.bk W3.len0 W3.len S2.ap S2.keys (Nat.le_trans S2.slo k3.size) hlast (by omega) hs W3.book hn0 (by show s.num ≤ _; omega)
  have HDn := Lib.hid hdn
  have r5 : w3.cell? ⟨d.P, 5, none⟩ = some (.pointer (some ⟨d.M, 0, none⟩)) := cell_is hP3 5 rfl
  have HS3 := Lib.hid (And.intro S3x (And.intro slot3 (And.intro text3 (And.intro hP3 hd3))))
  have HW3 := Lib.hid W3
  have HC3 := Lib.hid c3
  have HF3 := Lib.hid f3
  clear hdn S2 tp hmem hlow k0 hU0 hbn S3x slot3 text3 hP3 hd3 W3 c3 hq1 hq2 k3 HWr HC2 HW2 q5
  go_wp2_with fail
  refine HDn.out.mono ?_
  rintro e w4 ⟨rfl, z, ⟨⟨Lv', hx4, hap4, hk4⟩, hcd, -⟩, o4⟩
  have hX : FlX d w w4 := HF3.out.trans (FlX.of_cd hcd)
  have hF : FlushT w w4 lw d s g k hdl (putsL L D) := by
    obtain ⟨hx3, slot3, text3, hP3, hd3⟩ := HS3.out
    have c4 := HC3.out.trans (Cs.of_cd hcd hx3.mgr HW3.out.tx hx3.ver.x hx3.book.2 hx3.ver.m (by
      have := HS.out.bnd
      exact ⟨this.2.2.2.2.2.2.2.2.2.1, this.2.2.2.1, hT, this.2.2.2.2.2.2.2.1, this.2.2.2.2.1, this.2.2.2.2.2.1⟩))
    obtain ⟨U, kU, hU⟩ := hcd
    have av : ∀ ts : List Nat, (∀ t ∈ ts, t ∉ [195, 203, 270, 288]) → Av w3 U ts := fun ts hts => Cd.av hU hx3.mgr HW3.out.tx hx3.ver.x hx3.book.2 hx3.ver.m hts
    refine ⟨z, Lv', dv, ⟨?_, kU.heap slot3 ((av [210] (by decide)).ne slot3 (by simp)), text3.keep kU (av _ (by decide)), hd3.keep kU (av _ (by decide)), hx4, hap4, hk4, HS.out.bnd, HS.out.bndZ, Nat.le_trans HS.out.slo c4.size, HS.out.dlo⟩, c4, ownsRow_low o4 (Nat.le_trans hlw HC3.out.size)⟩
    exact kU.heap hP3 ((av [102] (by decide)).ne hP3 (by simp))
  have HF := Lib.hid (And.intro hF hX)
  clear hF hx4 hap4 hk4 hcd o4 HDn HS3 HW3 HC3 r5
  go_wp2_with fail
  go_ret
  exact ⟨rfl, HF.out⟩
end Go.Proofs.YtelakcjbknbehaaGreat
namespace Go.Proofs.YtelakcjbknbehaaGreat
open Go.RowKit Go.Lib Go.Maps Go.Sort Go.Shelf

set_option maxRecDepth 100000 in
/-- slices.Sorted(maps.Keys(m)). -/
theorem sortedB_any (W : World) {r : Nat} {L : List (Int × Value)} (h : MapAt W r L) (hw : ∀ p ∈ L, (Lit.int .i64 p.1).wf = true) (hl : L.length ≤ 100000) :
    Calls Tryz.prog 163 #[.func (.func 285) #[] #[.pointer (some ⟨W.heap.size, 0, none⟩)]] (W.alloc (.cells #[.map (some r)] 263)) fun e w' => ∃ v, e = .returned v ∧ w'.ownsRow W.heap.size 3 1 v L.length ((sortI (L.map Prod.fst)).map encZ) ∧ Chg [] W w' := by
  obtain ⟨D, hown, hp, hsz⟩ := owns_any (h.keep (Chg.alloc (S := []) W (.cells #[.map (some r)] 263)) (by simp)) 3 (by kernel_rfl) hw (by unfold maxLen; omega)
  have hseq : SeqGives Fence.wide 2 Tryz.prog 285 #[.pointer (some ⟨W.heap.size, 0, none⟩)] encZ (fun ss => ss.Perm (intKeys D)) (Maps.size D) (W.alloc (.cells #[.map (some r)] 263)) :=
    AnyZI.keys_gives (ρ := Tryz.keysB_ren) { Tryz.keysB with } Fence.wide _ trivial rfl (by omega) W.heap.size r L.length D _ (by simp) (by simp) hown
  have cS := AnyZI.sorted_in Tryz.sortedA Fence.wide 5 trivial trivial trivial trivial rfl (by omega) (sorts_all _) (enters_of Tryz.func211 (by kernel_rfl) rfl) 285 #[.pointer (some ⟨W.heap.size, 0, none⟩)] trivial (enters_of Tryz.func285 (by kernel_rfl) rfl) _ (Maps.size D) (by rw [hsz]; unfold maxLen; omega) (by rw [hsz]; omega) _ hseq
  refine (callsIn_wide.1 cS).mono ?_
  rintro e w' ⟨v, ss, rfl, hS, hrow, hnil, hbl⟩
  have hs : ss.mergeSort (fun x y => decide (x ≤ y)) = sortI (L.map Prod.fst) := mergeSort_of_perm_i (hS.trans hp)
  have hsl : ss.length = L.length := by rw [(hS.trans hp).length_eq, List.length_map]
  rw [hs, hsl] at hrow
  exact ⟨v, rfl, own_base hrow (by simp), (Chg.alloc W _).then (Chg.of_below hbl)⟩
set_option maxRecDepth 100000 in
theorem bcount_any (w : World) {B rb : Nat} {last : Int} {L : List (Int × Value)} (h : BookAt w B rb last L) (hk : ∀ p ∈ L, 0 ≤ p.1 ∧ p.1 ≤ 1000000) (hl : L.length ≤ 1000) : Calls Tryz.prog 179 #[.pointer (some ⟨B, 0, none⟩)] w fun e w' => e = .returned (.int .i64 L.length) ∧ Chg [] w w' := by
  have c2 : w.cell? ⟨B, 2, none⟩ = some (.map (some rb)) := cell_is h.1 2 rfl
  have HS := Lib.hid (sortedB_any w h.2 (fun p hp => wf_i64 (by have := hk p hp; omega) (by have := hk p hp; omega)) (by omega))
  have HL : Hid (Calls Tryz.prog 222 #[.pointer (some ⟨B, 0, none⟩)] w fun e w' => ∃ pa c, e = .returned (.slice pa L.length c) ∧ Chg [] w w') := Lib.hid (by
    clear h
    go_enter Tryz.func222, Tryz.ntmps222
    go_wp2_with (first
      | (go_at_call 249; refine (keysB_any (some rb) _).mono ?_; rintro e w1 ⟨rfl, rfl⟩)
      | (go_at_call 163; refine HS.out.mono ?_; rintro e w2 ⟨v2, rfl, o2, k2⟩; obtain ⟨pk, ck, rfl, hck⟩ := own_form o2))
    go_ret
    exact ⟨pk, ck, rfl, k2⟩)
  clear h HS
  go_enter Tryz.func179, Tryz.ntmps179
  go_wp2_with fail
  refine HL.out.mono ?_
  rintro e w1 ⟨pa, c, rfl, hc⟩
  go_wp2_with fail
  go_ret
  exact ⟨rfl, hc⟩
set_option maxRecDepth 100000 in
theorem hopen_many (w : World) {B rb : Nat} {bl t : Int} {L : List (Int × Value)} (h : BookAt w B rb bl L) (hk : ∀ p ∈ L, 0 ≤ p.1 ∧ p.1 ≤ 1000000) (hl : L.length < 16) (h0 : 0 ≤ t) (h1 : t ≤ 1099511627776) (hb0 : 0 ≤ bl) (hb1 : bl ≤ 1000000) : Calls Tryz.prog 114 #[.pointer (some ⟨B, 0, none⟩), .int .i64 t] w fun e w' => e = .returned (.tuple #[.int .i64 (bl + 1), .int .i64 0]) ∧ Chg [B, rb] w w' ∧ BookAt w' B rb (bl + 1) (putL L (bl + 1) (.int .i64 t)) := by
  have n0 : decide (t < 0) = false := decide_eq_false (by omega)
  have n1 : decide (1099511627776 < t) = false := decide_eq_false (by omega)
  have hw : wrap64 (bl + 1) = bl + 1 := by unfold wrap64; omega
  clear h0 h1
  go_enter Tryz.func114, Tryz.ntmps114
  go_wp2_with fail
  have hlt : (L.length : Int) < 16 := by omega
  refine (bcount_any w h hk (by omega)).mono ?_
  rintro e w1 ⟨rfl, hc⟩
  have h1 := h.keep hc (by simp) (by simp)
  go_wp2_with fail
  refine (room_any w1 h1).mono ?_
  rintro e w2 ⟨rfl, rfl⟩
  have c1 : w1.cell? ⟨B, 1, none⟩ = some (.int .i64 bl) := cell_is h1.1 1 rfl
  have f1 := unfrozen h1.1 1
  have h2 : (w1.setCell ⟨B, 1, none⟩ (.int .i64 (bl + 1))).heap[B]? = some (.cells #[.int .i64 16, .int .i64 (bl + 1), .map (some rb)] 265 (0, 0)) := heap_set h1.1 1 _ rfl
  have hne : rb ≠ B := map_cells h1.2 h1.1
  have k2 := Chg.set w1 B 1 (.int .i64 (bl + 1))
  have m2 : MapAt (w1.setCell ⟨B, 1, none⟩ (.int .i64 (bl + 1))) rb L := h1.2.keep k2 (by simpa using hne)
  have hc2 : Chg [B, rb] w (w1.setCell ⟨B, 1, none⟩ (.int .i64 (bl + 1))) := (hc.mono (T := [B, rb]) (fun x hx _ => by cases hx)).then (k2.mono (fun x hx _ => by simp at hx; simp [hx]))
  clear h1 h
  go_wp2_with fail
  generalize w1.setCell ⟨B, 1, none⟩ (.int .i64 (bl + 1)) = w2 at *
  have e1 : w2.cell? ⟨B, 1, none⟩ = some (.int .i64 (bl + 1)) := cell_is h2 1 rfl
  have e2 : w2.cell? ⟨B, 2, none⟩ = some (.map (some rb)) := cell_is h2 2 rfl
  have m3 : MapAt w2.drew rb L := m2
  obtain ⟨w3, hmu, m4, k3, hs3⟩ := run_update_im (P := Tryz.prog) (mty := 263) (kt := 3) (et := 3) (by kernel_rfl) (by kernel_rfl) m3 (bl + 1) (.int .i64 t)
  go_region_held3 (fun wx => wx.cell? ⟨B, 1, none⟩ = some (.int .i64 (bl + 1)) ∧ wx.cell? ⟨B, 2, none⟩ = some (.map (some rb))) (first | (exact ⟨e1, e2⟩) | (exact ⟨k3.cell e1 (by simpa using hne.symm), k3.cell e2 (by simpa using hne.symm)⟩)) (fail)
  have g3 : w3.heap[B]? = some (.cells #[.int .i64 16, .int .i64 (bl + 1), .map (some rb)] 265 (0, 0)) := k3.heap (g := B) h2 (by simpa using hne.symm)
  have e3 : w3.cell? ⟨B, 1, none⟩ = some (.int .i64 (bl + 1)) := cell_is g3 1 rfl
  clear e1 e2 hmu
  go_wp2_with fail
  go_ret2
  exact ⟨rfl, hc2.then (Chg.trans (Chg.refl [B, rb] w2).drew k3 (fun x hx _ => by simp at hx; simp [hx])), g3, m4⟩
/-- what a manager's Begin leaves. -/
def BegRm (w w' : World) (M X rx B rb r : Nat) (s : Gs) : Prop := ∃ T W rw Q V, Chg [B, rb, r] w w' ∧ Mx w' M X rx B rb r { s with bl := s.bl + 1, Lb := putL s.Lb (s.bl + 1) (.int .i64 s.last), Lr := putL s.Lr (s.bl + 1) (.pointer (some ⟨T, 0, none⟩)) } ∧ TxT w' T W Q s.last ∧ BufAt w' W rw [] ∧ ViewT w' Q X W V s.last (.slice none 0 0) ∧ SpansAt w' V (.slice none 0 0) ∧ rw ≠ r ∧ rw ≠ rb ∧ rw ≠ rx ∧ w.heap.size ≤ T ∧ w.heap.size ≤ W ∧ w.heap.size ≤ rw ∧ w.heap.size ≤ Q ∧ w.heap.size ≤ V
set_option maxRecDepth 100000 in
set_option maxHeartbeats 1000000 in
theorem tbegin_many (w : World) {M X rx B rb r : Nat} {s : Gs} (h : Mx w M X rx B rb r s) (hLk : ∀ p ∈ s.Lb, 0 ≤ p.1 ∧ p.1 ≤ 1000000) (hLl : s.Lb.length < 16) (h0 : 0 ≤ s.last) (h1 : s.last ≤ 1099511627776) (hb0 : 0 ≤ s.bl) (hb1 : s.bl ≤ 1000000) : Calls Tryz.prog 54 #[.pointer (some ⟨M, 0, none⟩)] w fun e w' =>
    e = .returned (.tuple #[.int .i64 (s.bl + 1), .int .i64 0]) ∧ BegRm w w' M X rx B rb r s := by
  have hh := h.keep (Chg.refl [] w).drew
  have hbk := hh.book
  have HO := Lib.hid (hopen_many w.drew (t := s.last) hbk hLk hLl h0 h1 hb0 hb1)
  obtain ⟨t, ht⟩ : ∃ t, t = s.last := ⟨_, rfl⟩
  obtain ⟨bl, hbl⟩ : ∃ t, t = s.bl := ⟨_, rfl⟩
  obtain ⟨bn, hbn⟩ : ∃ t, t = bl + 1 := ⟨_, rfl⟩
  obtain ⟨c0, c1, c2, c7⟩ := h.cells
  rw [← hbl, ← hbn] at HO ⊢
  rw [← ht] at HO c7
  have HG := Lib.hid (tgone_x w h)
  have HT := Lib.hid ht
  have HBl := Lib.hid hbl
  have HBn := Lib.hid hbn
  have HM := Lib.hid h
  have HH := Lib.hid hh
  clear h0 h1 hb0 hb1 hLk hLl hbk ht hbl hbn h hh
  go_enter Tryz.func54, Tryz.ntmps54
  go_wp2_with fail
  refine HG.out.mono ?_
  rintro e w1 ⟨rfl, rfl⟩
  go_wp2_with fail
  go_region_held3 (fun wx => wx.cell? ⟨M, 1, none⟩ = some (.pointer (some ⟨B, 0, none⟩)) ∧ wx.cell? ⟨M, 7, none⟩ = some (.int .i64 t)) (first | (exact ⟨c1, c7⟩) | (exact ⟨h2.cells.2.1, by rw [HT.out]; exact h2.cells.2.2.2⟩))
    (first
      | (go_at_call 114; refine HO.out.mono ?_; rintro e w2 ⟨rfl, k2, hb2⟩; have h2 := HH.out.opened k2 hb2))
  clear c0 c1 c2 c7 HO HG HH
  obtain ⟨c0, c1, c2, c7⟩ := h2.cells
  have c7' : w2.cell? ⟨M, 7, none⟩ = some (.int .i64 t) := by rw [HT.out]; exact c7
  clear c7
  have HB := Lib.hid (gblocks_any w2 h2.ver)
  have H2 := Lib.hid h2
  clear h2
  go_wp2_with fail
  refine HB.out.mono ?_
  rintro e w3 ⟨rfl, rfl⟩
  go_wp2_with fail
  refine (wnew_any w2).mono ?_
  rintro e w3 ⟨W, rw, rfl, k3, hW, l1, l2⟩
  have h3 := H2.out.keep k3
  clear c0 c1 c2 c7' HB
  obtain ⟨c0, c1, c2, c7⟩ := h3.cells
  have c7' : w3.cell? ⟨M, 7, none⟩ = some (.int .i64 t) := by rw [HT.out]; exact c7
  clear c7
  have H3 := Lib.hid h3
  have HW := Lib.hid hW
  clear h3 hW
  go_wp2_with fail
  go_region_held3 (fun wx => wx.cell? ⟨M, 0, none⟩ = some (.pointer (some ⟨X, 0, none⟩)) ∧ wx.cell? ⟨M, 1, none⟩ = some (.pointer (some ⟨B, 0, none⟩)) ∧ wx.cell? ⟨M, 2, none⟩ = some (.map (some r)) ∧ wx.cell? ⟨M, 7, none⟩ = some (.int .i64 t))
    (first
      | (exact ⟨c0, c1, c2, c7'⟩)
      | (rw [HT.out]; exact H4.out.cells)
      | (rw [HT.out]; exact (H4.out.keep (Chg.alloc (S := []) _ _)).cells)
      | (rw [HT.out]; exact ((H4.out.keep (Chg.alloc (S := []) w4 _)).table (upd178 (H4.out.keep (Chg.alloc (S := []) w4 _)).map _ _).2.2 (upd178 (H4.out.keep (Chg.alloc (S := []) w4 _)).map _ _).2.1).cells))
    (first
      | (go_at_call 117; refine (vnew_gen w3.drew X W t).mono ?_; rintro e w4 ⟨Q, V, rfl, k4, hQ, hV, l3, l4⟩; have H4 := Lib.hid ((H3.out.keep (Chg.refl [] w3).drew).keep k4); have hmu : ∀ o v, (Instr.mapUpdate 193 (.map (some r)) (.int .i64 bn) v).run Tryz.prog (w4.alloc o) = .ok () (updW (w4.alloc o) 193 r bn v) := fun o v => (upd178 (H4.out.map.keep (Chg.alloc (S := []) w4 o) (by simp)) bn v).1))
  have q1 := H2.out.map.lt
  have q2 := H2.out.book.2.lt
  have q3 := H2.out.ver.m.lt
  have h5 := H4.out.keep (Chg.alloc (S := []) w4 (.cells #[.int .i64 1, .int .i64 0, .int .i64 0, .int .i64 t, .pointer (some ⟨W, 0, none⟩), .pointer (some ⟨Q, 0, none⟩)] 203))
  have hT : TxT (w4.alloc (.cells #[.int .i64 1, .int .i64 0, .int .i64 0, .int .i64 t, .pointer (some ⟨W, 0, none⟩), .pointer (some ⟨Q, 0, none⟩)] 203)) w4.heap.size W Q t := heap_new w4 _
  have kx := Chg.alloc (S := []) w4 (.cells #[.int .i64 1, .int .i64 0, .int .i64 0, .int .i64 t, .pointer (some ⟨W, 0, none⟩), .pointer (some ⟨Q, 0, none⟩)] 203)
  have hW5 := HW.out.keep (((Chg.refl [] w3).drew.then k4).then kx) (by simp) (by simp)
  have hQ5 := kx.heap hQ (by simp)
  have hV5 := kx.heap hV (by simp)
  have kk := ((k2.mono (T := [B, rb, r]) (fun x hx _ => by simp at hx; rcases hx with rfl | rfl <;> simp)).then (k3.mono (fun x hx _ => by cases hx))).then ((((Chg.refl [] w3).drew.then k4).then kx).mono (fun x hx _ => by cases hx))
  have s4 := k4.size
  generalize w4.alloc (.cells #[.int .i64 1, .int .i64 0, .int .i64 0, .int .i64 t, .pointer (some ⟨W, 0, none⟩), .pointer (some ⟨Q, 0, none⟩)] 203) = w5 at *
  obtain ⟨-, mm, k6⟩ := upd178 h5.map bn (.pointer (some ⟨w4.heap.size, 0, none⟩))
  have h6 := h5.table k6 mm
  have t6 : TxT (updW w5 193 r bn (.pointer (some ⟨w4.heap.size, 0, none⟩))) w4.heap.size W Q t := k6.heap hT (by simpa using (map_cells h5.map hT).symm)
  have nr : rw ≠ r := by omega
  have b6 := hW5.keep k6 (by simpa using (map_cells h5.map hW5.1).symm) (by simpa using nr)
  have v6 := k6.heap hQ5 (by simpa using (map_cells h5.map hQ5).symm)
  have s6 := k6.heap hV5 (by simpa using (map_cells h5.map hV5).symm)
  have kf := kk.then (k6.mono (T := [B, rb, r]) (fun x hx _ => by simp at hx; simp [hx]))
  have hb1 : w.heap.size ≤ rw ∧ w.heap.size ≤ W := by have := k2.size; have h9 : w.drew.heap.size = w.heap.size := rfl; omega
  have hb2 : w.heap.size ≤ Q ∧ w.heap.size ≤ V := by have := k2.size; have := k3.size; have h9 : w.drew.heap.size = w.heap.size := rfl; have h8 : w3.drew.heap.size = w3.heap.size := rfl; omega
  have hb3 : w.heap.size ≤ w4.heap.size := by have := k2.size; have := k3.size; have h9 : w.drew.heap.size = w.heap.size := rfl; have h8 : w3.drew.heap.size = w3.heap.size := rfl; omega
  have n2 : rw ≠ rb := by omega
  have n3 : rw ≠ rx := by omega
  generalize w4.heap.size = T at *
  have HF := Lib.hid h6
  clear hmu q1 q2 q3 h5 h6 H4 H3 H2 HM kk hW5 hQ5 hV5 mm
  go_wp2_with fail
  go_ret2
  refine ⟨rfl, T, W, rw, Q, V, ?_⟩
  rw [← HBl.out, ← HBn.out, ← HT.out]
  have hF := HF.out
  rw [← HT.out] at hF
  exact ⟨(Chg.refl [B, rb, r] w).drew.then kf, hF, t6, b6, v6, s6, nr, n2, n3, hb3, hb1.2, hb1.1, hb2⟩
/-- the manager behind a Begin. -/
def begM (s : Gs) (T : Nat) : Gs := { s with bl := s.bl + 1, Lb := putL s.Lb (s.bl + 1) (.int .i64 s.last), Lr := putL s.Lr (s.bl + 1) (.pointer (some ⟨T, 0, none⟩)) }
/-- what a store's Begin leaves. -/
def BegN (w w' : World) (lw : Nat) (d : Ids) (s : Gs) (g : Gd) : Prop := ∃ T W rw Q V, Chg [d.B, d.rb, d.r] w w' ∧ w.heap.size ≤ T ∧
  Su w' w.heap.size { d with T := T, W := W, rw := rw, Q := Q, V := V } (begP s) (StoF lw { d with T := T, W := W, rw := rw, Q := Q, V := V } (begM s T) g) (fun b => bytT (s.vs b) s.last) [] 0
set_option maxRecDepth 100000 in
theorem sbegin_many (w : World) {lw : Nat} {d : Ids} {s : Gs} {g : Gd} (h : Sto w lw d s g) (hLk : ∀ p ∈ s.Lb, 0 ≤ p.1 ∧ p.1 ≤ 1000000) (hLl : s.Lb.length < 16) (h0 : 0 ≤ s.last) (h1 : s.last ≤ 1099511627776) (hb0 : 0 ≤ s.bl) (hb1 : s.bl ≤ 1000000) :
    Calls Tryz.prog 16 #[.pointer (some ⟨d.P, 0, none⟩)] w fun e w' => e = .returned (.tuple #[.int .i64 (s.bl + 1), .int .i64 0]) ∧ BegN w w' lw d s g := by
  have HD := Lib.hid (dead_g w h.store)
  have p5 : w.cell? ⟨d.P, 5, none⟩ = some (.pointer (some ⟨d.M, 0, none⟩)) := cell_is h.store 5 rfl
  have HB := Lib.hid (tbegin_many w h.mx hLk hLl h0 h1 hb0 hb1)
  have HS := Lib.hid h
  clear h hLk hLl h0 h1 hb0 hb1
  go_enter Tryz.func16, Tryz.ntmps16
  go_wp2_with fail
  refine HD.out.mono ?_
  rintro e w1 ⟨rfl, rfl⟩
  go_wp2_with fail
  refine HB.out.mono ?_
  rintro e w1 ⟨rfl, T, W, rw, Q, V, k1, hx, hT, hb, hv, hs, n1, n2, n3, b1, b2, b3, b4, b5⟩
  have hF : BegN w w1 lw d s g := by
    have hS := HS.out
    have avB : Av w [d.B, d.rb, d.r] [102, 210, 5, 128, 129, 132, 47] := fun x hx cs t fr hh => by
      simp at hx
      rcases hx with rfl | rfl | rfl
      · rw [hS.mx.book.1] at hh; cases hh; simp
      · exact absurd rfl (map_cells hS.mx.book.2 hh)
      · exact absurd rfl (map_cells hS.mx.map hh)
    have sub : ∀ ts : List Nat, (∀ t ∈ ts, t ∈ [102, 210, 5, 128, 129, 132, 47]) → Av w [d.B, d.rb, d.r] ts := fun ts hts x hx cs t fr hh ht => avB x hx cs t fr hh (hts t ht)
    have hSto : Sto w1 lw { d with T := T, W := W, rw := rw, Q := Q, V := V } (begM s T) g :=
      ⟨k1.heap hS.store (avB.ne hS.store (by simp)), k1.heap hS.slot (avB.ne hS.slot (by simp)), hS.text.keep k1 (sub _ (by decide)), hS.dev.keep k1 (sub _ (by decide)), hx, hS.ap, hS.keys, hS.bnd, hS.bndZ, Nat.le_trans hS.slo k1.size, hS.dlo⟩
    refine ⟨T, W, rw, Q, V, k1, b1, hSto, hT, hb, (fun x hx => by cases hx), fun b _ _ => Or.inl ⟨rfl, rfl⟩, ⟨_, 0, [], hv, Nat.zero_le _, World.ownsRow_nil _ _ _ _⟩, ⟨_, [], hs, Nat.le_refl _, World.ownsRow_nil _ _ _ _⟩, b4, b5, b3⟩
  have HF := Lib.hid hF
  clear hF hx hT hb hv hs k1 b1 b2 b3 b4 b5 n1 n2 n3
  go_wp2_with fail
  go_ret2
  exact ⟨rfl, HF.out⟩
end Go.Proofs.YtelakcjbknbehaaGreat
namespace Go.Proofs.YtelakcjbknbehaaGreat
open Go.RowKit Go.Lib

/-- old blocks that change are none of a reader's. -/
def RdK (T rw : Nat) (w w' : World) : Prop := ∃ U, Chg U w w' ∧ ∀ x ∈ U, x < w.heap.size → x ≠ T ∧ x ≠ rw ∧ ∀ cs t fr, w.heap[x]? = some (.cells cs t fr) → t ∉ [267, 274, 305, 79, 255, 33]
theorem RdK.trans {T rw : Nat} {a b c : World} (h : RdK T rw a b) (k : RdK T rw b c) : RdK T rw a c := by
  obtain ⟨S, h1, h2⟩ := h
  obtain ⟨U, k1, k2⟩ := k
  refine ⟨S ++ U, (h1.mono (fun x hx _ => List.mem_append_left _ hx)).trans k1 (fun x hx _ => List.mem_append_right _ hx), fun x hx hlt => ?_⟩
  by_cases hT : x ∈ S
  · exact h2 x hT hlt
  · rcases List.mem_append.1 hx with hx | hx
    · exact absurd hx hT
    · obtain ⟨e1, e2, e3⟩ := k2 x hx (Nat.lt_of_lt_of_le hlt h1.size)
      exact ⟨e1, e2, fun cs t fr hc => e3 cs t fr (by rw [h1.block x hlt hT]; exact hc)⟩
theorem RdK.of_chg {T rw : Nat} {w w' : World} (h : Chg [] w w') : RdK T rw w w' := ⟨[], h, fun x hx => by cases hx⟩
/-- a reader: a transaction of time t that has only read. -/
structure Rdr (w : World) (base X T W rw Q V : Nat) (t : Int) (k : Nat) : Prop where
  tx : TxT w T W Q t
  buf : BufAt w W rw []
  vw : VwT w base Q X W V t k
  sp : SpV w base V k
  high : base ≤ Q ∧ base ≤ V ∧ base ≤ rw
theorem Rdr.keep {w w' : World} {base X T W rw Q V k : Nat} {t : Int} (h : Rdr w base X T W rw Q V t k) (hk : RdK T rw w w') : Rdr w' base X T W rw Q V t k := by
  obtain ⟨U, h1, h2⟩ := hk
  have av : ∀ ts : List Nat, (∀ t ∈ ts, t ∈ [267, 274, 305, 79, 255, 33]) → Av w U ts := fun ts hts x hx cs t fr hh ht => (h2 x hx (heap_lt hh)).2.2 cs t fr hh (hts t ht)
  have hT : T ∉ U := fun hm => (h2 T hm (heap_lt h.tx)).1 rfl
  have hr : rw ∉ U := fun hm => (h2 rw hm h.buf.2.lt).2.1 rfl
  exact ⟨h1.heap h.tx hT, h.buf.keep h1 ((av [267] (by decide)).ne h.buf.1 (by simp)) hr, h.vw.keep h1 (av _ (by decide)), h.sp.keep h1 (av _ (by decide)), h.high⟩
/-- a store at rest, with a reader of handle hr; j bounds its numbers. -/
structure SnR (w : World) (lw base T W rw Q V : Nat) (hr t : Int) (k : Nat) (qR : Int → List UInt8) (j : Nat) (d : Ids) (s : Gs) (g : Gd) (q : Int → List UInt8) : Prop where
  sto : Sto w lw d s g
  pl : Pln s g q j
  lb : s.Lb = [(hr, .int .i64 t)]
  qn : QN0 w lw s
  lw : lw ≤ w.heap.size ∧ lw ≤ base
  rd : Rdr w base d.X T W rw Q V t k
  tab : getL s.Lr hr = some (.pointer (some ⟨T, 0, none⟩))
  rng : 0 ≤ hr ∧ hr ≤ s.bl ∧ t ≤ s.last
  ids : d.rx < base ∧ d.rb < base ∧ d.r < base
  old : ∀ b, 0 ≤ b → b < 258 → bytT (s.vs b) t = qR b
/-- .. with a second transaction open. -/
structure SnO (w : World) (lw base T W rw Q V : Nat) (hr t : Int) (k : Nat) (qR : Int → List UInt8) (j bk : Nat) (d : Ids) (s : Gs) (g : Gd) (q0 q : Int → List UInt8) (L : List (Int × Value)) : Prop where
  su : Su w bk d (begP s) (StoF lw d (begM s d.T) g) q L 0
  pl : Pln s g q0 j
  lb : s.Lb = [(hr, .int .i64 t)]
  qn : QN0 w lw s
  lw : lw ≤ w.heap.size ∧ lw ≤ base ∧ lw ≤ bk ∧ lw ≤ d.T
  rd : Rdr w base d.X T W rw Q V t k
  tab : getL s.Lr hr = some (.pointer (some ⟨T, 0, none⟩))
  rng : 0 ≤ hr ∧ hr ≤ s.bl ∧ t ≤ s.last
  ids : d.rx < base ∧ d.rb < base ∧ d.r < base
  idk : d.rx < bk ∧ d.rb < bk ∧ d.r < bk
  new : T < bk ∧ rw < bk ∧ bk ≤ d.T
  old : ∀ b, 0 ≤ b → b < 258 → bytT (s.vs b) t = qR b
/-- .. and waiting. -/
structure SnW (w : World) (lw base T W rw Q V : Nat) (hr t : Int) (k : Nat) (qR : Int → List UInt8) (j : Nat) (d : Ids) (s : Gs) (g : Gd) (q0 q : Int → List UInt8) : Prop where
  tx : ∃ gq cq L, ∃ kk : Nat, Sto w lw d (comS (begM s d.T) gq cq) g ∧ Wtx w d (comS (begM s d.T) gq cq) gq cq (s.bl + 1) kk s.last s.last L q ∧ (kk : Int) = s.given + 1 ∧ L.length ≤ 16 ∧
    (∀ b, 0 ≤ b → b < 258 → bytT (applyV s.vs kk (putsL L q) b) kk = q b)
  pl : Pln s g q0 j
  lb : s.Lb = [(hr, .int .i64 t)]
  lw : lw ≤ w.heap.size ∧ lw ≤ base ∧ lw ≤ d.T
  rd : Rdr w base d.X T W rw Q V t k
  tab : getL s.Lr hr = some (.pointer (some ⟨T, 0, none⟩))
  rng : 0 ≤ hr ∧ hr ≤ s.bl ∧ t ≤ s.last
  ids : d.rx < base ∧ d.rb < base ∧ d.r < base
  new : T < d.T
  old : ∀ b, 0 ≤ b → b < 258 → bytT (s.vs b) t = qR b
theorem del_put {hr b : Int} {u v : Value} (h : hr ≠ b) : delL (putL [(hr, u)] b v) b = [(hr, u)] := by
  have h2 : ¬ b = hr := fun e => h e.symm
  simp [putL, delL, h2]
section
variable {lw base T W rw Q V k j : Nat} {hr t : Int} {qR : Int → List UInt8} {d : Ids} {s : Gs} {g : Gd} {q0 q : Int → List UInt8}
theorem snr_begin (w : World) (h : SnR w lw base T W rw Q V hr t k qR j d s g q) (hj : j ≤ 100000) :
    Calls Tryz.prog 16 #[.pointer (some ⟨d.P, 0, none⟩)] w fun e w' => e = .returned (.tuple #[.int .i64 (s.bl + 1), .int .i64 0]) ∧ (∃ d', d'.P = d.P ∧ SnO w' lw base T W rw Q V hr t k qR j w.heap.size d' s g q q []) ∧ Kp lw w w' ∧ RdK T rw w w' := by
  have hp := h.pl
  have h1 := hp.last
  have h3 := hp.given
  have h2 := hp.bl
  have hrg := h.rng
  refine (sbegin_many w h.sto (fun p hp => by rw [h.lb, List.mem_singleton] at hp; subst hp; exact ⟨hrg.1, by show hr ≤ _; omega⟩) (by rw [h.lb]; simp) h1 (by omega) h2.1 (by omega)).mono ?_
  rintro e w' ⟨rfl, T2, W2, rw2, Q2, V2, kB, hT, hSu⟩
  have hm := h.sto.mx
  have hbn := h.sto.bnd
  have hTl := heap_lt h.rd.tx
  have hrl := h.rd.buf.2.lt
  have hRK : RdK T rw w w' := ⟨_, kB, fun x hx _ => by
    simp only [List.mem_cons, List.not_mem_nil, or_false] at hx
    have hi := h.ids
    have hh := h.rd.high
    rcases hx with rfl | rfl | rfl
    · refine ⟨fun e => ?_, fun e => ?_, fun cs t fr hc => ?_⟩
      · have := h.rd.tx; rw [← e] at this; unfold TxT at this; rw [hm.book.1] at this; cases this
      · have := h.rd.buf.2; rw [← e] at this; exact map_cells this hm.book.1 rfl
      · rw [hm.book.1] at hc; cases hc; simp
    · exact ⟨fun e => map_cells hm.book.2 h.rd.tx e, by omega, fun cs t fr hc => absurd rfl (map_cells hm.book.2 hc)⟩
    · exact ⟨fun e => map_cells hm.map h.rd.tx e, by omega, fun cs t fr hc => absurd rfl (map_cells hm.map hc)⟩⟩
  refine ⟨rfl, ⟨{ d with T := T2, W := W2, rw := rw2, Q := Q2, V := V2 }, rfl, ⟨hSu.congr hp.blk, hp, h.lb, h.qn.keep kB (fun x hx cs hh => ?_), ⟨Nat.le_trans h.lw.1 kB.size, h.lw.2, h.lw.1, Nat.le_trans h.lw.1 hT⟩, h.rd.keep hRK, h.tab, h.rng, h.ids, ⟨hm.ver.m.lt, hm.book.2.lt, hm.map.lt⟩, ⟨hTl, hrl, hT⟩, h.old⟩⟩, ⟨_, kB, fun x hx _ => ?_⟩, hRK⟩
  · simp only [List.mem_cons, List.not_mem_nil, or_false] at hx
    rcases hx with rfl | rfl | rfl
    · rw [hm.book.1] at hh; cases hh
    · exact map_cells hm.book.2 hh rfl
    · exact map_cells hm.map hh rfl
  · simp only [List.mem_cons, List.not_mem_nil, or_false] at hx
    rcases hx with rfl | rfl | rfl <;> omega
theorem sno_write (w : World) {bk E eo cp D o c : Nat} {b : Int} {l : List UInt8} (h : SnO w lw base T W rw Q V hr t k qR j bk d s g q0 q [])
    (e0 : w.cell? ⟨E, eo, none⟩ = some (.int .i64 b)) (e1 : w.cell? ⟨E, eo + 1, none⟩ = some (.slice (some ⟨D, o, none⟩) 40 c)) (hb : Bs w (some ⟨D, o, none⟩) l) (hl : l.length = 40) (h0 : 0 ≤ b) (h1 : b < 258) :
    Calls Tryz.prog 17 #[.pointer (some ⟨d.P, 0, none⟩), .int .i64 (s.bl + 1), .slice (some ⟨E, eo, none⟩) 1 cp] w fun e w' => e = .returned (.int .i64 0) ∧ (∃ L', SnO w' lw base T W rw Q V hr t k qR j bk d s g q0 (putQ q b l) L' ∧ L'.length = 1) ∧ Kp lw w w' ∧ RdK T rw w w' := by
  have hfr : Fr bk d (begP s) (StoF lw d (begM s d.T) g) := fr_sto h.idk ((getL_put _ _ _ _).trans (if_pos rfl)) rfl rfl rfl rfl
  refine (swrite_x w (cp := cp) hfr h.su e0 e1 hb hl h0 h1 (by simp)).mono ?_
  rintro e w' ⟨v, rfl, ho, kc, hsu⟩
  have hn := h.new
  have hhi := h.su.high
  have hRK : RdK T rw w w' := ⟨_, kc, fun x hx _ => by
    rw [List.mem_singleton] at hx
    subst hx
    exact ⟨fun e => map_cells h.su.buf.2 h.rd.tx e, by omega, fun cs t fr hc => absurd rfl (map_cells h.su.buf.2 hc)⟩⟩
  have hq : QN0 w' lw s := h.qn.keep kc (fun x hx cs hh => by
    rw [List.mem_singleton] at hx
    subst hx
    exact map_cells h.su.buf.2 hh rfl)
  exact ⟨rfl, ⟨_, ⟨hsu, h.pl, h.lb, hq, ⟨Nat.le_trans h.lw.1 kc.size, h.lw.2⟩, h.rd.keep hRK, h.tab, h.rng, h.ids, h.idk, h.new, h.old⟩, rfl⟩, Kp.of_ow ho h.lw.2.2.1, hRK⟩
theorem sno_commit (w : World) {bk : Nat} {L : List (Int × Value)} (h : SnO w lw base T W rw Q V hr t k qR j bk d s g q0 q L) (hL : L.length = 1) (hj : j ≤ 100000) :
    Calls Tryz.prog 19 #[.pointer (some ⟨d.P, 0, none⟩), .int .i64 (s.bl + 1)] w fun e w' => e = .returned (.int .i64 0) ∧ SnW w' lw base T W rw Q V hr t k qR j d s g q0 q ∧ Kp lw w w' ∧ RdK T rw w w' := by
  have hfr : Fr bk d (begP s) (StoF lw d (begM s d.T) g) := fr_sto h.idk ((getL_put _ _ _ _).trans (if_pos rfl)) rfl rfl rfl rfl
  have hS : Sto w lw d (begM s d.T) g := h.su.env
  have hp := h.pl
  have hl := hp.last
  have hg := hp.given
  obtain ⟨pq, hq1, hq2⟩ := h.qn
  obtain ⟨kk, hk⟩ : ∃ kk : Nat, (kk : Int) = s.given + 1 := ⟨(s.given + 1).toNat, by omega⟩
  have ho : OldV s.Lv s.vs s.last := ⟨hS.keys, hp.old⟩
  refine (scommit_x w (p := begP s) (n := 0) (k := kk) (loq := lw) (pq := pq) (cq := 0) hfr h.su hq1 hq2 h.lw.1 (Nat.le_refl _) hp.rd ho (by show s.given + 1 = _; rw [hk]) (by show s.given < _; omega) (by show 0 ≤ s.given; omega) (by omega) (by omega) (by omega) ((getL_put _ _ _ _).trans (if_pos rfl)) ((getL_put _ _ _ _).trans (if_pos rfl)) h.lw.2.2.2).mono ?_
  rintro e w' ⟨rfl, ⟨gq, cq', k1, k2, k3⟩, U, u1, u2⟩
  have hn := h.new
  have hmg := hS.mx.mgr
  have hRK : RdK T rw w w' := ⟨U, u1, fun x hx hlt => by
    rcases u2 x hx hlt with rfl | rfl | ⟨cs, hc⟩
    · refine ⟨fun e => ?_, fun e => ?_, fun cs t fr hc => ?_⟩
      · have := h.rd.tx; rw [← e] at this; unfold TxT at this; rw [hmg] at this; cases this
      · have := h.rd.buf.2; rw [← e] at this; exact map_cells this hmg rfl
      · rw [hmg] at hc; cases hc; simp
    · refine ⟨by omega, fun e => ?_, fun cs t fr hc => ?_⟩
      · have := h.rd.buf.2; rw [← e] at this; exact map_cells this h.su.tx rfl
      · have htx := h.su.tx; unfold TxT at htx; rw [htx] at hc; cases hc; simp
    · refine ⟨fun e => ?_, fun e => ?_, fun cs t fr hc' => ?_⟩
      · have := h.rd.tx; rw [← e] at this; unfold TxT at this; rw [hc] at this; cases this
      · have := h.rd.buf.2; rw [← e] at this; exact map_cells this hc rfl
      · rw [hc] at hc'; cases hc'; simp⟩
  refine ⟨rfl, ⟨⟨gq, cq', L, kk, k1, k2, hk, by omega, fun b b0 b1 => ?_⟩, hp, h.lb, ⟨by have := k3.size; have := h.lw.1; omega, h.lw.2.1, h.lw.2.2.2⟩, h.rd.keep hRK, h.tab, h.rng, h.ids, by omega, h.old⟩, Kp.of_cq k3, hRK⟩
  exact h.su.seen (k := kk) (t := kk) (Int.le_refl _) ho (by show s.last ≤ _; omega) b b0 b1
theorem snw_check (w : World) (h : SnW w lw base T W rw Q V hr t k qR j d s g q0 q) (hj : j ≤ 1900) :
    Calls Tryz.prog 20 #[.pointer (some ⟨d.P, 0, none⟩)] w fun e w' => e = .returned (.int .i64 0) ∧ (∃ g', SnW w' lw base T W rw Q V hr t k qR (j + 1) d s g' q0 q ∧ g'.pos = 0) ∧ Kp lw w w' ∧ RdK T rw w w' := by
  obtain ⟨gq, cq, L, kk, h1, h2, hk, hLm, hb⟩ := h.tx
  have hp := h.pl
  have hl := hp.last
  have hg := hp.given
  obtain ⟨inn, i, a, hi, hinn⟩ : ∃ inn i a : Nat, ((inn = 1 ∧ i = 0 ∧ a = 0) ∨ (inn = 0 ∧ i = 1 ∧ a = 3)) ∧ g.inn = inn := by
    rcases hp.inn with e | e
    · exact ⟨1, 0, 0, Or.inl ⟨rfl, rfl, rfl⟩, e⟩
    · exact ⟨0, 1, 3, Or.inr ⟨rfl, rfl, rfl⟩, e⟩
  have hops := hp.ops
  have hcnt := hp.cnt
  refine (scheck_ok w (lst := s.last.toNat) h1 hi hinn h1.lv (by show s.last = _; omega) (by omega) hops.1 (by omega) (by omega) h.lw.1).mono ?_
  rintro e w' ⟨rfl, tv, ops, dv, ho, k1, k2⟩
  have hRK : RdK T rw w w' := by
    obtain ⟨U, u1, u2⟩ := k2
    refine ⟨U, u1, fun x hx hlt => ?_⟩
    obtain ⟨-, cs, t', hc, ht⟩ := u2 x hx hlt
    refine ⟨fun e => ?_, fun e => ?_, fun cs2 t2 fr hc' => ?_⟩
    · have := h.rd.tx; rw [← e] at this; unfold TxT at this; rw [hc] at this; cases this; simp at ht
    · have := h.rd.buf.2; rw [← e] at this; exact map_cells this hc rfl
    · rw [hc] at hc'; cases hc'
      exact (by decide : ∀ u ∈ [102, 128, 132, 47, 210], u ∉ [267, 274, 305, 79, 255, 33]) _ ht
  refine ⟨rfl, ⟨_, ⟨⟨gq, cq, L, kk, k1, h2.keepW k2, hk, hLm, hb⟩, ⟨hp.out, hp.rd, hp.lastv, ⟨hg.1, by omega⟩, hl, ⟨hp.num.1, by have := hp.num.2; omega⟩, ⟨hp.bl.1, by have := hp.bl.2; omega⟩, hp.old, fun b => Nat.le_succ_of_le (hp.small b), ?_, ?_, ?_, ⟨rfl, rfl, Nat.zero_le _⟩, hp.blk⟩, h.lb, ⟨by have := k2.cs.size; have := h.lw.1; omega, h.lw.2⟩, h.rd.keep hRK, h.tab, h.rng, h.ids, h.new, h.old⟩, rfl⟩, Kp.of_cs k2.cs, hRK⟩
  · show (i : Int) = 1 ∨ (i : Int) = 0
    omega
  · show 0 ≤ ops ∧ ops ≤ _
    omega
  · show g.cnt + 1 ≤ _ ∧ 0 ≤ _
    omega
theorem snw_flush (w : World) (h : SnW w lw base T W rw Q V hr t k qR j d s g q0 q) (hj : j ≤ 2000) (hpos0 : g.pos = 0) :
    Calls Tryz.prog 21 #[.pointer (some ⟨d.P, 0, none⟩)] w fun e w' => e = .returned (.int .i64 0) ∧ (∃ s' g', SnR w' lw base T W rw Q V hr t k qR (j + 1) d s' g' q ∧ s'.bl = s.bl + 1) ∧ Kp lw w w' ∧ RdK T rw w w' := by
  obtain ⟨gq, cq, L, kk, h1, h2, hk, hLm, hb⟩ := h.tx
  have hp := h.pl
  have hl := hp.last
  have hg := hp.given
  have hops := hp.ops
  have hcnt := hp.cnt
  have hnum := hp.num
  have hbl := hp.bl
  have hlog := hp.log
  have hrg := h.rng
  have hlen := putsL_length L q
  have hnd := h2.buf.2.nodup
  have hL16 := h2.len
  have hsm : ∀ c, (s.vs c).length + 16 < 1000000 := fun c => by have := hp.small c; omega
  refine (sflush_x w (k := kk) h1 h2 hp.out h.lw.2.2 h.lw.1 (by omega) (by show s.lastv < _; rw [hp.lastv]; omega) (by omega) hsm hnum.1 (by show s.num ≤ _; omega) hlog.1 hlog.2.1 (by omega) hops.1 (by omega) (by omega) (by omega)).mono ?_
  rintro e w' ⟨rfl, ⟨z, Lv', dv, k1, k2, k3⟩, U, u1, u2⟩
  have hor := fun b => applyV_or (D := q) (vs := s.vs) (k := kk) hnd b
  have hzl := logZ_len (bl := batL g.cnt (g.num + 1) kk (putsL L q)) hlog.1 hlog.2.1 ((putsL L q).length + 1) (by rw [batL_length]; exact Nat.le_refl _) (by rw [hlen]; omega)
  have hn := h.new
  have hi := h.ids
  have hh := h.rd.high
  have hmg := h1.mx.mgr
  have hRK : RdK T rw w w' := ⟨U, u1, fun x hx hlt => by
    rcases u2 x hx hlt with rfl | rfl | rfl | rfl | rfl | ⟨cs, t', hc, ht⟩
    · refine ⟨fun e => ?_, fun e => ?_, fun cs t fr hc => ?_⟩
      · have := h.rd.tx; rw [← e] at this; unfold TxT at this; rw [hmg] at this; cases this
      · have := h.rd.buf.2; rw [← e] at this; exact map_cells this hmg rfl
      · rw [hmg] at hc; cases hc; simp
    · refine ⟨by omega, fun e => ?_, fun cs t fr hc => ?_⟩
      · have := h.rd.buf.2; rw [← e] at this; exact map_cells this h2.tx rfl
      · have htx := h2.tx; unfold TxW at htx; rw [htx] at hc; cases hc; simp
    · exact ⟨fun e => map_cells h1.mx.book.2 h.rd.tx e, by omega, fun cs t fr hc => absurd rfl (map_cells h1.mx.book.2 hc)⟩
    · refine ⟨fun e => ?_, fun e => ?_, fun cs t fr hc => ?_⟩
      · have := h.rd.tx; rw [← e] at this; unfold TxT at this; rw [h1.mx.ver.x] at this; cases this
      · have := h.rd.buf.2; rw [← e] at this; exact map_cells this h1.mx.ver.x rfl
      · rw [h1.mx.ver.x] at hc; cases hc; simp
    · exact ⟨fun e => map_cells h1.mx.ver.m h.rd.tx e, by omega, fun cs t fr hc => absurd rfl (map_cells h1.mx.ver.m hc)⟩
    · refine ⟨fun e => ?_, fun e => ?_, fun cs2 t2 fr hc' => ?_⟩
      · have := h.rd.tx; rw [← e] at this; unfold TxT at this; rw [hc] at this; cases this; simp at ht
      · have := h.rd.buf.2; rw [← e] at this; exact map_cells this hc rfl
      · rw [hc] at hc'; cases hc'
        exact (by decide : ∀ u ∈ [288, 102, 128, 132, 47], u ∉ [267, 274, 305, 79, 255, 33]) _ ht⟩
  refine ⟨rfl, ⟨_, doneT g dv kk (putsL L q), ⟨k1, ⟨rfl, hp.rd, rfl, ?_, ?_, ?_, ?_, fun b x hx => ?_, fun b => ?_, hp.inn, ?_, ?_, ?_, hb⟩, ?_, ⟨_, rfl, k3⟩, ⟨by have := k2.size; have := h.lw; omega, h.lw.2.1⟩, h.rd.keep hRK, ?_, ?_, h.ids, fun b b0 b1 => ?_⟩, rfl⟩, Kp.of_cs k2, hRK⟩
  · show (kk : Int) ≤ s.given + 1 ∧ s.given + 1 ≤ _
    omega
  · show 0 ≤ (kk : Int)
    omega
  · show 0 ≤ s.num + 1 ∧ s.num + 1 ≤ _
    omega
  · show 0 ≤ s.bl + 1 ∧ s.bl + 1 ≤ _
    omega
  · have hx2 : x ∈ applyV s.vs kk (putsL L q) b := hx
    show x.1 ≤ (kk : Int)
    rcases hor b with ⟨-, e⟩ | e
    · rw [e] at hx2
      rcases List.mem_append.1 hx2 with hx3 | hx3
      · have := hp.old b x hx3; omega
      · rw [List.mem_singleton] at hx3; rw [hx3]; exact Int.le_refl _
    · rw [e] at hx2
      have := hp.old b x hx2; omega
  · show (applyV s.vs kk (putsL L q) b).length ≤ _
    have := hp.small b
    rcases hor b with ⟨-, e⟩ | e
    · rw [e, List.length_append, List.length_singleton]; omega
    · rw [e]; omega
  · show 0 ≤ g.ops + ((putsL L q).length : Int) + 2 ∧ g.ops + ((putsL L q).length : Int) + 2 ≤ _
    omega
  · show g.cnt ≤ _ ∧ g.num + 1 ≤ _
    omega
  · show (logZ g.zs g.pos (batL g.cnt (g.num + 1) kk (putsL L q)) ((putsL L q).length + 1) 6).length = min (g.pos + (putsL L q).length + 1) 96 ∧ (logZ g.zs g.pos (batL g.cnt (g.num + 1) kk (putsL L q)) ((putsL L q).length + 1) 7).length = g.pos + (putsL L q).length + 1 - 96 ∧ g.pos + (putsL L q).length + 1 ≤ 192
    rw [hzl.1, hzl.2]
    omega
  · show delL (putL s.Lb (s.bl + 1) _) (s.bl + 1) = _
    rw [h.lb]
    exact del_put (by omega)
  · show getL (putL s.Lr (s.bl + 1) _) hr = _
    rw [getL_put, if_neg (by omega)]
    exact h.tab
  · show 0 ≤ hr ∧ hr ≤ s.bl + 1 ∧ t ≤ (kk : Int)
    omega
  · show bytT (applyV s.vs kk (putsL L q) b) t = _
    rw [← h.old b b0 b1]
    rcases hor b with ⟨-, e⟩ | e
    · rw [e]
      unfold bytT verT
      rw [List.reverse_append]
      have : ¬ ((kk : Int) ≤ t) := by omega
      simp [this]
    · rw [e]
theorem snr_clean (w : World) (h : SnR w lw base T W rw Q V hr t k qR j d s g q) :
    Calls Tryz.prog 22 #[.pointer (some ⟨d.P, 0, none⟩)] w fun e w' => (∃ n : Int, e = .returned (.int .i64 n)) ∧ (∃ s', SnR w' lw base T W rw Q V hr t k qR j d s' g q ∧ s'.bl = s.bl) ∧ Kp lw w w' ∧ RdK T rw w w' := by
  have hp := h.pl
  have hrg := h.rng
  refine (sclean_low w h.sto h.lb).mono ?_
  rintro e w' ⟨hn, L', vs', k1, k2, k3, hc⟩
  have hmin : min s.last t = t := by omega
  rw [hmin] at hc
  have hm := h.sto.mx
  have hi := h.ids
  have hh := h.rd.high
  have hRK : RdK T rw w w' := ⟨_, k3, fun x hx _ => by
    rw [List.mem_singleton] at hx
    subst hx
    exact ⟨fun e => map_cells hm.ver.m h.rd.tx e, by omega, fun cs t fr hc => absurd rfl (map_cells hm.ver.m hc)⟩⟩
  refine ⟨hn, ⟨_, ⟨k1, ⟨hp.out, hp.rd, hp.lastv, hp.given, hp.last, hp.num, hp.bl, fun b x hx => hp.old b x ((hc b).sub.2 x hx), fun b => Nat.le_trans (hc b).sub.1 (hp.small b), hp.inn, hp.ops, hp.cnt, hp.log, fun b b0 b1 => ((hc b).2.2 _ hrg.2.2).trans (hp.blk b b0 b1)⟩, h.lb, ?_, ⟨Nat.le_trans h.lw.1 k3.size, h.lw.2⟩, h.rd.keep hRK, h.tab, h.rng, h.ids, fun b b0 b1 => ((hc b).2.2 _ (Int.le_refl _)).trans (h.old b b0 b1)⟩, rfl⟩, Kp.of_cs k2, hRK⟩
  exact h.qn.keep k3 (fun x hx cs hh => by
    rw [List.mem_singleton] at hx
    subst hx
    exact map_cells hm.ver.m hh rfl)
end
end Go.Proofs.YtelakcjbknbehaaGreat
namespace Go.Proofs.YtelakcjbknbehaaGreat
open Go.RowKit Go.Lib

/-- block g holds just these forty bytes. -/
def Fo (w : World) (g : Nat) (r : List UInt8) : Prop := r.length = 40 ∧ w.heap[g]? = some (.cells (Lib.byteCells r).toArray 5 (0, 0))
set_option maxRecDepth 100000 in
theorem round_nat (w : World) (x : Nat) : Calls Tryz.prog 10 #[.int .i64 x, .int .i64 251] w fun e w' => e = .returned (.int .i64 (x % 251 : Nat)) ∧ w = w' := by
  have ht : (x : Int).tmod 251 = ((x % 251 : Nat) : Int) := by
    rw [Int.tmod_eq_emod_of_nonneg (by omega)]
    omega
  obtain ⟨m, hm⟩ : ∃ m : Nat, m = x % 251 := ⟨_, rfl⟩
  rw [← hm] at ht ⊢
  have hm1 : m < 251 := by omega
  clear hm
  go_enter Tryz.func10, Tryz.ntmps10
  go_wp2_with fail
  go_ret
  exact ⟨rfl, rfl⟩
/-- the bytes that hang on a number. -/
def datB (i : Nat) : List UInt8 := (List.range 40).map fun j => UInt8.ofNat ((j * j + i * 7 + 1) % 251)
theorem datB_length (i : Nat) : (datB i).length = 40 := by simp [datB]
theorem datB_at (i j : Nat) (h : j < (datB i).length) : (datB i)[j] = UInt8.ofNat ((j * j + i * 7 + 1) % 251) := by simp [datB]
set_option maxRecDepth 100000 in
set_option maxHeartbeats 1000000 in
theorem block_ex (w : World) (i : Nat) (hi : i ≤ 1000) : Calls Tryz.prog 18 #[.int .i64 40, .int .i64 i] w fun e w' => ∃ g, e = .returned (.slice (some ⟨g, 0, none⟩) 40 40) ∧ Chg [] w w' ∧ w.heap.size ≤ g ∧ Fo w' g (datB i) := by
  have g0 := heap_new w (.cells zero40 5)
  have k0 : Chg [] w (w.alloc (.cells zero40 5)) := Chg.alloc w _
  have hmk := make40
  have mx : max (40 : Int) 0 = 40 := by decide
  go_enter Tryz.func18, Tryz.ntmps18
  go_wp2_with fail
  have hz1 := heap_lt g0
  generalize w.alloc (.cells zero40 5) = w1 at *
  generalize hz : w.heap.size = z at *
  go_loopw [6] (fun i' wr => ∃ j : Nat, j ≤ 40 ∧ i' = .int .i64 j ∧ Chg [] w wr ∧ ∃ r, Fo wr z r ∧ r.take j = (datB i).take j) (fun i _ => 40 - (intOf i).toNat)
  case atStart => exact ⟨0, by omega, rfl, k0, zeroB, ⟨rfl, by rw [← zero40_is]; exact g0⟩, rfl⟩
  case round =>
    obtain ⟨j, hj, rfl, kc, r, ⟨hr, gr⟩, hrt⟩ := hrel
    by_cases hlt : j < 40
    · have n1 : decide ((j : Int) < 40) = true := decide_eq_true (by omega)
      obtain ⟨s, hs⟩ : ∃ s : Nat, s = j * j := ⟨_, rfl⟩
      have hs1 : s ≤ 1600 := by rw [hs]; exact Nat.mul_le_mul (show j ≤ 40 by omega) (show j ≤ 40 by omega)
      have hsi : (j : Int) * (j : Int) = (s : Int) := by rw [hs]; push_cast; rfl
      have HS := Lib.hid hs
      have HRt := Lib.hid hrt
      clear hs hrt
      have hfe : (s : Int) + (i : Int) * 7 + 1 = ((s + i * 7 + 1 : Nat) : Int) := by push_cast; rfl
      have HRn := Lib.hid (round_nat wr (s + i * 7 + 1))
      rw [← hfe] at HRn
      clear hfe
      go_wp2_with fail
      refine HRn.out.mono ?_
      rintro e w2 ⟨rfl, rfl⟩
      obtain ⟨m, hmm⟩ : ∃ m : Nat, m = (s + i * 7 + 1) % 251 := ⟨_, rfl⟩
      have hm : m < 251 := by omega
      rw [← hmm]
      have HMm := Lib.hid hmm
      clear hmm HRn
      have cj : wr.cell? ⟨z, j, none⟩ = some (.int .u8 (r.getD j 0).toNat) := by
        refine cell_is gr j ?_
        simp [Lib.byteCells, hr, hlt, List.getD]
      have fj := unfrozen gr j
      have hm2 : IntKind.u8.wrap (m : Int) = (m : Int) := by rw [IntKind.wrap_u8']; omega
      have gs := heap_set gr j (.int .u8 (m : Int)) (cs' := (Lib.byteCells (r.set j (UInt8.ofNat m))).toArray) (by
        have : Value.int .u8 (m : Int) = (fun b : UInt8 => Value.int .u8 b.toNat) (UInt8.ofNat m) := by
          show _ = Value.int .u8 ((UInt8.ofNat m).toNat : Int)
          rw [UInt8.toNat_ofNat', Nat.mod_eq_of_lt (by omega)]
        rw [this]
        unfold Lib.byteCells
        rw [List.setIfInBounds_toArray, List.map_set])
      have ks : Chg [] w (wr.setCell ⟨z, j, none⟩ (.int .u8 (m : Int))) := kc.trans (Chg.set _ _ _ _) (fun x hx hlt => by simp at hx; omega)
      have htk : (r.set j (UInt8.ofNat m)).take (j + 1) = (datB i).take (j + 1) := by
        have h1 : j < (r.set j (UInt8.ofNat m)).length := by rw [List.length_set]; omega
        have h2 : j < (datB i).length := by rw [datB_length]; omega
        rw [List.take_succ_eq_append_getElem h1, List.take_succ_eq_append_getElem h2, List.take_set_of_le (Nat.le_refl j), HRt.out, datB_at, ← HS.out, List.getElem_set_self, HMm.out]
      have HF := Lib.hid (And.intro ks (And.intro gs htk))
      clear ks gs kc htk
      go_wp2_with fail
      refine ⟨⟨j + 1, by omega, by simp, HF.out.1, _, ⟨by simpa using hr, HF.out.2.1⟩, HF.out.2.2⟩, by simp [intOf]; omega⟩
    · obtain rfl : j = 40 := by omega
      have e : r = datB i := by
        rw [List.take_of_length_le (by omega), List.take_of_length_le (by rw [datB_length]; omega)] at hrt
        exact hrt
      subst e
      have HF := Lib.hid (And.intro kc gr)
      clear kc gr
      go_wp2_with fail
      go_ret
      exact ⟨z, rfl, HF.out.1, by omega, datB_length i, HF.out.2⟩
end Go.Proofs.YtelakcjbknbehaaGreat
namespace Go.Proofs.YtelakcjbknbehaaGreat
open Go.RowKit Go.Lib

section
variable {base : Nat} {d : Ids} {p : Par} {F : World → Prop}
set_option maxRecDepth 100000 in
set_option maxHeartbeats 20000000 in
theorem qcells_x (w : World) {q : Int → List UInt8} {L : List (Int × Value)} {c : Nat → Nat} {k f n : Nat} (hf : Fr base d p F) (h : Su w base d p F q L k) (hq : CellQ q c) (hk : k + readsC f n ≤ 60) (hn : 0 < n) (hn2 : n ≤ 2000) (hfn : f + n ≤ 1290) :
    Calls Tryz.prog 15 #[.pointer (some ⟨d.P, 0, none⟩), .int .i64 p.h, .int .i64 f, .int .i64 n] w fun e w' =>
    ∃ g o cp k', e = .returned (.tuple #[.slice (some ⟨g, o, none⟩) n cp, .int .i64 0]) ∧ n ≤ cp ∧ w.heap.size ≤ g ∧ Ow base w w' ∧ Fl w' (some ⟨g, o, none⟩) (cellsC c f n) ∧ Su w' base d p F q L k' ∧ k' ≤ k + readsC f n ∧ ∃ cs, w'.heap[g]? = some (.cells cs 33 (0, 0)) := by
  have HC := Lib.hid (ccount_need w (hf.need _ h.env))
  have c1 : ¬ ((n : Int) < 0) := by omega
  have c2 : ¬ ((n : Int) > 2000) := by omega
  have c3 : ¬ ((f : Int) < 0) := by omega
  have hw : IntKind.i64.wrap (1290 - (n : Int)) = 1290 - n := by rw [IntKind.wrap_i64]; omega
  have c4 : ¬ ((f : Int) > 1290 - n) := by omega
  have c5 : (n : Int) ≠ 0 := by omega
  have HK := Lib.hid hk
  clear hk
  unfold readsC at HK ⊢
  obtain ⟨Fb, hF⟩ : ∃ Fb, f / 5 = Fb := ⟨_, rfl⟩
  obtain ⟨Lb, hL⟩ : ∃ Lb, (f + n - 1) / 5 = Lb := ⟨_, rfl⟩
  rw [hF, hL] at HK ⊢
  go_enter Tryz.func15, Tryz.ntmps15
  go_wp2_with fail
  go_step3
  go_wp2_with fail
  refine HC.out.mono ?_
  rintro e w1 ⟨rfl, k1⟩
  have h1 := h.keep hf k1
  have henv := h1.env
  clear h HC
  go_wp2_with fail
  have eF : (f : Int) / 5 = (Fb : Int) := by omega
  have eL : ((f : Int) + n - 1) / 5 = (Lb : Int) := by omega
  simp only [eF, eL]
  have hFL : Fb ≤ Lb ∧ Lb ≤ 257 ∧ 5 * Fb ≤ f ∧ f + n ≤ 5 * (Lb + 1) := by omega
  have HX := Lib.hid hFL
  clear eF eL hF hL hFL c1 c2 c3 c4 c5 hw
  have HCQ := Lib.hid hq
  have hu5 : ∀ b : Nat, b < 258 → unpackB (q (b : Int)) = some (rowC c b) := fun b hb => hq.unpack hb
  have hl40 : ∀ b : Nat, b < 258 → (q (b : Int)).length = 40 := fun b hb => hq.len hb
  have HU5 := Lib.hid hu5
  have HL40 := Lib.hid hl40
  have hw1 := k1.size
  clear hq hu5 hl40
  go_step3
  go_wp2_with fail
  go_loopw [13, 14, 15, 16, 17, 18, 19] (fun v i _ _ _ _ _ wr => ∃ j t : Nat, i = .int .i64 ((Fb + j : Nat) : Int) ∧ Hid (Fb + j ≤ Lb + 1 ∧ t * 16 ≤ j + 15 ∧ (Fb + j ≤ Lb → j = 16 * t)) ∧ Ow base w1 wr ∧ wr.ownsRow w1.heap.size 33 1 v (5 * j) (flCells (cellsC c (5 * Fb) (5 * j))) ∧ Su wr base d p F q L (k + t)) (fun _ i _ _ _ _ _ _ => Lb + 1 - (intOf i).toNat)
  case atStart => exact ⟨0, 0, rfl, Lib.hid (by have := HX.out; omega), Ow.refl _ _, World.ownsRow_nil _ _ _ _, h1⟩
  case round =>
    obtain ⟨j, t, rfl, hjt, kr, hor, hsr⟩ := hrel
    rcases Nat.lt_or_ge (Fb + j) (Lb + 1) with hlt | hge
    · have hlt' : ((Fb + j : Nat) : Int) ≤ Lb := by omega
      go_wp2_with fail
      obtain ⟨s, hs, hs1, hs2, hs3, hs4⟩ : ∃ s : Nat, min 16 (wrap64 (wrap64 ((Lb : Int) - (Fb + j)) + 1)) = (s : Int) ∧ 1 ≤ s ∧ s ≤ 16 ∧ Fb + j + s ≤ Lb + 1 ∧ (Fb + j + s ≤ Lb → s = 16) := by
        refine ⟨min 16 (Lb + 1 - Fb - j), ?_, by omega, by omega, by omega, by omega⟩
        have := HX.out
        unfold wrap64
        omega
      simp only [hs]
      have hjt2 := hjt.out
      refine (sread_m wr (m := s) (b := ((Fb : Int) + (j : Int))) hf hsr (by have := HK.out; have := HX.out; omega) (by omega) hs1 hs2 (by have := HX.out; omega)).mono ?_
      rintro e w2 ⟨g, c', rfl, hc', k2, h2, hg, hB, hT⟩
      have kr2 := kr.trans k2.ow
      have ho2 := ownsRow_ow hor k2.ow
      have hsz2 := kr2.size
      have HS := Lib.hid hs
      have HJT := Lib.hid hjt2
      have HS4 := Lib.hid (And.intro hs1 (And.intro hs2 (And.intro hs3 hs4)))
      have hl40s : ∀ i : Nat, i < s → (q ((Fb : Int) + (j : Int) + (i : Int))).length = 40 := fun i hi => by
        have := HL40.out (Fb + j + i) (by have := HX.out; omega)
        rw [← this]; congr 2
      have HLS := Lib.hid hl40s
      clear hsr kr k2 hor hs hg hjt2 hl40s hs4
      go_wp2_with fail
      go_loopw [13, 16, 18, 19] (fun v b _ _ wx => ∃ (i : Nat) (pa : Option Addr), i ≤ s ∧ b = .slice pa (40 * (s - i)) (c' - 40 * i) ∧ (i < s → pa = some ⟨g, 40 * i, none⟩) ∧ Ow base w1 wx ∧ wx.ownsRow w1.heap.size 33 1 v (5 * (j + i)) (flCells (cellsC c (5 * Fb) (5 * (j + i)))) ∧ Su wx base d p F q L (k + t + 1) ∧ Bs wx (some ⟨g, 0, none⟩) (catQ q ((Fb : Int) + (j : Int)) s) ∧ Bt wx g) (fun _ b _ _ _ => lenV b)
      case atStart => exact ⟨0, _, by omega, rfl, fun _ => rfl, kr2, ho2, h2, hB, hT⟩
      case round =>
        obtain ⟨i, pa, hi, rfl, hpa, kx, hox, hzx, hBx, hTx⟩ := hrel
        rcases Nat.lt_or_ge i s with hl | hl
        · obtain rfl := hpa hl
          have hpos : 0 < 40 * (s - i) := by omega
          have hbi : (Fb : Int) + (j : Int) + (i : Int) = ((Fb + j + i : Nat) : Int) := by omega
          have hb258 : Fb + j + i < 258 := by have := HX.out; omega
          have hBi : Bs wr (some ⟨g, 40 * i, none⟩) (q ((Fb + j + i : Nat) : Int)) := by
            rw [← hbi]
            exact Bs.catQ hBx HLS.out hl
          have HU := Lib.hid (unpack_forty wr (c := c' - 40 * i) (HL40.out _ hb258) (by omega) hBi)
          clear hbi
          go_wp2_with fail
          refine HU.out.mono ?_
          rintro e w4 hu
          have hu5 := HU5.out _ hb258
          rcases hu with ⟨v5, xs5, hu6, rfl, k4, o5⟩ | ⟨hu6, _⟩
          rotate_left
          · rw [hu5] at hu6; cases hu6
          obtain rfl : rowC c (Fb + j + i) = xs5 := by rw [hu5] at hu6; exact Option.some.inj hu6
          clear hu5 hu6 HU hBi
          obtain ⟨g5, c5, rfl, hF5, -, -⟩ := fl_own o5 (by decide)
          have kx4 := kx.then k4
          have hz4 := hzx.keep hf k4
          have hB4 := hBx.chg k4
          have hT4 : Bt w4 g := ⟨_, k4.heap hTx.choose_spec (by simp)⟩
          have ho4 := ownsRow_chg hox k4
          have hb4 := kx4.size
          have HFl := Lib.hid hF5
          have HRL := Lib.hid (rowC_len c (Fb + j + i))
          clear kx hzx hBx hTx hox hF5 o5
          go_wp2_with (at_builtin; refine wpList_append_fl rfl (.tmp 84) (.tmp 85) rfl w1.heap.size _ (5 * (j + i)) (cellsC c (5 * Fb) (5 * (j + i))) (rowC c (Fb + j + i)) rfl ho4 g5 0 5 c5 rfl HRL.out (by decide) HFl.out (by have := HX.out; omega) hb4 ?_; intro g9 cap9 w9 h9 k9)
          have hgn := own_block_ne ho4 hT4.choose_spec (by decide)
          have HB9 := Lib.hid (hB4.chgT k9 hgn)
          have HT9 := Lib.hid (show Bt w9 g from ⟨_, k9.heap hT4.choose_spec hgn⟩)
          have HK9 := Lib.hid (kx4.then_new k9 (own_lowF ho4))
          have HZ9 := Lib.hid (hz4.keepF ho4 k9 (hf.keep _ _ HK9.out henv))
          have h9' : w9.ownsRow w1.heap.size 33 1 (.slice (some ⟨g9, 0, none⟩) (5 * (j + i) + 5) cap9) (5 * (j + (i + 1))) (flCells (cellsC c (5 * Fb) (5 * (j + (i + 1))))) := by
            have e1 : 5 * (j + (i + 1)) = 5 * (j + i) + 5 := by omega
            have e2 : cellsC c (5 * Fb) (5 * (j + (i + 1))) = cellsC c (5 * Fb) (5 * (j + i)) ++ rowC c (Fb + j + i) := by rw [← Nat.add_assoc, cellsC_row, Nat.add_assoc]
            rw [e2, e1]; exact h9
          clear hB4 hT4 hz4 ho4 h9 k9 k4 HFl HRL
          go_roundw
          case rel => exact ⟨i + 1, _, by omega, by congr 1 <;> omega, fun h => by rw [if_neg (by omega)]; congr 2, HK9.out, h9', HZ9.out, HB9.out, HT9.out⟩
          case measure => simp [lenV]; omega
        · obtain rfl : i = s := by omega
          have hz0 : 40 * (i - i) = 0 := by omega
          have hnz : ¬ ((0 : Int) < ((40 * (i - i) : Nat) : Int)) := by omega
          have HA := Lib.hid (show Fb + (j + i) ≤ Lb + 1 ∧ (t + 1) * 16 ≤ (j + i) + 15 ∧ (Fb + (j + i) ≤ Lb → j + i = 16 * (t + 1)) by have h1 := HJT.out; have h2 := HS4.out; omega)
          have HR := Lib.hid (show Value.int IntKind.i64 (wrap64 ((Fb : Int) + j + i)) = Value.int IntKind.i64 ((Fb : Int) + ((j + i : Nat) : Int)) from congrArg _ (by have := HX.out; unfold wrap64; omega))
          have HZ := Lib.hid (show Su wr base d p F q L (k + (t + 1)) by rw [← Nat.add_assoc]; exact hzx)
          have HM := Lib.hid (meas_lt hs1 hs3 HX.out.2.1)
          go_wp2_with fail
          go_roundw
          case rel => exact ⟨_, _, _, _, ⟨j + i, rfl, t + 1, by first | exact ⟨HA, kx, hox, HZ.out⟩ | exact ⟨HA, hox, HZ.out⟩⟩, rfl, rfl, rfl, HR.out⟩
          case measure => exact HM.out
    · have hnl : ¬ ((Fb + j : Nat) : Int) ≤ Lb := by omega
      have hjt2 := hjt.out
      obtain ⟨gv, cv, rfl, hFv, hgv, hle⟩ := fl_own hor (by have := HX.out; omega)
      have e1 : IntKind.i64.wrap ((Fb : Int) * 5) = ((5 * Fb : Nat) : Int) := by rw [IntKind.wrap_i64]; have := HX.out; omega
      have e2 : IntKind.i64.wrap ((f : Int) - ((5 * Fb : Nat) : Int)) = ((f - 5 * Fb : Nat) : Int) := by rw [IntKind.wrap_i64]; have := HX.out; omega
      have e3 : IntKind.i64.wrap (((f - 5 * Fb : Nat) : Int) + n) = ((f - 5 * Fb + n : Nat) : Int) := by rw [IntKind.wrap_i64]; have := HX.out; omega
      have e4 : f - 5 * Fb + n ≤ 5 * j := by have := HX.out; omega
      have e5 : 5 * Fb ≤ f := by have := HX.out; omega
      have HT33 := Lib.hid (own_elem hor (g := gv) rfl).2
      have HE := Lib.hid (fl_cut (f := f) (n := n) hFv e5 e4)
      have HK2 := Lib.hid ((Ow.of_chg (base := base) k1).trans kr)
      have HM := Lib.hid (show k + t ≤ k + ((Lb - Fb) / 16 + 1) by have := HX.out; omega)
      have HC := Lib.hid (show n ≤ cv - (f - 5 * Fb) by omega)
      have HG := Lib.hid (show w.heap.size ≤ gv by omega)
      clear hjt2 hjt
      go_wp2_with fail
      go_ret2
      exact ⟨gv, f - 5 * Fb, cv - (f - 5 * Fb), k + t, rfl, HC.out, HG.out, HK2.out, HE.out, hsr, HM.out, HT33.out⟩
end
/-- no old block of numbers changes. -/
def K33 (w w' : World) : Prop := ∃ U, Chg U w w' ∧ ∀ x ∈ U, ∀ cs fr, w.heap[x]? ≠ some (.cells cs 33 fr)
theorem RdK.k33 {T rw : Nat} {w w' : World} (h : RdK T rw w w') : K33 w w' := by
  obtain ⟨U, h1, h2⟩ := h
  exact ⟨U, h1, fun x hx cs fr hh => (h2 x hx (heap_lt hh)).2.2 _ _ _ hh (by simp)⟩
/-- the ids of a store, with a reader's. -/
def rId (d : Ids) (T W rw Q V : Nat) : Ids := { d with T := T, W := W, rw := rw, Q := Q, V := V }
theorem Sto.ids {w : World} {lw T W rw Q V : Nat} {d : Ids} {s : Gs} {g : Gd} (h : Sto w lw d s g) : Sto w lw (rId d T W rw Q V) s g :=
  ⟨h.store, h.slot, h.text, h.dev, h.mx, h.ap, h.keys, h.bnd, h.bndZ, h.slo, h.dlo⟩
theorem Sto.ids' {w : World} {lw T W rw Q V : Nat} {d : Ids} {s : Gs} {g : Gd} (h : Sto w lw (rId d T W rw Q V) s g) : Sto w lw d s g :=
  ⟨h.store, h.slot, h.text, h.dev, h.mx, h.ap, h.keys, h.bnd, h.bndZ, h.slo, h.dlo⟩
/-- a reader's handle, time, versions. -/
def rPar (s : Gs) (hr t : Int) : Par := ⟨hr, t, s.lo, s.lastv, s.Lv, s.vs⟩
section
variable {lw base T W rw Q V k j : Nat} {hr t : Int} {qR : Int → List UInt8} {d : Ids} {s : Gs} {g : Gd} {q : Int → List UInt8}
theorem SnR.fr {w : World} (h : SnR w lw base T W rw Q V hr t k qR j d s g q) : Fr base (rId d T W rw Q V) (rPar s hr t) (StoF lw (rId d T W rw Q V) s g) :=
  fr_sto h.ids h.tab rfl rfl rfl rfl
theorem SnR.su {w : World} (h : SnR w lw base T W rw Q V hr t k qR j d s g q) : Su w base (rId d T W rw Q V) (rPar s hr t) (StoF lw (rId d T W rw Q V) s g) qR [] k :=
  ⟨h.sto.ids, h.rd.tx, h.rd.buf, (fun x hx => by cases hx), fun b b0 b1 => Or.inl ⟨rfl, (h.old b b0 b1).symm⟩, h.rd.vw, h.rd.sp, h.rd.high⟩
theorem snr_cells (w : World) {c : Nat → Nat} {f n : Nat} (h : SnR w lw base T W rw Q V hr t k qR j d s g q) (hq : CellQ qR c) (hk : k + readsC f n ≤ 60) (hn : 0 < n) (hn2 : n ≤ 2000) (hfn : f + n ≤ 1290) :
    Calls Tryz.prog 15 #[.pointer (some ⟨d.P, 0, none⟩), .int .i64 hr, .int .i64 f, .int .i64 n] w fun e w' =>
    ∃ gx o cp k', e = .returned (.tuple #[.slice (some ⟨gx, o, none⟩) n cp, .int .i64 0]) ∧ n ≤ cp ∧ Kp lw w w' ∧ Fl w' (some ⟨gx, o, none⟩) (cellsC c f n) ∧ (∃ cs, w'.heap[gx]? = some (.cells cs 33 (0, 0))) ∧ SnR w' lw base T W rw Q V hr t k' qR j d s g q ∧ k' ≤ k + readsC f n ∧
      K33 w w' := by
  refine (qcells_x w h.fr h.su hq hk hn hn2 hfn).mono ?_
  rintro e w' ⟨gx, o, cp, k', rfl, a1, a2, a3, a4, a5, a6, a7⟩
  refine ⟨gx, o, cp, k', rfl, a1, Kp.of_ow a3 h.lw.2, a4, a7, ⟨Sto.ids' (T := T) (W := W) (rw := rw) (Q := Q) (V := V) a5.env, h.pl, h.lb, ?_, ⟨Nat.le_trans h.lw.1 a3.size, h.lw.2⟩, ⟨a5.tx, a5.buf, a5.vw, a5.sp, a5.high⟩, h.tab, h.rng, h.ids, h.old⟩, a6, ?_⟩
  · obtain ⟨U, u1, u2⟩ := a3
    exact h.qn.keep u1 (fun x hx cs hh => absurd ((u2 x hx).2 _ _ _ hh) (by decide))
  · obtain ⟨U, u1, u2⟩ := a3
    exact ⟨U, u1, fun x hx cs fr hh => absurd ((u2 x hx).2 _ _ _ hh) (by decide)⟩
set_option maxRecDepth 100000 in
set_option maxHeartbeats 2000000 in
theorem snr_none (w : World) {f : Nat} (h : SnR w lw base T W rw Q V hr t k qR j d s g q) (hfn : f ≤ 1290) :
    Calls Tryz.prog 15 #[.pointer (some ⟨d.P, 0, none⟩), .int .i64 hr, .int .i64 f, .int .i64 0] w fun e w' => e = .returned (.tuple #[.slice none 0 0, .int .i64 0]) ∧ Chg [] w w' := by
  have HC := Lib.hid (ccount_need w (h.fr.need _ h.su.env))
  have c3 : ¬ ((f : Int) < 0) := by omega
  have c4 : ¬ ((f : Int) > 1290) := by omega
  have hid : (rId d T W rw Q V).P = d.P := rfl
  rw [hid] at HC
  clear h hid
  go_enter Tryz.func15, Tryz.ntmps15
  go_wp2_with fail
  go_step3
  go_wp2_with fail
  refine HC.out.mono ?_
  rintro e w1 ⟨rfl, k1⟩
  go_wp2_with fail
  simp only [Exit.noGoto]
  go_ret2
  exact ⟨rfl, k1⟩
theorem SnR.keep {w w' : World} (h : SnR w lw base T W rw Q V hr t k qR j d s g q) (hc : Chg [] w w') : SnR w' lw base T W rw Q V hr t k qR j d s g q :=
  ⟨h.sto.keep hc, h.pl, h.lb, h.qn.keep hc (fun x hx => by cases hx), ⟨Nat.le_trans h.lw.1 hc.size, h.lw.2⟩, h.rd.keep (RdK.of_chg hc), h.tab, h.rng, h.ids, h.old⟩
end
theorem FrO.snr {w : World} {lw n P G : Nat} {cs cr : Nat → Nat} (h : FrO w lw n 0 0 0 0 P G cs cr) : ∃ base T W rw Q V t qR d s g q, ∃ j : Nat, d.P = P ∧ j ≤ 2 * n + 1 ∧ SnR w lw base T W rw Q V (n + 1 : Nat) t 0 qR j d s g q ∧ CellQ qR cs := by
  obtain ⟨d, s, g, q0, base, q, Ls, lo, Y, D, V, U, Tv, xs, L, S, Pz, j, h1, h2, h3, h4, h5, h6, h7, h8, h9, hL, hA, hB, hC, hD, hE⟩ := h.all
  have hs := h2.so
  obtain rfl : Ls = [] := List.eq_nil_of_length_eq_zero (by omega)
  have hp := hs.pl
  have hlast := hp.last
  have hgv := hp.given
  have hnum := hp.num
  have hbl := hp.bl
  have hops := hp.ops
  have hcnt := hp.cnt
  have hlog := hp.log
  have hSto : Sto w lw d (begS s d.T) g := hs.su.env
  have hpl : Pln (begS s d.T) g q0 (j + 1) := ⟨hp.out, hp.rd, hp.lastv, ⟨hgv.1, by show s.given ≤ _; omega⟩, hp.last, ⟨hnum.1, by show s.num ≤ _; omega⟩, ⟨by show 0 ≤ s.bl + 1; omega, by show s.bl + 1 ≤ _; omega⟩, hp.old, fun b => Nat.le_succ_of_le (hp.small b), hp.inn, ⟨hops.1, by omega⟩, ⟨by omega, by omega⟩, hlog, hp.blk⟩
  refine ⟨base, d.T, d.W, d.rw, d.Q, d.V, s.last, q, d, begS s d.T, g, q0, j + 1, h1, by omega, ⟨hSto, hpl, ?_, hs.qn, ⟨hs.low.2.1, hs.low.1⟩, ⟨hs.su.tx, hs.su.buf, hs.su.vw, hs.su.sp, hs.su.high⟩, ?_, ?_, hs.lt, fun b b0 b1 => ?_⟩, h6⟩
  · show [(s.bl + 1, Value.int .i64 s.last)] = _
    rw [h4]
    rfl
  · show getL (putL s.Lr (s.bl + 1) _) _ = _
    rw [h4]
    exact (getL_put _ _ _ _).trans (if_pos rfl)
  · show 0 ≤ ((n + 1 : Nat) : Int) ∧ ((n + 1 : Nat) : Int) ≤ s.bl + 1 ∧ s.last ≤ s.last
    omega
  · rcases hs.su.blk b b0 b1 with ⟨-, e⟩ | ⟨_, _, e, -⟩
    · exact e.symm
    · cases e
end Go.Proofs.YtelakcjbknbehaaGreat
