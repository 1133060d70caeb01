/- Lemmas and walks: Walks: versions that nobody reads are taken away: slices.Clone of versions 133; a map's entry is put anew, its stamp is kept. Walks: extmap.Prune 99: versions that nobody reads are taken away. Walks: a block is put behind a zone's blocks; a device is flushed. Walks: a batch of one transaction is turned into frames. Walks: cells are got and set in an open transaction, whatever was committed before. Walks: a batch of one transaction is written into the log. The state of a store, in general: its parts, kept together; how the slots' text is read. Walks: numbers read out of bytes, the least first; bytes compared. Walks: how far a zone is written (zdev.Pointer 62); a row that is no frame (store.strange 84). -/
import Derived.Maps.RangeRun
import Derived.Test.YtnelakpdmjfolaaGreatCe
import Derived.Test.YtnelakpdmjfolaaGreatCf
namespace Go.Proofs.YtnelakpdmjfolaaGreat
open Go.RowKit Go.Lib

theorem findL_of_get {L : List (Int × Value)} {k : Int} {v : Value} (h : getL L k = some v) (i : Nat) : ∃ x, findL L k i = some x := by
  induction L generalizing i with
  | nil => cases h
  | cons p l ih =>
    simp only [getL] at h
    simp only [findL]
    split at h
    · rename_i e
      rw [if_pos e]
      exact ⟨_, rfl⟩
    · rename_i e
      rw [if_neg e]
      exact ih h _
/-- a map's entry is put anew: the stamps stay. -/
theorem run_update_born {P : Program} {w : World} {mty kt et : TypeId} (hm : P.underlying mty = some (.map kt et)) (hk : P.underlying kt = some (.int .i64)) {r : Nat} {L : List (Int × Value)} {es : Array MapEntry} {clock : Nat} (hb : w.heap[r]? = some (.map es clock)) (hIS : IMS es clock L) {k : Int} {v0 : Value} (hg : getL L k = some v0) (v : Value) :
    ∃ es' w', (Instr.mapUpdate mty (.map (some r)) (.int .i64 k) v).run P w = .ok () w' ∧ w'.heap[r]? = some (.map es' clock) ∧ IMS es' clock (putL L k v) ∧ es'.toList.map (·.born) = es.toList.map (·.born) ∧ Chg [r] w w' := by
  obtain ⟨hI, hS⟩ := hIS
  have hf := findNow_im .i64 k es.toList L hI 0
  have hc : (Instr.checkKey false 10000 kt (.int .i64 k)).run P w = .ok () w := MapKept.run_checkKey (k := .int .i64 k) hk (by simp [MapKept.IsKey]) false 9999
  obtain ⟨⟨i, u⟩, hfl⟩ := findL_of_get hg 0
  rw [hfl] at hf
  have hp := putL_some hfl v
  simp only [Nat.sub_zero] at hp
  have hkey : ((es[i]?).map (·.key)).getD (.int .i64 k) = .int .i64 k := by
    have h1 : (es.toList.map (fun e => (e.key, e.val)))[i]?.map Prod.fst = (es[i]?).map (·.key) := by
      rw [List.getElem?_map, Option.map_map, Array.getElem?_toList]; rfl
    rw [← h1, hI, List.getElem?_map, Option.map_map]
    have h2 := hp.2
    cases hl : L[i]? with
    | none => rfl
    | some p => rw [hl] at h2; simp at h2; simp [h2]
  have hst : (Instr.keyThatStays (.int .i64 k) (.int .i64 k)).run P w = .ok (.int .i64 k) w := by
    unfold Instr.keyThatStays
    rw [if_pos (by simp [Instr.sameBits])]
    rfl
  refine ⟨es.modify i fun e => { e with key := .int .i64 k, val := v }, mapSet w r (.map (es.modify i fun e => { e with key := .int .i64 k, val := v }) clock), ?_, mapSet_heap hb, ⟨?_, MapKept.stamped_modify hS i _ (fun e _ => rfl) (fun e he hi => ?_)⟩, ?_, mapSet_chg _ _ _⟩
  · simp [Instr.mapUpdate, run_underlying hm, MapKept.run_getObj_map hb, hc, MapKept.run_findKey hk hf, hkey, hst, MapKept.run_setObj_map _ hb, Result.andThen, mapSet]
  · rw [hp.1]
    unfold IM at hI ⊢
    rw [Array.toList_modify, modify_map (fun e : MapEntry => (e.key, e.val)) _ (fun _ => (Value.int .i64 k, v)) (fun a => rfl), hI,
      modify_map (fun p : Int × Value => (Value.int .i64 p.1, p.2)) _ (fun _ => (Value.int .i64 k, v)) (fun a => rfl)]
  · have h3 := hkey
    rw [hi] at h3
    exact h3.symm
  · rw [Array.toList_modify, modify_map (fun e : MapEntry => e.born) (fun e : MapEntry => { e with key := .int .i64 k, val := v }) id (fun a => rfl)]
    apply List.ext_getElem?
    intro j
    rw [List.getElem?_modify]
    cases (List.map (fun e : MapEntry => e.born) es.toList)[j]? <;> simp
theorem run_append_vr (w : World) (ty base : Nat) (v : Value) (n : Nat) (xs l : List Value) (hown : w.ownsRow base 196 2 v n xs) (b o m c : Nat) (hl : l.length = m * 2) (hs : ∀ j u, l[j]? = some u → w.cell? ⟨b, o + j, none⟩ = some u) (h1 : ∀ u ∈ l, u.oneCell' = true) (hn : n + m ≤ 1000000) (hbase : base ≤ w.heap.size) :
    ∃ v' w', (Builtin.append_ #[194, 194] ty #[v, .slice (some ⟨b, o, none⟩) m c]).run Tryz.prog w = .ok v' w' ∧ AppendedV base 196 2 w v (n + m) (xs ++ l) v' w' := by
  obtain ⟨i, hi0, hz, hz1, hz2⟩ := info_parts inf267
  obtain ⟨v', w', h2, h3, h4, _⟩ := run_append_own (P := Tryz.prog) w base 194 ty 196 i (.agg #[.int .i64 0, .slice none 0 0]) 2 32 ty265 hi0 hz hz1 hz2 rfl (by decide) v n xs hown ⟨b, o, none⟩ m c l hl
    (fun j u hu => by
      have ha : (⟨b, o, none⟩ : Addr).add j = ⟨b, o + j, none⟩ := by unfold Addr.add; split <;> simp_all
      rw [ha]; exact hs j u hu) h1 (by unfold maxLen; omega) (by omega) hbase
  exact ⟨v', w', h2, h3, below_grown hown h4 hbase, h4⟩
theorem wpList_append_vr {ops : Array Oper} {rest : List Oper} {o : Oper} {a : Act} {w : World} {Q : Exit → Act → World → Prop} (hg : o.guard = none) (s x : Operand)
    (ho : o.op = .call { callee := .builtin .append, args := #[s, x], argTypes := #[194, 194] }) (base : Nat) (v : Value) (n : Nat) (xs l : List Value) (hs : a.eval s = v) (hown : w.ownsRow base 196 2 v n xs)
    (b eo m c : Nat) (hx : a.eval x = .slice (some ⟨b, eo, none⟩) m c) (hl : l.length = m * 2) (hr : ∀ j u, l[j]? = some u → w.cell? ⟨b, eo + j, none⟩ = some u) (h1 : ∀ u ∈ l, u.oneCell' = true) (hn : n + m ≤ 1000000) (hbase : base ≤ w.heap.size)
    (h : ∀ v' w', AppendedV base 196 2 w v (n + m) (xs ++ l) v' w' → wpList Tryz.prog ops Q rest (a.put o.dst v') w') : wpList Tryz.prog ops Q (o :: rest) a w := by
  obtain ⟨v', w', h2, h3⟩ := run_append_vr w o.type base v n xs l hown b eo m c hl hr h1 hn hbase
  exact Lib.wpList_append_run w hg s x 194 194 ho v (.slice (some ⟨b, eo, none⟩) m c) hs hx v' w' h2 (h v' w' h3)
theorem own_empty196 (w : World) : (w.alloc (.cells #[] 196)).ownsRow w.heap.size 196 2 (.slice (some ⟨w.heap.size, 0, none⟩) 0 0) 0 [] := by
  refine ⟨rfl, Or.inr ⟨w.heap.size, 0, #[], rfl, Nat.le_refl _, ?_⟩⟩
  simp
  exact (Array.getElem?_eq_some_iff.1 (heap_new w (.cells #[] 196))).2
set_option maxRecDepth 100000 in
set_option maxHeartbeats 1000000 in
theorem clone_vr (w : World) {D o c m : Nat} {l : List Value} (hl : l.length = m * 2) (hm0 : 0 < m) (hm1 : m ≤ 1000000) (hb : ∀ j u, l[j]? = some u → w.cell? ⟨D, o + j, none⟩ = some u) (h1 : ∀ u ∈ l, u.oneCell' = true) : Calls Tryz.prog 133 #[.slice (some ⟨D, o, none⟩) m c] w fun e w' =>
    ∃ v, e = .returned v ∧ Chg [] w w' ∧ w'.ownsRow w.heap.size 196 2 v m l := by
  have hn : ∀ w, (binOp .eql 194 (.slice (some ⟨D, o, none⟩) m c) (.slice none 0 0)).run Tryz.prog w = .ok (.bool false) w := fun w => Lib.run_eql_slice_nil w 194 196 _ _ _ 0 0 ty265
  have HB := Lib.hid hb
  have HL := Lib.hid hl
  have H1 := Lib.hid h1
  clear hb hl h1
  go_enter Tryz.func133, Tryz.ntmps133
  go_wp2_with (first | (at_builtin; refine wpList_append_vr rfl (.tmp 5) (.tmp 6) rfl w.heap.size _ 0 [] l rfl (own_empty196 w) D o m c rfl HL.out (fun j u hu => (Chg.alloc (S := []) w _).cell (HB.out j u hu) (by simp)) H1.out (by omega) (by simp) ?_; intro v1 w1 h1))
  go_ret
  exact ⟨v1, rfl, Chg.of_below ((Below.of_alloc w _).trans h1.2.1), by simpa using h1.1⟩
/-- versions out of which some were taken that nobody reads from a time on. -/
def Cut (t : Int) (l l' : List (Int × List UInt8)) : Prop := (∃ i, l' = l.drop i) ∧ (l ≠ [] → l' ≠ []) ∧ ∀ t', t ≤ t' → bytT l' t' = bytT l t'
theorem Cut.refl (t : Int) (l : List (Int × List UInt8)) : Cut t l l := ⟨⟨0, rfl⟩, fun h => h, fun _ _ => rfl⟩
theorem Cut.trans {t : Int} {a b c : List (Int × List UInt8)} (h : Cut t a b) (k : Cut t b c) : Cut t a c := by
  obtain ⟨⟨i, rfl⟩, h2, h3⟩ := h
  obtain ⟨⟨j, rfl⟩, k2, k3⟩ := k
  exact ⟨⟨i + j, by rw [List.drop_drop]⟩, fun e => k2 (h2 e), fun t' ht => (k3 t' ht).trans (h3 t' ht)⟩
theorem Cut.at_ {t : Int} {l : List (Int × List UInt8)} {k : Nat} (hk : k < l.length) (h : l[k].1 ≤ t) : Cut t l (l.drop k) := by
  refine ⟨⟨k, rfl⟩, fun _ e => ?_, fun t' ht => ?_⟩
  · have := congrArg List.length e
    simp at this
    omega
  · have h2 : l = l.take k ++ l.drop k := (List.take_append_drop k l).symm
    have h3 : verT (l.drop k) t' = verT l t' := by
      conv => rhs; rw [h2]
      unfold verT
      rw [List.reverse_append, List.find?_append]
      have h4 : ((l.drop k).reverse.find? (fun p => decide (p.1 ≤ t'))).isSome := by
        rw [List.find?_isSome]
        exact ⟨l[k], List.mem_reverse.2 (by rw [List.drop_eq_getElem_cons hk]; exact List.mem_cons_self), by simp; omega⟩
      obtain ⟨x, hx⟩ := Option.isSome_iff_exists.1 h4
      rw [hx]
      rfl
    unfold bytT
    rw [h3]
theorem Cut.sub {t : Int} {l l' : List (Int × List UInt8)} (h : Cut t l l') : l'.length ≤ l.length ∧ ∀ x ∈ l', x ∈ l := by
  obtain ⟨⟨i, rfl⟩, -, -⟩ := h
  exact ⟨by simp, fun x hx => List.mem_of_mem_drop hx⟩
theorem Cut.nil {t : Int} {l l' : List (Int × List UInt8)} (h : Cut t l l') (e : l = []) : l' = [] := by
  obtain ⟨⟨i, rfl⟩, -, -⟩ := h
  rw [e]; simp
theorem VRow.drop {w w' : World} {lo lo' : Nat} {v' : Value} {l : List (Int × List UInt8)} {xs : List Value} {k : Nat} (hx : ∀ i (h : i < l.length), xs[i * 2]? = some (.int .i64 l[i].1) ∧ ∃ g c, xs[i * 2 + 1]? = some (.slice (some ⟨g, 0, none⟩) 40 c) ∧ Bs w (some ⟨g, 0, none⟩) l[i].2 ∧ l[i].2.length = 40 ∧ Bt w g)
    (hc : Chg [] w w') (ho : w'.ownsRow lo' 196 2 v' (l.length - k) (xs.drop (k * 2))) (hlo : lo ≤ lo') : VRow w' lo v' (l.drop k) := by
  refine ⟨xs.drop (k * 2), ?_, fun i hi => ?_⟩
  · rw [List.length_drop]
    exact ownsRow_low ho hlo
  · have hi2 : k + i < l.length := by simp at hi; omega
    obtain ⟨h0, g, c, h1, h2, h3, h4⟩ := hx (k + i) hi2
    rw [List.getElem_drop]
    refine ⟨by rw [List.getElem?_drop, show k * 2 + i * 2 = (k + i) * 2 by omega]; exact h0, g, c, by rw [List.getElem?_drop, show k * 2 + (i * 2 + 1) = (k + i) * 2 + 1 by omega]; exact h1, h2.chg hc, h3, Bt.keep h4 hc (by simp)⟩
/-- the versions of one block are put anew. -/
theorem VerG.cut {wA wB : World} {lo X rx : Nat} {last b : Int} {L : List (Int × Value)} {vs : Int → List (Int × List UInt8)} {v v' : Value} {l' : List (Int × List UInt8)} (h : VerG wA lo X rx last L vs) (hap : ApL L) (hk : ∀ p ∈ L, 0 ≤ p.1 ∧ p.1 < 258) (hg : getL L b = some v) (hr : VRow wA lo v' l') (hl' : l' ≠ []) (hlen : l'.length ≤ (vs b).length)
    (hnew : ∀ g, v'.ownBlock = some g → ∀ c u, getL L c = some u → u.ownBlock ≠ some g) (mB : MapAt wB rx (putL L b v')) (kB : Chg [rx] wA wB) :
    VerG wB lo X rx last (putL L b v') (fun c => if c = b then l' else vs c) ∧ ApL (putL L b v') ∧ ∀ p ∈ putL L b v', 0 ≤ p.1 ∧ p.1 < 258 := by
  have avB : Av wA [rx] [5] := av_map h.m _
  have hb := hk _ (getL_memk hg)
  have keepR : ∀ {u : Value} {l : List (Int × List UInt8)}, VRow wA lo u l → VRow wB lo u l := fun {u l} hu => hu.keep kB avB (fun g' hg' hm => by
    obtain ⟨cs, h2⟩ := hu.block g' hg'
    rw [List.mem_singleton] at hm
    subst hm
    exact map_cells h.m h2 rfl)
  refine ⟨⟨kB.heap h.x (by simpa using (map_cells h.m h.x).symm), mB, fun c c0 c1 => ?_, fun c => ?_⟩, ?_, putL_keys (P := fun x => 0 ≤ x ∧ x < 258) hk hb⟩
  · rw [getL_put]
    by_cases hc : c = b
    · simp only [if_pos hc]
      exact Or.inr ⟨_, rfl, keepR hr, hl'⟩
    · simp only [if_neg hc]
      rcases h.row c c0 c1 with e | ⟨u, e1, e2, e3⟩
      · exact Or.inl e
      · exact Or.inr ⟨u, e1, keepR e2, e3⟩
  · show (if c = b then l' else vs c).length ≤ 1000000
    split
    · have := h.small b; omega
    · exact h.small c
  · intro c1 c2 v1 v2 gg hne h1 h2 e1 e2
    rw [getL_put] at h1 h2
    by_cases hc1 : c1 = b
    · rw [if_pos hc1] at h1
      cases h1
      rw [if_neg (fun e => hne (by rw [hc1, e]))] at h2
      exact hnew gg e1 c2 v2 h2 e2
    · rw [if_neg hc1] at h1
      by_cases hc2 : c2 = b
      · rw [if_pos hc2] at h2
        cases h2
        exact hnew gg e2 c1 v1 h1 e1
      · rw [if_neg hc2] at h2
        exact hap c1 c2 v1 v2 gg hne h1 h2 e1 e2
end Go.Proofs.YtnelakpdmjfolaaGreat
namespace Go.Proofs.YtnelakpdmjfolaaGreat
open Go.RowKit Go.Lib

set_option maxRecDepth 100000 in
theorem upd_born {w : World} {r : Nat} {L : List (Int × Value)} {es : Array MapEntry} {clock : Nat} (hb : w.heap[r]? = some (.map es clock)) (hIS : IMS es clock L) {k : Int} {v0 : Value} (hg : getL L k = some v0) (v : Value) :
    ∃ es', (Instr.mapUpdate 184 (.map (some r)) (.int .i64 k) v).run Tryz.prog w = .ok () (updW w 184 r k v) ∧ (updW w 184 r k v).heap[r]? = some (.map es' clock) ∧ IMS es' clock (putL L k v) ∧ es'.toList.map (·.born) = es.toList.map (·.born) ∧ Chg [r] w (updW w 184 r k v) := by
  obtain ⟨es', w', h1, h2, h3, h4, h5⟩ := run_update_born (P := Tryz.prog) (mty := 184) (kt := 3) (et := 194) (by kernel_rfl) (by kernel_rfl) hb hIS hg v
  have h6 := (upd258 ⟨es, clock, hb, hIS⟩ k v).1
  have h7 := h1.symm.trans h6
  injection h7 with _ h8
  subst h8
  exact ⟨es', h1, h2, h3, h4, h5⟩
theorem IMS.entry {es : Array MapEntry} {clock : Nat} {L : List (Int × Value)} (h : IMS es clock L) (hn : (L.map Prod.fst).Nodup) : ∀ e ∈ es.toList, ∃ k, e.key = .int .i64 k ∧ (k, e.val) ∈ L ∧ getL L k = some e.val := fun e he => by
  have h1 : (e.key, e.val) ∈ es.toList.map (fun e => (e.key, e.val)) := List.mem_map.2 ⟨e, he, rfl⟩
  rw [h.im] at h1
  obtain ⟨p, hp, e1⟩ := List.mem_map.1 h1
  have e2 : e.key = .int .i64 p.1 := (congrArg Prod.fst e1).symm
  have e3 : e.val = p.2 := (congrArg Prod.snd e1).symm
  exact ⟨p.1, e2, by rw [e3]; exact hp, by rw [e3]; exact getL_of_mem hn hp⟩
/-- entries of the same stamps: as many are left. -/
theorem left_born {es es' : Array MapEntry} {seen : Array Nat} (h : es'.toList.map (·.born) = es.toList.map (·.born)) (e : MapEntry) (he : e ∈ (leftOf es' seen).toList) : (leftOf es (seen.push e.born)).size < (leftOf es seen).size := by
  obtain ⟨h1, h2⟩ := mem_left he
  have h3 : e.born ∈ es.toList.map (·.born) := by rw [← h]; exact List.mem_map.2 ⟨e, h1, rfl⟩
  obtain ⟨e0, h4, h5⟩ := List.mem_map.1 h3
  have h6 : e0 ∈ (leftOf es seen).toList := by
    unfold leftOf
    rw [Array.toList_filter, List.mem_filter]
    exact ⟨h4, by rw [h5, h2]; rfl⟩
  rw [← h5]
  exact left_shrinks es seen e0 h6
theorem vr_one {w : World} {l : List (Int × List UInt8)} {xs : List Value} (hl : xs.length = l.length * 2) (hx : ∀ i (h : i < l.length), xs[i * 2]? = some (.int .i64 l[i].1) ∧ ∃ g c, xs[i * 2 + 1]? = some (.slice (some ⟨g, 0, none⟩) 40 c) ∧ Bs w (some ⟨g, 0, none⟩) l[i].2 ∧ l[i].2.length = 40 ∧ Bt w g) : ∀ v ∈ xs, v.oneCell' = true := by
  intro v hv
  obtain ⟨i, hi, e⟩ := List.getElem_of_mem hv
  have hi2 : i / 2 < l.length := by omega
  obtain ⟨e0, g', c', e1, -⟩ := hx (i / 2) hi2
  have h3 : xs[i]? = some v := by rw [List.getElem?_eq_getElem hi, e]
  have : i = i / 2 * 2 ∨ i = i / 2 * 2 + 1 := by omega
  rcases this with h4 | h4
  · rw [← h4, h3] at e0
    rw [Option.some.inj e0]; rfl
  · rw [← h4, h3] at e1
    rw [Option.some.inj e1]; rfl
/-- what a pruning leaves. -/
def PrG (w w' : World) (lo X rx : Nat) (last t : Int) (vs : Int → List (Int × List UInt8)) : Prop :=
  Chg [rx] w w' ∧ ∃ L' vs', VerG w' lo X rx last L' vs' ∧ ApL L' ∧ (∀ p ∈ L', 0 ≤ p.1 ∧ p.1 < 258) ∧ ∀ b, Cut t (vs b) (vs' b)
/-- .. while it goes on. -/
structure PrI (w wr : World) (lo X rx R clock : Nat) (last t : Int) (vs : Int → List (Int × List UInt8)) (es0 : Array MapEntry) (seen : Array Nat) (es : Array MapEntry) (L : List (Int × Value)) (vr : Int → List (Int × List UInt8)) : Prop where
  it : wr.heap[R]? = some (.mapIter (some rx) clock seen clock)
  mp : wr.heap[rx]? = some (.map es clock)
  im : IMS es clock L
  bo : es.toList.map (·.born) = es0.toList.map (·.born)
  ver : VerG wr lo X rx last L vr
  ap : ApL L
  keys : ∀ p ∈ L, 0 ≤ p.1 ∧ p.1 < 258
  cut : ∀ b, Cut t (vs b) (vr b)
  chg : Chg [rx] w wr
theorem PrI.step {w wr w5 : World} {lo X rx R clock : Nat} {last t : Int} {vs : Int → List (Int × List UInt8)} {es0 : Array MapEntry} {seen : Array Nat} {es : Array MapEntry} {L : List (Int × Value)} {vr : Int → List (Int × List UInt8)} (h : PrI w wr lo X rx R clock last t vs es0 seen es L vr) (hR : w.heap.size ≤ R) {sn : Array Nat} (k : Chg [R] wr w5) (h5 : w5.heap[R]? = some (.mapIter (some rx) clock sn clock)) (hl : rx < w.heap.size) : PrI w w5 lo X rx R clock last t vs es0 sn es L vr := by
  have hne : rx ∉ [R] := by rw [List.mem_singleton]; omega
  refine ⟨h5, k.heap h.mp hne, h.im, h.bo, h.ver.keepA k (fun x hx cs t fr hh => ?_) hne, h.ap, h.keys, h.cut, h.chg.trans k (fun x hx hlt => ?_)⟩
  · rw [List.mem_singleton] at hx
    subst hx
    rw [h.it] at hh
    cases hh
  · rw [List.mem_singleton] at hx; omega
theorem set_iter {wr w2 : World} {R rx clock : Nat} {seen sn : Array Nat} (hR : wr.heap[R]? = some (.mapIter (some rx) clock seen clock)) (hal : w2 = wr ∨ w2 = wr.drew) : (Go.ChangeMaps.setBlock w2 R (.mapIter (some rx) clock sn clock)).heap[R]? = some (.mapIter (some rx) clock sn clock) ∧ Chg [R] wr (Go.ChangeMaps.setBlock w2 R (.mapIter (some rx) clock sn clock)) := by
  refine ⟨?_, ?_⟩
  · have hl : R < w2.heap.size := by rcases hal with rfl | rfl <;> exact heap_lt hR
    simp [Go.ChangeMaps.setBlock, hl]
  · have kk : Chg [R] wr w2 := by rcases hal with e | e <;> rw [e]; exact Chg.refl _ _; exact (Chg.refl _ _).drew
    refine kk.trans (T := [R]) ⟨rfl, rfl, rfl, by simp [Go.ChangeMaps.setBlock], fun q _ hq => ?_⟩ (fun x hx _ => hx)
    have : R ≠ q := by intro e; exact hq (by rw [e]; simp)
    simp [Go.ChangeMaps.setBlock, this]
set_option maxRecDepth 100000 in
set_option maxHeartbeats 4000000 in
theorem prune_ok (w : World) {lo X rx : Nat} {last t : Int} {L : List (Int × Value)} {vs : Int → List (Int × List UInt8)} (h : VerG w lo X rx last L vs) (hap : ApL L) (hk : ∀ p ∈ L, 0 ≤ p.1 ∧ p.1 < 258) (hlo : lo ≤ w.heap.size) :
    Calls Tryz.prog 99 #[.pointer (some ⟨X, 0, none⟩), .int .i64 t] w fun e w' => (∃ n : Int, e = .returned (.int .i64 n)) ∧ PrG w w' lo X rx last t vs := by
  have x0 : w.cell? ⟨X, 0, none⟩ = some (.int .i64 258) := cell_is h.x 0 rfl
  have x1 : w.cell? ⟨X, 1, none⟩ = some (.map (some rx)) := cell_is h.x 1 rfl
  have HG := Lib.hid (xgone_any w x0)
  obtain ⟨es0, clock, hm, hIS⟩ := id h.m
  have hr1 := run_range_map (P := Tryz.prog) w 184 3 194 rx es0 clock (by kernel_rfl) hm
  have kR : Chg [] w (w.alloc (.mapIter (some rx) clock #[] clock)) := Chg.alloc w _
  have R0 := heap_new w (.mapIter (some rx) clock #[] clock)
  have hrl := h.m.lt
  have HI := Lib.hid (show PrI w (w.alloc (.mapIter (some rx) clock #[] clock)) lo X rx w.heap.size clock last t vs es0 #[] es0 L vs from
    ⟨R0, kR.heap hm (by simp), hIS, rfl, h.keep kR, hap, hk, fun b => Cut.refl _ _, kR.mono (fun x hx _ => by cases hx)⟩)
  clear h hap hk hIS kR R0
  go_enter Tryz.func99, Tryz.ntmps99
  go_wp2_with fail
  refine HG.out.mono ?_
  rintro e w1 ⟨rfl, rfl⟩
  go_wp2_with fail
  generalize hzR : w.heap.size = R at *
  generalize w.alloc (.mapIter (some rx) clock #[] clock) = w3 at *
  clear hr1 x0 x1 hm HG
  go_loopw [4, 5, 6, 7] (fun v _ _ _ wr => (∃ n : Int, v = .int .i64 n) ∧ ∃ seen es L' vr, PrI w wr lo X rx R clock last t vs es0 seen es L' vr) (fun _ _ _ _ wr => (leftOf es0 (wr.iterSeen R)).size)
  case atStart => exact ⟨⟨0, rfl⟩, _, _, _, _, HI.out⟩
  case round =>
    obtain ⟨⟨n, rfl⟩, seen, es, L', vr, hI⟩ := hrel
    rename World => wr
    clear HI
    have hR := hI.it
    have hb1 := hI.mp
    have hst := hI.im.st
    rcases run_next_at (P := Tryz.prog) wr 0 R rx clock clock seen es clock hR hb1 hst.1 (Nat.le_refl _) with ⟨h0, hrun⟩ | ⟨e, he, w2, hal2, hrun⟩
    · have hnx : ∀ ty, (Instr.next (.pointer (some ⟨R, 0, none⟩)) false ty).run Tryz.prog wr = _ := fun _ => hrun
      have HI := Lib.hid hI
      clear hI
      go_wp2_with fail
      go_ret
      exact ⟨⟨n, rfl⟩, HI.out.chg, L', vr, HI.out.ver, HI.out.ap, HI.out.keys, HI.out.cut⟩
    · obtain ⟨k, hky, hL, hget⟩ := hI.im.entry hI.ver.m.nodup e (mem_left he).1
      obtain ⟨hk0, hk1⟩ : 0 ≤ k ∧ k < 258 := hI.keys _ hL
      obtain ⟨hR5, k5⟩ := set_iter (sn := seen.push e.born) hR hal2
      generalize hw5 : Go.ChangeMaps.setBlock w2 R (.mapIter (some rx) clock (seen.push e.born) clock) = w5 at *
      have hI5 := hI.step (by omega) k5 hR5 (by omega)
      have hen := run_entry_at (P := Tryz.prog) w5 R rx clock seen es clock e hR5 hI5.mp (mem_left he).1 hst.2.1
      have HM := Lib.hid (left_born hI.bo e he)
      obtain ⟨v, hv, hrow, hne⟩ : ∃ v, e.val = v ∧ VRow w5 lo v (vr k) ∧ vr k ≠ [] := by
        rcases hI5.ver.row k hk0 hk1 with ⟨e1, _⟩ | ⟨v, e1, e2, e3⟩
        · rw [hget] at e1; cases e1
        · rw [hget] at e1; cases e1; exact ⟨_, rfl, e2, e3⟩
      rw [hv] at hget hrun hen
      rw [hky] at hrun hen
      have HGt := Lib.hid (gat_any w5 (t := t) hI5.ver hk0 hk1)
      have hsm := hI5.ver.small k
      have HI := Lib.hid hI5
      have HGet := Lib.hid hget
      have HR := Lib.hid hR
      have Hne := Lib.hid hne
      have x1 : w5.cell? ⟨X, 1, none⟩ = some (.map (some rx)) := cell_is hI5.ver.x 1 rfl
      obtain ⟨xs, ho, hxs⟩ := hrow
      have hnl : (vr k).length ≠ 0 := fun e => hne (List.length_eq_zero_iff.1 e)
      obtain ⟨g, cap, cur, rfl, hlg, hgc, hcells, hc2, hc3⟩ : ∃ g cap cur, v = .slice (some ⟨g, 0, none⟩) (vr k).length cap ∧ lo ≤ g ∧ w5.heap[g]? = some (.cells cur 196 (0, 0)) ∧ cur.toList.take ((vr k).length * 2) = xs ∧ (vr k).length ≤ cap ∧ cap * 2 = cur.size := by
        rcases ho.2 with ⟨_, h0⟩ | ⟨g, cap, cur, e, hA, hg, hc1, hc2, hc3, ht⟩
        · exact absurd h0 hnl
        · exact ⟨g, cap, cur, e, hA, hg, ht, hc1, by first | exact hc3 | exact hc3.symm | omega⟩
      have hcells2 : ∀ wx, Chg [] w5 wx → ∀ (j : Nat) i u, (xs.drop (j * 2))[i]? = some u → wx.cell? ⟨g, j * 2 + i, none⟩ = some u := fun wx kx j i u hu => by
        refine kx.cell (cell_is hgc (j * 2 + i) ?_) (by simp)
        rw [List.getElem?_drop] at hu
        rw [← hcells, List.getElem?_take] at hu
        split at hu
        · rw [← Array.getElem?_toList]; exact hu
        · cases hu
      have hxl : xs.length = (vr k).length * 2 := ho.1
      have hone := vr_one hxl hxs
      have hnx : ∀ ty, (Instr.next (.pointer (some ⟨R, 0, none⟩)) false ty).run Tryz.prog wr = _ := fun _ => hrun
      have HC2 := Lib.hid hcells2
      have HXs := Lib.hid (And.intro hxl (And.intro hone hxs))
      have HLg := Lib.hid hlg
      clear hI hI5 hL hget ho hxs hcells hcells2 hone hxl hrun hne hnl hv hky
      go_wp2_with fail
      refine HGt.out.mono ?_
      rintro e6 w6 ⟨rfl, ⟨rfl, hno⟩ | ⟨j, rfl, hj, hvj⟩⟩
      · clear hno
        go_wp2_with fail
        go_roundw
        case rel => exact ⟨⟨n, rfl⟩, _, _, _, _, HI.out⟩
        case measure => simp only [World.iterSeen, hR5, HR.out]; exact HM.out
      · have HCut := Lib.hid (Cut.at_ (t := t) hj (by
          have := List.find?_some hvj
          simpa using this))
        have HLn := Lib.hid hj
        clear hvj
        by_cases hj0 : j = 0
        · have m1 : decide ((0 : Int) < (j : Int)) = false := decide_eq_false (by omega)
          clear HCut
          go_wp2_with fail
          go_roundw
          case rel => exact ⟨⟨n, rfl⟩, _, _, _, _, HI.out⟩
          case measure => simp only [World.iterSeen, hR5, HR.out]; exact HM.out
        · have m1 : decide ((0 : Int) < (j : Int)) = true := decide_eq_true (by omega)
          obtain ⟨len, hlen⟩ : ∃ len, len = (vr k).length := ⟨_, rfl⟩
          rw [← hlen] at HGet hc2 hj hsm ⊢
          have Hlen := Lib.hid hlen
          clear hlen HGt
          have hjl : j ≤ len := Nat.le_of_lt hj
          have hji : (j : Int) ≤ len := by omega
          have hci : (len : Int) ≤ cap := by omega
          have hcj : ¬ cap = j := by omega
          have x1d : w5.drew.cell? ⟨X, 1, none⟩ = some (.map (some rx)) := x1
          have kd : Chg [] w5 w5.drew := (Chg.refl [] w5).drew
          go_upto_region 8 with fail
          go_region_held3 (fun wx => wx.cell? ⟨X, 1, none⟩ = some (.map (some rx)))
            (first
              | (exact x1)
              | (exact x1d)
              | (exact x16)
              | (exact k7.cell x16 hrX))
            (first
              | (go_at_call 133; refine (clone_vr w5.drew (D := g) (o := j * 2) (l := xs.drop (j * 2)) (m := len - j) (by rw [List.length_drop, HXs.out.1, ← Hlen.out]; omega) (by omega) (by omega) (HC2.out _ kd j) (fun u hu => HXs.out.2.1 u (List.mem_of_mem_drop hu))).mono ?_; rintro e w6 ⟨v6, rfl, k6, o6⟩; have kk6 := kd.then k6; have x16 := k6.cell x1d (by simp); obtain ⟨es7, hmu, hb7, hI7, hbo7, k7⟩ := upd_born (w := w6) (kk6.heap HI.out.mp (by simp)) HI.out.im HGet.out v6; have hrX : X ∉ [rx] := by simpa using (map_cells HI.out.ver.m HI.out.ver.x).symm))
          all_goals
            have HF := Lib.hid (And.intro hb7 (And.intro hI7 (And.intro hbo7 (And.intro k7 (And.intro kk6 (And.intro o6 k6))))))
            clear hb7 hI7 hbo7 k7 kk6 o6 k6 x16
            generalize updW w6 184 rx k v6 = w7 at *
            go_wp2_with fail
            go_roundw
            case rel =>
              obtain ⟨hb7, hI7, hbo7, k7, kk6, o6, -⟩ := HF.out
              have hI := HI.out
              have hne : rx ≠ R := by omega
              have hs5 : lo ≤ w5.heap.size := by have := hI.chg.size; omega
              rw [Hlen.out] at o6
              have hr := VRow.drop HXs.out.2.2 kk6 o6 hs5
              have hcutv := VerG.cut (hI.ver.keep kk6) hI.ap hI.keys HGet.out hr (HCut.out.2.1 Hne.out) (by simp) (fun g6 hg6 c u hu hug => by
                have h1 := (own_elem o6 hg6).1
                have hck := hI.keys _ (getL_memk hu)
                rcases hI.ver.row c hck.1 hck.2 with ⟨e1, -⟩ | ⟨u', e1, e2, -⟩
                · rw [hu] at e1; cases e1
                · rw [hu] at e1
                  cases e1
                  obtain ⟨cs, hh⟩ := e2.block g6 hug
                  have h2 := heap_lt hh
                  have h3 : w5.heap.size ≤ g6 := h1
                  omega) ⟨_, _, hb7, hI7⟩ k7
              refine ⟨⟨_, rfl⟩, seen.push e.born, es7, _, _, k7.heap (kk6.heap hR5 (by simp)) (by simpa using hne.symm), hb7, hI7, hbo7.trans hI.bo, hcutv.1, hcutv.2.1, hcutv.2.2, fun b => ?_, (hI.chg.then (kk6.mono (fun x hx _ => by cases hx))).then k7⟩
              by_cases hb : b = k
              · rw [if_pos hb, hb]; exact (hI.cut k).trans HCut.out
              · rw [if_neg hb]; exact hI.cut b
            case measure =>
              obtain ⟨hb7, hI7, hbo7, k7, kk6, o6, -⟩ := HF.out
              have hne : rx ≠ R := by omega
              have hR7 := k7.heap (kk6.heap hR5 (by simp)) (by simpa using hne.symm)
              simp only [World.iterSeen, hR7, HR.out]
              exact HM.out
end Go.Proofs.YtnelakpdmjfolaaGreat
namespace Go.Proofs.YtnelakpdmjfolaaGreat
open Go.RowKit Go.Lib

theorem nodup_ne {Z : List Nat} (h : Z.Nodup) {i j : Nat} (hi : i < Z.length) (hj : j < Z.length) (hij : i ≠ j) : Z[i] ≠ Z[j] := by
  have h2 := List.pairwise_iff_getElem.1 h
  rcases Nat.lt_or_gt_of_ne hij with h3 | h3
  · exact h2 i j hi hj h3
  · exact (h2 j i hj hi h3).symm
/-- a family with one member turned. -/
def upF {α : Type} (f : Nat → α) (j : Nat) (x : α) : Nat → α := fun k => if k = j then x else f k
theorem DevG.put {w w' : World} {base N A c : Nat} {ops : Int} {Z : List Nat} {vs : Nat → Value} {gs : Nat → Nat} {zs : Nat → List (List UInt8)} (h : DevG w base N A c ops Z vs gs zs) {j : Nat} (hj : j < Z.length) {v' : Value} {l' : List (List UInt8)}
    (hc : Chg (Z[j] :: (vs j).ownBlock.toList) w w') (hz : w'.heap[Z[j]]? = some (.cells #[v', .int .i64 (gs j : Nat)] 64 (0, 0))) (hr : RowsAt w' base v' l') (hb : ∀ g, v'.ownBlock = some g → (vs j).ownBlock = some g ∨ w.heap.size ≤ g) :
    DevG w' base N A c ops Z (upF vs j v') gs (upF zs j l') := by
  have hj8 : j < 8 := by have := h.len; omega
  have hzj := h.zone j hj
  have ht : ∀ {g : Nat} {cs : Array Value} {t : TypeId}, w.heap[g]? = some (.cells cs t (0, 0)) → t ≠ 64 → t ≠ 38 → g ∉ Z[j] :: (vs j).ownBlock.toList := by
    intro g cs t hg h1 h2 hm
    rcases List.mem_cons.1 hm with rfl | hm
    · rw [hzj] at hg; cases hg; exact h1 rfl
    · obtain ⟨cs2, hb2⟩ := (h.rows j hj8).block g (by simpa using hm)
      rw [hg] at hb2; cases hb2; exact h2 rfl
  have hzk : ∀ k (hk : k < Z.length), k ≠ j → Z[k] ∉ Z[j] :: (vs j).ownBlock.toList := by
    intro k hk hkj hm
    rcases List.mem_cons.1 hm with e | hm
    · exact nodup_ne h.nodup hk hj hkj e
    · obtain ⟨cs2, hb2⟩ := (h.rows j hj8).block _ (by simpa using hm)
      rw [h.zone k hk] at hb2; cases hb2
  have hvk : ∀ k g, k < 8 → k ≠ j → (vs k).ownBlock = some g → g ∉ Z[j] :: (vs j).ownBlock.toList := by
    intro k g hk hkj hg hm
    rcases List.mem_cons.1 hm with e | hm
    · obtain ⟨cs2, hb2⟩ := (h.rows k hk).block g hg
      rw [e, hzj] at hb2; cases hb2
    · exact h.apart k j g hk hj8 hkj hg (by simpa using hm)
  obtain ⟨cA, hA⟩ := h.tA
  have av5 : Av w (Z[j] :: (vs j).ownBlock.toList) [5] := fun x hx cs t fr hh h5 => by
    simp at h5
    subst h5
    rcases List.mem_cons.1 hx with rfl | hm
    · rw [hzj] at hh; cases hh
    · obtain ⟨cs2, hb2⟩ := (h.rows j hj8).block x (by simpa using hm)
      rw [hh] at hb2; cases hb2
  refine ⟨hc.heap h.hdr (ht h.hdr (by decide) (by decide)), h.cap, h.len, ⟨cA, hc.heap hA (ht hA (by decide) (by decide))⟩, fun k hk => hc.cell (h.ptr k hk) (ht hA (by decide) (by decide)), fun k hk => ?_, fun k hk => ?_, fun a b g ha hb8 hab hg => ?_, h.nodup⟩
  · by_cases hkj : k = j
    · subst hkj
      simpa [upF] using hz
    · simpa [upF, hkj] using hc.heap (h.zone k hk) (hzk k hk hkj)
  · by_cases hkj : k = j
    · subst hkj
      simpa [upF] using hr
    · simpa [upF, hkj] using (h.rows k hk).keep hc av5 (fun g hg => hvk k g hk hkj hg)
  · by_cases haj : a = j
    · have hbj : b ≠ j := fun e => hab (haj.trans e.symm)
      simp only [upF, if_pos haj] at hg
      simp only [upF, if_neg hbj]
      intro hg2
      rcases hb g hg with h1 | h1
      · exact h.apart j b g hj8 hb8 (fun e => hbj e.symm) h1 hg2
      · obtain ⟨cs2, hb2⟩ := (h.rows b hb8).block g hg2
        have := heap_lt hb2
        omega
    · simp only [upF, if_neg haj] at hg
      by_cases hbj : b = j
      · simp only [upF, if_pos hbj]
        intro hg2
        rcases hb g hg2 with h1 | h1
        · exact h.apart a j g ha hj8 haj hg h1
        · obtain ⟨cs2, hb2⟩ := (h.rows a ha).block g hg
          have := heap_lt hb2
          omega
      · simp only [upF, if_neg hbj]
        exact h.apart a b g ha hb8 hab hg
theorem DevG.appended {wy w5 : World} {base N A c : Nat} {ops : Int} {Z : List Nat} {vs : Nat → Value} {gs : Nat → Nat} {zs : Nat → List (List UInt8)} (dy : DevG wy base N A c ops Z vs gs zs) {j : Nat} (hj : j < Z.length)
    {pa : Option Addr} {cv g2 c2 g5 cp5 : Nat} {xs : List Value} {l : List UInt8} (hv : vs j = .slice pa (zs j).length cv) (hx : ∀ i (h : i < (zs j).length), ∃ g c, xs[i]? = some (.slice (some ⟨g, 0, none⟩) 64 c) ∧ Bs wy (some ⟨g, 0, none⟩) (zs j)[i] ∧ (zs j)[i].length = 64 ∧ Bt wy g)
    (hxl : xs.length = (zs j).length) (o5 : w5.ownsRow base 38 1 (.slice (some ⟨g5, 0, none⟩) ((zs j).length + 1) cp5) ((zs j).length + 1) (xs ++ [.slice (some ⟨g2, 0, none⟩) 64 c2])) (k5 : Chg (Value.slice pa (zs j).length cv).ownBlock.toList wy w5)
    (i5 : (Value.slice pa (zs j).length cv).ownBlock = some g5 ∨ g5 = wy.heap.size) (b2 : Bs wy (some ⟨g2, 0, none⟩) l) (hl : l.length = 64) (t2 : Bt wy g2) :
    Chg (Z[j] :: (vs j).ownBlock.toList) wy (w5.setCell ⟨Z[j], 0, none⟩ (.slice (some ⟨g5, 0, none⟩) ((zs j).length + 1) cp5)) ∧
    DevG (w5.setCell ⟨Z[j], 0, none⟩ (.slice (some ⟨g5, 0, none⟩) ((zs j).length + 1) cp5)) base N A c ops Z (upF vs j (.slice (some ⟨g5, 0, none⟩) ((zs j).length + 1) cp5)) gs (upF zs j (zs j ++ [l])) := by
  have hj8 : j < 8 := by have := dy.len; omega
  have hb23 := (dy.rows j hj8).block
  have hzj := dy.zone j hj
  have hzn : Z[j] ∉ (vs j).ownBlock.toList := by
    intro hm
    obtain ⟨cs, h1⟩ := hb23 _ (by simpa using hm)
    rw [hzj] at h1
    cases h1
  have Z5 := k5.heap hzj (by rw [← hv]; exact hzn)
  rw [hv] at Z5
  have r5 : RowsAt w5 base (.slice (some ⟨g5, 0, none⟩) ((zs j).length + 1) cp5) (zs j ++ [l]) := RowsAt.push (v := .slice pa (zs j).length cv) hx hxl (by rw [← hv]; exact hb23) o5 k5 b2 hl t2
  have hset := Chg.set w5 Z[j] 0 (.slice (some ⟨g5, 0, none⟩) ((zs j).length + 1) cp5)
  have rF := r5.keep hset (Av.row Z5 (by simp)) (by
    intro g hg hm
    rw [List.mem_singleton] at hm
    obtain ⟨cs, h1⟩ := r5.block g hg
    rw [hm, Z5] at h1
    cases h1)
  have kF : Chg (Z[j] :: (vs j).ownBlock.toList) wy (w5.setCell ⟨Z[j], 0, none⟩ (.slice (some ⟨g5, 0, none⟩) ((zs j).length + 1) cp5)) := by
    rw [hv]
    exact (k5.mono (fun x hx _ => List.mem_cons_of_mem _ hx)).then (hset.mono (fun x hx _ => by rw [List.mem_singleton] at hx; subst hx; exact List.mem_cons_self))
  refine ⟨kF, dy.put hj kF (heap_set Z5 0 _ rfl) rF (fun g hg => ?_)⟩
  have e : g5 = g := by simpa [Value.ownBlock] using hg
  subst e
  rw [hv]
  rcases i5 with h | h
  · exact Or.inl h
  · exact Or.inr (Nat.le_of_eq h.symm)
set_option maxRecDepth 100000 in
set_option maxHeartbeats 2000000 in
theorem dappend_any (w : World) {base N A c : Nat} {ops : Int} {Z : List Nat} {vs : Nat → Value} {gs : Nat → Nat} {zs : Nat → List (List UInt8)} (h : DevG w base N A c ops Z vs gs zs) (h0 : 0 ≤ ops) (h1 : ops ≤ 1000000) (j : Nat) (hj : j < Z.length) (hroom : (zs j).length < 96)
    {D o cd : Nat} {l : List UInt8} (hb : Bs w (some ⟨D, o, none⟩) l) (hl : l.length = 64) (hD : ∀ g, D = g → g ≠ N) (hlow : base ≤ N) :
    Calls Tryz.prog 90 #[.pointer (some ⟨N, 0, none⟩), .int .i64 j, .slice (some ⟨D, o, none⟩) 64 cd] w fun e w' => ∃ v', e = .returned (.tuple #[.int .i64 ((zs j).length : Nat), .int .i64 0]) ∧ Chg (N :: Z[j] :: (vs j).ownBlock.toList) w w' ∧ DevG w' base N A c (ops + 1) Z (upF vs j v') gs (upF zs j (zs j ++ [l])) ∧ (∀ g, v'.ownBlock = some g → (vs j).ownBlock = some g ∨ w.heap.size ≤ g) := by
  have hj8 : j < 8 := by have := h.len; omega
  have HA := Lib.hid (dat_any w h j hj)
  have HB := Lib.hid (dbegin_any w h h0 h1)
  have hbN : Bs w (some ⟨D, o, none⟩) l := hb
  have HD := Lib.hid (hD D rfl)
  clear hb hD
  go_enter Tryz.func90, Tryz.ntmps90
  go_wp2_with fail
  refine HA.out.mono ?_
  rintro e w1 ⟨rfl, rfl⟩
  go_wp2_with fail
  refine HB.out.mono ?_
  rintro e w1 ⟨rfl, k1, d1⟩
  have hb1 : Bs w1 (some ⟨D, o, none⟩) l := hbN.chgT k1 (by simpa using HD.out)
  obtain ⟨xs, ho, hx⟩ := d1.rows j hj8
  obtain ⟨pa, cv, hv, hcv⟩ := own_form ho
  have hz1 := d1.zone j hj
  have hb23 := (d1.rows j hj8).block
  have hN1 := heap_lt d1.hdr
  rw [hv] at hz1 ho hb23
  have z0 : w1.cell? ⟨Z[j], 0, none⟩ = some (.slice pa (zs j).length cv) := cell_is hz1 0 rfl
  have s1 : w1.cell? ⟨N, 1, none⟩ = some (.int .i64 96) := cell_is d1.hdr 1 rfl
  have hnl : ¬ (((zs j).length : Int) ≥ 96) := by omega
  have HX := Lib.hid hx
  have HO := Lib.hid ho
  have H1 := Lib.hid d1
  have H23 := Lib.hid hb23
  have HZ := Lib.hid hz1
  have HR := Lib.hid hroom
  clear hx ho d1 HA HB h hb23 hroom hz1
  generalize hzz : Z[j] = z at *
  go_wp2_with fail
  go_quiet (fail)
  have z0d : (w1.drewN nq).cell? ⟨z, 0, none⟩ = some (.slice pa (zs j).length cv) := z0
  have k2 : Chg [N] w (w1.drewN nq) := k1.drewN nq
  have hN2 : N < (w1.drewN nq).heap.size := hN1
  have hb2 : Bs (w1.drewN nq) (some ⟨D, o, none⟩) l := hb1
  have H2 := Lib.hid (H1.out.keep ((Chg.refl [] w1).drewN nq) (Av.nil _ _))
  have HX2 : Hid (∀ (i : Nat) (h : i < (zs j).length), ∃ g c, xs[i]? = some (.slice (some ⟨g, 0, none⟩) 64 c) ∧ Bs (w1.drewN nq) (some ⟨g, 0, none⟩) (zs j)[i] ∧ (zs j)[i].length = 64 ∧ Bt (w1.drewN nq) g) := HX
  have HO2 : Hid ((w1.drewN nq).ownsRow base 38 1 (.slice pa (zs j).length cv) (zs j).length xs) := HO
  have HZ2 : Hid ((w1.drewN nq).heap[z]? = some (.cells #[.slice pa (zs j).length cv, .int .i64 (gs j : Nat)] 64 (0, 0))) := HZ
  clear z0 k1 hN1 hb1 H1 HX HO HZ s1
  generalize w1.drewN nq = w2 at *
  go_wp2_with fail
  have z0e : w2.drew.cell? ⟨z, 0, none⟩ = some (.slice pa (zs j).length cv) := z0d
  go_region_law
    (first
      | (go_simp; go_at_call 65; refine (clone_bt w2.drew (l := l) (m := 64) hl (by decide) (by decide) (hb2.chg (Chg.refl [] w2).drew)).mono ?_; rintro e w6 ⟨g2, c2, rfl, k6, bs6, l6, bt6⟩; have z6 := k6.cell z0e (by simp); have ky : Chg [] w2 (w6.alloc (.cells #[.slice (some ⟨g2, 0, none⟩) 64 c2] 38)) := ((Chg.refl [] w2).drew.then k6).then_alloc _; have y0 := heap_new w6 (.cells #[.slice (some ⟨g2, 0, none⟩) 64 c2] 38); have zy := ky.cell z0d (by simp); have oy := ownsRow_av HO2.out ky (Av.nil _ _); have Zy := ky.heap HZ2.out (by simp); have hby : base ≤ (w6.alloc (.cells #[.slice (some ⟨g2, 0, none⟩) 64 c2] 38)).heap.size := (by have := ky.size; omega))
      | (refine step_append_bk rfl (.tmp 39) (.tmp 42) rfl base _ (zs j).length xs rfl oy w6.heap.size 1 _ rfl (cell_is y0 0 rfl) rfl (by have := HR.out; omega) hby ?_; intro g5 cp5 w5 o5 k5 i5; have Z5 := k5.heap Zy (own_block_ne oy Zy (by decide)); have z5 := cell_is Z5 0 rfl; have f5 := unfrozen Z5 0))
  all_goals
    have dy := H2.out.keep ky (Av.nil _ _)
    have hxl : xs.length = (zs j).length := by have := oy.1; omega
    obtain ⟨kF, dF⟩ := dy.appended hj hv (fun i hi => by
      obtain ⟨g, c, h1, h2, h3, h4⟩ := HX2.out i hi
      exact ⟨g, c, h1, h2.chg ky, h3, h4.keep ky (by simp)⟩) hxl o5 k5 i5 (bs6.chg (Chg.alloc _ _)) hl (bt6.keep (Chg.alloc (S := []) _ _) (by simp))
    have kT : Chg (N :: Z[j] :: (vs j).ownBlock.toList) w (w5.setCell ⟨Z[j], 0, none⟩ (.slice (some ⟨g5, 0, none⟩) ((zs j).length + 1) cp5)) := ((k2.mono (fun x hx _ => by rw [List.mem_singleton] at hx; subst hx; exact List.mem_cons_self)).then (ky.mono (fun x hx _ => by cases hx))).then (kF.mono (fun x hx _ => List.mem_cons_of_mem _ hx))
    have KT := Lib.hid kT
    have DF := Lib.hid dF
    have HI : Hid (∀ g, (Value.slice (some ⟨g5, 0, none⟩) ((zs j).length + 1) cp5).ownBlock = some g → (vs j).ownBlock = some g ∨ w.heap.size ≤ g) := Lib.hid (fun g hg => by
      have hg' : g5 = g := Option.some.inj hg
      subst hg'
      rw [hv]
      rcases i5 with i | i
      · exact Or.inl i
      · have := k2.size
        have := ky.size
        exact Or.inr (by omega))
    rw [hzz] at KT DF
    clear kT dF kF dy oy o5 k5 i5 bs6 bt6 ky y0 zy Zy z6 k6 H23
    have hsub : wrap64 (((zs j).length : Int) + 1 - 1) = ((zs j).length : Nat) := by have := HR.out; unfold wrap64; omega
    go_wp2_with fail
    go_ret2
    have hC := KT.out
    have hD := DF.out
    rw [← hzz] at hD ⊢
    exact ⟨_, rfl, by rw [hzz]; exact hC, hD, HI.out⟩
/-- .. when what is for good of a zone is turned. -/
theorem DevG.setGood {w : World} {base N A c : Nat} {ops : Int} {Z : List Nat} {vs : Nat → Value} {gs : Nat → Nat} {zs : Nat → List (List UInt8)} (h : DevG w base N A c ops Z vs gs zs) {j : Nat} (hj : j < Z.length) (n : Nat) :
    DevG (w.setCell ⟨Z[j], 1, none⟩ (.int .i64 n)) base N A c ops Z vs (upF gs j n) zs := by
  have hc := Chg.set w Z[j] 1 (.int .i64 n)
  have hzj := h.zone j hj
  have ht : ∀ {g : Nat} {cs : Array Value} {t : TypeId}, w.heap[g]? = some (.cells cs t (0, 0)) → t ≠ 64 → g ∉ [Z[j]] := by
    intro g cs t hg h1 hm
    rw [List.mem_singleton] at hm
    subst hm
    rw [hzj] at hg; cases hg; exact h1 rfl
  obtain ⟨cA, hA⟩ := h.tA
  refine ⟨hc.heap h.hdr (ht h.hdr (by decide)), h.cap, h.len, ⟨cA, hc.heap hA (ht hA (by decide))⟩, fun k hk => hc.cell (h.ptr k hk) (ht hA (by decide)), fun k hk => ?_, fun k hk => (h.rows k hk).keep hc (Av.row hzj (by simp)) (fun g hg => ?_), h.apart, h.nodup⟩
  · by_cases hkj : k = j
    · subst hkj
      simpa [upF] using heap_set hzj 1 (.int .i64 n) rfl
    · simpa [upF, hkj] using hc.heap (h.zone k hk) (by simpa using nodup_ne h.nodup hk hj hkj)
  · obtain ⟨cs, hb⟩ := (h.rows k hk).block g hg
    exact ht hb (by decide)
/-- the first j zones' blocks are for good. -/
def goodF (gs : Nat → Nat) (zs : Nat → List (List UInt8)) (j : Nat) : Nat → Nat := fun k => if k < j then (zs k).length else gs k
theorem goodF_succ (gs : Nat → Nat) (zs : Nat → List (List UInt8)) (j : Nat) : upF (goodF gs zs j) j (zs j).length = goodF gs zs (j + 1) := by
  funext k
  unfold upF goodF
  by_cases h : k = j
  · subst h; simp
  · rw [if_neg h]
    by_cases h2 : k < j
    · rw [if_pos h2, if_pos (by omega)]
    · rw [if_neg h2, if_neg (by omega)]
set_option maxRecDepth 100000 in
set_option maxHeartbeats 1000000 in
theorem dflush_any (w : World) {base N A c : Nat} {ops : Int} {Z : List Nat} {vs : Nat → Value} {gs : Nat → Nat} {zs : Nat → List (List UInt8)} (h : DevG w base N A c ops Z vs gs zs) (h0 : 0 ≤ ops) (h1 : ops ≤ 1000000) : Calls Tryz.prog 64 #[.pointer (some ⟨N, 0, none⟩)] w fun e w' =>
    e = .returned (.int .i64 0) ∧ Chg (N :: Z) w w' ∧ DevG w' base N A c (ops + 1) Z vs (goodF gs zs 8) zs := by
  have HG := Lib.hid (dgone_any w h)
  have HB := Lib.hid (dbegin_any w h h0 h1)
  clear h
  go_enter Tryz.func64, Tryz.ntmps64
  go_wp2_with fail
  refine HG.out.mono ?_
  rintro e w1 ⟨rfl, rfl⟩
  go_wp2_with fail
  refine HB.out.mono ?_
  rintro e w1 ⟨rfl, hc1, h2⟩
  have hC1 : Chg (N :: Z) w w1 := hc1.mono (fun x hx _ => by rw [List.mem_singleton] at hx; simp [hx])
  have e2 : w1.cell? ⟨N, 2, none⟩ = some (.slice (some ⟨A, 0, none⟩) 8 c) := cell_is h2.hdr 2 rfl
  have hc8 := h2.cap
  have hg0 : goodF gs zs 0 = gs := by funext k; simp [goodF]
  rw [← hg0] at h2
  clear hc1 HG HB
  go_wp2_with fail
  go_loopw [17] (fun i wr => ∃ j : Nat, i = .int .i64 j ∧ j ≤ 8 ∧ DevG wr base N A c (ops + 1) Z vs (goodF gs zs j) zs ∧ Chg (N :: Z) w wr) (fun i _ => 8 - (intOf i).toNat)
  case atStart => exact ⟨0, rfl, by omega, h2, hC1⟩
  case round =>
    obtain ⟨j, rfl, hj, hD, hC⟩ := hrel
    by_cases hlt : j < 8
    · have hjz : j < Z.length := by have := hD.len; omega
      have hm : Z[j] ∈ Z := List.getElem_mem hjz
      obtain ⟨xs, ho, -⟩ := hD.rows j hlt
      obtain ⟨pa, cv, hv, -⟩ := own_form ho
      have hfin : ∀ w', w' = wr.setCell ⟨Z[j], 1, none⟩ (.int .i64 (zs j).length) → DevG w' base N A c (ops + 1) Z vs (goodF gs zs (j + 1)) zs ∧ Chg (N :: Z) w w' := by
        rintro w' rfl
        exact ⟨goodF_succ gs zs j ▸ hD.setGood hjz _, hC.then_set (fun _ => List.mem_cons_of_mem _ hm) _ _⟩
      have a0 := hD.ptr j hjz
      have k0 := hD.zone j hjz
      rw [hv] at k0
      have b0 : wr.cell? ⟨Z[j], 0, none⟩ = some (.slice pa (zs j).length cv) := cell_is k0 0 rfl
      have b1 : wr.cell? ⟨Z[j], 1, none⟩ = some (.int .i64 (goodF gs zs j j : Nat)) := cell_is k0 1 rfl
      have f1 := unfrozen k0 1
      have HF := Lib.hid hfin
      clear hfin hD hC k0 h2 hC1 e2 hm ho hv
      generalize Z[j] = z at *
      go_wp2_with fail
      go_roundw
      case rel => exact ⟨j + 1, by go_num, by omega, HF.out _ rfl⟩
      case measure => simp [intOf]; omega
    · obtain rfl : j = 8 := by omega
      go_wp2_with fail
      go_ret
      exact ⟨rfl, hC, hD⟩
end Go.Proofs.YtnelakpdmjfolaaGreat
namespace Go.Proofs.YtnelakpdmjfolaaGreat
open Go.RowKit Go.Lib

/-- the frames of the puts. -/
def datL (e num : Nat) (l : List (Int × List UInt8)) : List (List UInt8) := l.map fun x => encF 1 e num x.1.toNat x.2
/-- what the last frame tells. -/
def bodL (k n : Nat) : List UInt8 := leB k 8 ++ [1, 0, 0, UInt8.ofNat n]
def batL (e num k : Nat) (l : List (Int × List UInt8)) : List (List UInt8) := datL e num l ++ [encF 2 e num l.length (bodL k l.length)]
theorem datL_length (e num : Nat) (l : List (Int × List UInt8)) : (datL e num l).length = l.length := by simp [datL]
theorem batL_length (e num k : Nat) (l : List (Int × List UInt8)) : (batL e num k l).length = l.length + 1 := by simp [batL, datL_length]
theorem own_of_row {w : World} {base e g : Nat} {r : List UInt8} (h : w.heap[g]? = some (.cells (Lib.byteCells r).toArray e (0, 0))) (hb : base ≤ g) (hr : r.length ≤ 1000) {n : Nat} (hn : r.length = n) : w.ownsRow base e 1 (.slice (some ⟨g, 0, none⟩) n n) n (Lib.byteCells r) := by
  subst hn
  exact ⟨by simp [Lib.byteCells], .inr ⟨g, r.length, _, rfl, hb, h, Nat.le_refl _, by unfold maxLen; omega, by simp [Lib.byteCells], by rw [List.take_of_length_le (by simp [Lib.byteCells])]⟩⟩
set_option maxRecDepth 100000 in
theorem put64_own (w : World) (v : Nat) (hv : v < 18446744073709551616) {base : Nat} (hb : base ≤ w.heap.size) : Calls Tryz.prog 95 #[.int .u64 v] w fun e w' => ∃ g, e = .returned (.slice (some ⟨g, 0, none⟩) 8 8) ∧ Chg [] w w' ∧ w'.ownsRow base 5 1 (.slice (some ⟨g, 0, none⟩) 8 8) 8 (Lib.byteCells (leB v 8)) := by
  have HP := Lib.hid (bput_any w v 8 (by omega) hv (fun w => by kernel_rfl))
  go_enter Tryz.func95, Tryz.ntmps95
  go_wp2_with fail
  refine HP.out.mono ?_
  rintro e w' ⟨g, rfl, h1, h2, h3⟩
  rw [rowL_full] at h2
  have h4 := own_of_row h2 (Nat.le_trans hb h3) (by rw [leB_length]; decide) (leB_length _ _)
  clear h2
  go_wp2_with fail
  go_ret
  exact ⟨g, rfl, h1, h4⟩
/-- one byte is put behind an own row, as a step of a region that draws. -/
theorem step_append_u8 {ops : Array Oper} {o : Oper} {a : Act} {w : World} {K : Act → World → Prop} {Q : Exit → Act → World → Prop} {E : Prop} (hgd : o.guard = none) (s x : Operand)
    (ho : o.op = .call { callee := .builtin .append, args := #[s, x], argTypes := #[38, 38] }) (base : Nat) (v : Value) (n : Nat) (xs : List UInt8) (hs : a.eval s = v) (hown : w.ownsRow base 5 1 v n (Lib.byteCells xs)) (b c : Nat) (u : UInt8)
    (hx : a.eval x = .slice (some ⟨b, 0, none⟩) 1 c) (c0 : w.cell? ⟨b, 0, none⟩ = some (.int .u8 u.toNat)) (hn : n ≤ 1000000) (hbase : base ≤ w.heap.size)
    (h : ∀ g cap w', w'.ownsRow base 5 1 (.slice (some ⟨g, 0, none⟩) (n + 1) cap) (n + 1) (Lib.byteCells (xs ++ [u])) → Below base w w' → K (a.put o.dst (.slice (some ⟨g, 0, none⟩) (n + 1) cap)) w') :
    if Region.wanted o (yielded ops a.tmps) = true then Oper.wp Tryz.prog o a w K Q else E := by
  obtain ⟨i, hi0, hz, hz1, hz2⟩ := info_parts inf5c
  refine step_append_lies w hgd s x 38 ho base 5 i _ 1 1 ty23 hi0 hz hz1 hz2 rfl (by decide) v n _ hs hown ⟨b, 0, none⟩ 1 c [.int .u8 u.toNat] hx rfl ?_ ?_ (by decide) (by unfold maxLen; omega) (by omega) hbase _ rfl ?_
  · intro j u' hu
    rw [add_lit, Nat.zero_add]
    match j with
    | 0 => cases hu; exact c0
    | j + 1 => simp at hu
  · intro u' hu
    simp at hu
    rcases hu with rfl
    rfl
  · intro g cap w' h2 h3 h4 _
    refine h g cap w' (by rw [byteCells_app]; exact h2) (below_grown hown h3 hbase)
theorem RowsAt.app {w0 w' : World} {base gb cb n : Nat} {v v' : Value} {l : List (List UInt8)} {b : List UInt8} {xs : List Value} (hx : ∀ i (h : i < l.length), ∃ g c, xs[i]? = some (.slice (some ⟨g, 0, none⟩) 64 c) ∧ Bs w0 (some ⟨g, 0, none⟩) l[i] ∧ l[i].length = 64 ∧ Bt w0 g)
    (hn : l.length = n) (ho : w0.ownsRow base 38 1 v n xs) (ha : AppendedV base 38 1 w0 v (n + 1) (xs ++ [.slice (some ⟨gb, 0, none⟩) 64 cb]) v' w') (hb : Bs w0 (some ⟨gb, 0, none⟩) b) (hb4 : b.length = 64) (hbt : Bt w0 gb) : RowsAt w' base v' (l ++ [b]) := by
  subst hn
  obtain ⟨g, c, rfl⟩ := own_some ha.1 (by omega)
  exact RowsAt.push hx (by have := ho.1; omega) (fun g hg => (own_elem ho hg).2) ha.1 (Chg.own ha.2.2 (fun g hg _ => by simp [hg])) hb hb4 hbt
theorem RowsAt.keep0 {w w' : World} {base : Nat} {v : Value} {l : List (List UInt8)} (h : RowsAt w base v l) (hc : Chg [] w w') : RowsAt w' base v l := h.keep hc (Av.nil _ _) (fun _ _ => by simp)
theorem own_unique {w : World} {base e size n : Nat} {v : Value} {xs ys : List Value} (h : w.ownsRow base e size v n xs) (k : w.ownsRow base e size v n ys) : xs = ys := by
  obtain ⟨h1, h2⟩ := h
  obtain ⟨k1, k2⟩ := k
  rcases h2 with ⟨rfl, h0⟩ | ⟨g, cap, cur, rfl, hb, hg, hc, hm, hz, ht⟩
  · subst h0
    rw [Nat.zero_mul, List.length_eq_zero_iff] at h1 k1
    rw [h1, k1]
  · rcases k2 with ⟨e, _⟩ | ⟨g', cap', cur', e, hb', hg', hc', hm', hz', ht'⟩
    · cases e
    · cases e
      rw [hg] at hg'
      cases hg'
      rw [← ht, ← ht']
/-- none of the rows' bytes lie in the block nb. -/
def Away (w : World) (base : Nat) (v : Value) (n : Nat) (nb : Option Nat) : Prop := ∀ xs, w.ownsRow base 38 1 v n xs → ∀ x ∈ xs, ∀ g c, x = .slice (some ⟨g, 0, none⟩) 64 c → some g ≠ nb
theorem Away.nil (w : World) (base : Nat) (nb : Option Nat) : Away w base (.slice none 0 0) 0 nb := by
  intro xs h x hx
  have := h.1
  rw [Nat.zero_mul, List.length_eq_zero_iff] at this
  subst this
  cases hx
theorem Away.keep {w w' : World} {T : List Nat} {base : Nat} {v : Value} {l : List (List UInt8)} {nb : Option Nat} (h : Away w base v l.length nb) (hr : RowsAt w base v l) (hc : Chg T w w') (hT : Av w T [38]) : Away w' base v l.length nb := by
  intro ys ho
  obtain ⟨xs, hx, -⟩ := hr
  have := own_unique (ownsRow_av hx hc hT) ho
  subst this
  exact h _ hx
theorem Away.app {w0 w' : World} {base gb cb n : Nat} {v v' : Value} {nb : Option Nat} {xs : List Value} (h : Away w0 base v n nb) (ho : w0.ownsRow base 38 1 v n xs) (ha : w'.ownsRow base 38 1 v' (n + 1) (xs ++ [.slice (some ⟨gb, 0, none⟩) 64 cb])) (hb : some gb ≠ nb) : Away w' base v' (n + 1) nb := by
  intro ys hy x hx
  have := own_unique ha hy
  subst this
  rw [List.mem_append, List.mem_singleton] at hx
  rcases hx with hx | rfl
  · exact h _ ho x hx
  · intro g c e
    cases e
    exact hb
theorem RowsAt.base {w : World} {b b' : Nat} {v : Value} {l : List (List UInt8)} (h : RowsAt w b v l) (hb : b' ≤ b) : RowsAt w b' v l := by
  obtain ⟨xs, h1, h2⟩ := h
  exact ⟨xs, own_base h1 hb, h2⟩
theorem Away.base {w : World} {b b' : Nat} {v : Value} {l : List (List UInt8)} {nb : Option Nat} (h : Away w b v l.length nb) (hr : RowsAt w b v l) (hb : b' ≤ b) : Away w b' v l.length nb := by
  intro ys ho
  obtain ⟨xs, hx, -⟩ := hr
  have := own_unique (own_base hx hb) ho
  subst this
  exact h _ hx
/-- bytes are put behind an own row in one block; the rows lie in others. -/
theorem rows_grow {w w' : World} {base z n g : Nat} {v v7 : Value} {l : List (List UInt8)} {bs : List Value} (h : RowsAt w base v l) (hA : Away w base v l.length v7.ownBlock) (ho : w.ownsRow z 5 1 v7 n bs) (hg : w.grownBy w' v7.ownBlock) (hi : v7.ownBlock = some g ∨ g = w.heap.size) :
    RowsAt w' base v l ∧ Away w' base v l.length (some g) := by
  obtain ⟨xs, hx, he⟩ := h
  have hc : Chg v7.ownBlock.toList w w' := Chg.own hg (fun g hg _ => by simp [hg])
  have hT : Av w v7.ownBlock.toList [38] := by
    intro x hx cs t fr hh ht
    have hx' : v7.ownBlock = some x := by simpa using hx
    obtain ⟨-, cur, h5⟩ := own_elem ho hx'
    rw [hh] at h5
    cases h5
    simp at ht
  have hx' := ownsRow_av hx hc hT
  have hmem : ∀ i (hi : i < l.length), ∀ g c, xs[i]? = some (.slice (some ⟨g, 0, none⟩) 64 c) → g ∉ v7.ownBlock.toList := by
    intro i hi g c hxi hm
    have hm' : v7.ownBlock = some g := by simpa using hm
    exact hA _ hx _ (List.mem_of_getElem? hxi) g c rfl hm'.symm
  refine ⟨⟨xs, hx', fun i hil => ?_⟩, fun ys hy x hxm g' c' e => ?_⟩
  · obtain ⟨g1, c1, h1, h2, h3, h4⟩ := he i hil
    have := hmem i hil g1 c1 h1
    exact ⟨g1, c1, h1, h2.chgT hc this, h3, h4.keep hc this⟩
  · have := own_unique hx' hy
    subst this
    subst e
    obtain ⟨i, hil, hxi⟩ := List.mem_iff_getElem?.1 hxm |>.imp fun i hi => (⟨by
      have h1 := hx.1
      rw [Nat.mul_one] at h1
      rw [← h1]
      exact (List.getElem?_eq_some_iff.1 hi).1, hi⟩ : i < l.length ∧ xs[i]? = _)
    obtain ⟨g1, c1, h1, -, -, cs, h4⟩ := he i hil
    rw [h1] at hxi
    cases hxi
    rcases hi with hi | rfl
    · rw [← hi]
      exact fun e => hmem i hil _ _ h1 (by simp [e.symm])
    · have := heap_lt h4
      intro e
      cases e
      omega
/-- bytes are put behind an own row. -/
theorem wpList_append_u8 {ops : Array Oper} {rest : List Oper} {o : Oper} {a : Act} {w : World} {Q : Exit → Act → World → Prop} (hgd : o.guard = none) (s x : Operand)
    (ho : o.op = .call { callee := .builtin .append, args := #[s, x], argTypes := #[38, 38] }) (base : Nat) (v : Value) (n : Nat) (xs : List UInt8) (hs : a.eval s = v) (hown : w.ownsRow base 5 1 v n (Lib.byteCells xs)) (b c m : Nat) (r : List UInt8) (hm : r.length = m) (hm0 : 0 < m)
    (hx : a.eval x = .slice (some ⟨b, 0, none⟩) m c) {C : Array Value} {fr : Nat × Nat} (hC : w.heap[b]? = some (.cells C 5 fr)) (hCr : C.toList = Lib.byteCells r) (hn : n + m ≤ 1000000) (hbase : base ≤ w.heap.size)
    (h : ∀ g cap w', w'.ownsRow base 5 1 (.slice (some ⟨g, 0, none⟩) (n + m) cap) (n + m) (Lib.byteCells (xs ++ r)) → w.grownBy w' v.ownBlock → (v.ownBlock = some g ∨ g = w.heap.size) → wpList Tryz.prog ops Q rest (a.put o.dst (.slice (some ⟨g, 0, none⟩) (n + m) cap)) w') : wpList Tryz.prog ops Q (o :: rest) a w := by
  obtain ⟨i, hi0, hz, hz1, hz2⟩ := info_parts inf5c
  refine wpList_append_lies w hgd s x 38 ho base 5 i _ 1 1 ty23 hi0 hz hz1 hz2 rfl (by decide) v n _ hs hown ⟨b, 0, none⟩ m c (Lib.byteCells r) hx (by rw [byteCells_length, hm, Nat.mul_one]) ?_ ?_ hm0 (by unfold maxLen; omega) (by omega) hbase _ rfl ?_
  · rw [← hCr]; exact World.news_of_block hC
  · intro u hu
    simp only [Lib.byteCells, List.mem_map] at hu
    obtain ⟨x, _, rfl⟩ := hu
    rfl
  · intro g cap w' h2 h3 h4 _
    exact h g cap w' (by rw [byteCells_app]; exact h2) h3 h4
set_option maxRecDepth 100000 in
set_option maxHeartbeats 4000000 in
theorem bencode_one (w : World) {lo e num k : Nat} {v : Value} {l : List (Int × List UInt8)} (h : TxOne w lo v k l) (hn0 : 1 ≤ num) (hn1 : num ≤ 1099511627776) (hk0 : 1 ≤ k) (hk1 : k ≤ 1099511627776) (he : e < 4294967296) (hl0 : 0 < l.length) (hl : l.length ≤ 16) (hr : Rise l) (hk : ∀ x ∈ l, 0 ≤ x.1 ∧ x.1 < 258) :
    Calls Tryz.prog 89 #[.agg #[.int .i64 num, v], .int .i64 e] w fun r w' => ∃ v', r = .returned (.tuple #[v', .int .i64 0]) ∧ Chg [] w w' ∧ RowsAt w' w.heap.size v' (batL e num k l) := by
  have k0 : Chg [] w (w.alloc (.cells #[.int .i64 num, v] 94)) := Chg.alloc w _
  have K0 := heap_new w (.cells #[.int .i64 num, v] 94)
  have h1 := h.keep k0
  obtain ⟨g, c, pb, cb, rfl, hc1, -, -, c0, c1, hcb, hp⟩ := h1.open_
  have b0 : (w.alloc (.cells #[.int .i64 num, .slice (some ⟨g, 0, none⟩) 1 c] 94)).cell? ⟨w.heap.size, 0, none⟩ = some (.int .i64 num) := cell_is K0 0 rfl
  have b1 : (w.alloc (.cells #[.int .i64 num, .slice (some ⟨g, 0, none⟩) 1 c] 94)).cell? ⟨w.heap.size, 1, none⟩ = some (.slice (some ⟨g, 0, none⟩) 1 c) := cell_is K0 1 rfl
  have e0 : decide ((e : Int) < 0) = false := decide_eq_false (by omega)
  have e1 : decide (4294967295 < (e : Int)) = false := decide_eq_false (by omega)
  have HO := Lib.hid (bcheck_one _ h1 (num := num) (by omega) (by omega) (by omega) (by omega) hl0 hl hr hk)
  have HP := Lib.hid hp
  have HK := Lib.hid hk
  have HL := Lib.hid (And.intro hl0 hl)
  have HE := Lib.hid he
  have HN := Lib.hid hn1
  have HC := Lib.hid hk1
  have H64 := Lib.hid (show k < 18446744073709551616 by omega)
  have ku : IntKind.u64.wrap (k : Int) = k := by rw [IntKind.wrap_u64]; omega
  have hz0 : w.heap.size ≤ (w.alloc (.cells #[.int .i64 num, .slice (some ⟨g, 0, none⟩) 1 c] 94)).heap.size := k0.size
  clear h h1 hp hr hk hl0 hl he hn0 hn1 hk0 hk1
  go_enter Tryz.func89, Tryz.ntmps89
  go_wp2_with fail
  generalize w.alloc (.cells #[.int .i64 num, .slice (some ⟨g, 0, none⟩) 1 c] 94) = w1 at *
  generalize hz : w.heap.size = z at *
  refine HO.out.mono ?_
  rintro e w2 ⟨rfl, k2⟩
  have b02 := k2.cell b0 (by simp)
  have b12 := k2.cell b1 (by simp)
  have c02 := k2.cell c0 (by simp)
  have c12 := k2.cell c1 (by simp)
  have k02 := k0.then k2
  have HP2 := Lib.hid (HP.out.keep0 k2)
  have hz2 : z ≤ w2.heap.size := hz ▸ k02.size
  clear HO HP b0 b1 c0 c1 k0 k2 K0
  go_upto_region 4 with fail
  have kD0 : Chg [] w2 w2.drew := (Chg.refl [] w2).drew
  have b12d : w2.drew.cell? ⟨z, 1, none⟩ = some (.slice (some ⟨g, 0, none⟩) 1 c) := b12
  have hS : ∀ wx, Chg [] w2 wx → wx.cell? ⟨z, 1, none⟩ = some (.slice (some ⟨g, 0, none⟩) 1 c) := fun wx kx => kx.cell b12 (by simp)
  go_cut [7] from 8 (fun v wx => Chg [] w2 wx ∧ wx.ownsRow w2.heap.size 5 1 v 9 (Lib.byteCells (leB k 8 ++ [1])))
  case first =>
    go_region_held3 (fun wx => wx.cell? ⟨z, 1, none⟩ = some (.slice (some ⟨g, 0, none⟩) 1 c))
      (first | (with_reducible exact hS _ kD0) | (with_reducible exact hS _ kB1) | (with_reducible exact hS _ (kD0.then_alloc _)) | (with_reducible exact hS _ (kB1.then_alloc _)) | (with_reducible exact hS _ (Chg.alloc w2 _)) | (with_reducible exact hS _ (Chg.alloc w2 _).drew) | (with_reducible exact hS _ kF))
      (first
        | (go_at_call 95; refine (put64_own _ k H64.out (base := w2.heap.size) (by first | exact kD0.size | exact (kD0.then_alloc _).size | exact ((Chg.alloc (S := []) w2 _).drew).size)).mono ?_; rintro e wB ⟨gB, rfl, kB, oB⟩; have kB1 : Chg [] w2 wB := (by first | with_reducible exact kD0.then kB | with_reducible exact ((Chg.alloc w2 _).drew).then kB | with_reducible exact (kD0.then_alloc _).then kB))
        | (refine step_append_u8 rfl (.tmp 38) (.tmp 43) rfl w2.heap.size _ 8 _ rfl (ownsRow_chg oB (Chg.alloc (S := []) wB _)) wB.heap.size 1 1 rfl (cell_is (heap_new wB _) 0 rfl) (by decide) (kB1.then_alloc _).size ?_; intro g5 cp5 w5 o5 k5; have kF : Chg [] w2 w5 := Chg.of_below (((kB1.then_alloc _).below (Nat.le_refl _) (by simp)).trans k5))
        | (refine step_append_u8 rfl (.tmp 38) (.tmp 43) rfl w2.heap.size _ 8 _ rfl oB w2.heap.size 1 1 rfl (kB.cell (cell_is (heap_new w2 _) 0 rfl) (by simp)) (by decide) kB1.size ?_; intro g5 cp5 w5 o5 k5; have kF : Chg [] w2 w5 := Chg.of_below ((kB1.below (Nat.le_refl _) (by simp)).trans k5)))
    all_goals
      go_wp2_with fail
      go_meet
      exact ⟨kF, o5⟩
  case rest =>
    obtain ⟨kw, oz⟩ := hcut
    obtain ⟨p7, c7, rfl, -⟩ := own_form oz
    have b0w := kw.cell b02 (by simp)
    have b1w := kw.cell b12 (by simp)
    have c0w := kw.cell c02 (by simp)
    have c1w := kw.cell c12 (by simp)
    have HPw := Lib.hid (HP2.out.keep0 kw)
    have HOz := Lib.hid oz
    have hzw : w2.heap.size ≤ wc.heap.size := kw.size
    clear oz hS kD0 b12d
    go_wp2_with fail
    go_loopw [4, 7, 8, 10, 12, 13, 14, 15, 49] (fun v4 v7 v8 _ _ _ _ _ i wr => (i = .int .i64 0 ∧ wc = wr ∧ v4 = .slice none 0 0 ∧ v7 = .slice p7 9 c7 ∧ v8 = .int .i64 k) ∨ (i = .int .i64 1 ∧ Chg [] w2 wr ∧ RowsAt wr w2.heap.size v4 (datL e num l) ∧ Away wr w2.heap.size v4 (datL e num l).length v7.ownBlock ∧ wr.ownsRow w2.heap.size 5 1 v7 11 (Lib.byteCells (leB k 8 ++ [1, 0, 0])))) (fun _ _ _ _ _ _ _ _ i _ => 1 - (intOf i).toNat)
    case atStart => exact Or.inl ⟨rfl, rfl, rfl, rfl, rfl⟩
    case round =>
      rcases hrel with ⟨rfl, rfl, rfl, rfl, rfl⟩ | ⟨rfl, kr, hv4, hva, hv7⟩
      · have ka : Chg [] wc (wc.alloc (.cells #[.int .i64 k, .slice pb l.length cb] 128)) := Chg.alloc wc _
        have A0 := heap_new wc (.cells #[.int .i64 k, .slice pb l.length cb] 128)
        go_wp2_with fail
        have a0 : (wc.alloc (.cells #[.int .i64 k, .slice pb l.length cb] 128)).cell? ⟨wc.heap.size, 0, none⟩ = some (.int .i64 k) := cell_is A0 0 rfl
        have b0a := ka.cell b0w (by simp)
        have HPa := Lib.hid (HPw.out.keep0 ka)
        have HOa := Lib.hid (ownsRow_chg HOz.out ka)
        have hza : w2.heap.size ≤ (wc.alloc (.cells #[.int .i64 k, .slice pb l.length cb] 128)).heap.size := Nat.le_trans hzw ka.size
        have kwa := kw.then ka
        generalize wc.alloc (.cells #[.int .i64 k, .slice pb l.length cb] 128) = w4 at *
        generalize wc.heap.size = z4 at *
        clear A0
        go_loopw [4, 12, 13, 14, 56] (fun v _ _ _ i wy => ∃ j : Nat, j ≤ l.length ∧ i = .int .i64 j ∧ Chg [] w4 wy ∧ RowsAt wy w4.heap.size v (datL e num (l.take j)) ∧ Away wy w4.heap.size v (datL e num (l.take j)).length (Value.slice p7 9 c7).ownBlock) (fun _ _ _ _ i _ => l.length - (intOf i).toNat)
        case atStart => exact ⟨0, by omega, rfl, Chg.refl _ _, RowsAt.nil _ _, Away.nil _ _ _⟩
        case round =>
          obtain ⟨j, hj, rfl, ky, hrow, haw⟩ := hrel
          by_cases hlt : j < l.length
          · obtain ⟨gp, cap, gd, cd, hpv, hcap, d0, d1, hbd, h40, hbt⟩ := (HPa.out.keep0 ky).get j hlt
            injection hpv with e1 e2 e3
            subst e1 e3
            obtain ⟨hx0, hx1⟩ := HK.out _ (List.getElem_mem hlt)
            have HTk := Lib.hid (show datL e num (l.take (j + 1)) = datL e num (l.take j) ++ [encF 1 e num (l[j]).1.toNat (l[j]).2] by unfold datL; rw [List.take_succ_eq_append_getElem hlt, List.map_append]; rfl)
            have hxe : (l[j]).1 = (((l[j]).1.toNat : Nat) : Int) := by omega
            have hx2 : (l[j]).1.toNat ≤ 1048576 := by omega
            have H40 := Lib.hid h40
            have Hbd := Lib.hid hbd
            have HR := Lib.hid hrow
            have HAw := Lib.hid haw
            have HO9 := Lib.hid (ownsRow_chg HOa.out ky)
            have hl16 : l.length ≤ 16 := HL.out.2
            rw [hxe] at d0
            have hdl : (datL e num (l.take j)).length = j := by rw [datL_length, List.length_take]; omega
            clear hbd h40 hrow hx0 hx1 hxe hbt haw
            generalize (l[j]).1.toNat = x at *
            generalize (l[j]).2 = q at *
            have b0y := ky.cell b0a (by simp)
            have kl : Chg [] wr (wr.alloc (.cells #[.int .i64 x, .slice (some ⟨gd, 0, none⟩) 40 cd] 41)) := Chg.alloc wr _
            have L0 := heap_new wr (.cells #[.int .i64 x, .slice (some ⟨gd, 0, none⟩) 40 cd] 41)
            have l0 : (wr.alloc (.cells #[.int .i64 x, .slice (some ⟨gd, 0, none⟩) 40 cd] 41)).cell? ⟨wr.heap.size, 0, none⟩ = some (.int .i64 x) := cell_is L0 0 rfl
            have l1 : (wr.alloc (.cells #[.int .i64 x, .slice (some ⟨gd, 0, none⟩) 40 cd] 41)).cell? ⟨wr.heap.size, 1, none⟩ = some (.slice (some ⟨gd, 0, none⟩) 40 cd) := cell_is L0 1 rfl
            have b0l := kl.cell b0y (by simp)
            go_wp2_with fail
            generalize wr.alloc (.cells #[.int .i64 x, .slice (some ⟨gd, 0, none⟩) 40 cd] 41) = wl at *
            generalize wr.heap.size = zl at *
            clear L0
            go_wp2_with fail
            refine (fencode_any wl (kind := 1) (by decide) (by decide) HE.out HN.out hx2 H40.out (by decide) (Hbd.out.chg kl)).mono ?_
            rintro r w5 ⟨g5, c5, rfl, k5, hg5, b5, t5⟩
            have k4y : Chg [] w4 w5 := (ky.then kl).then k5
            have hz5 : w4.heap.size ≤ w5.heap.size := k4y.size
            obtain ⟨xs, ho5, hx5⟩ := HR.out.keep0 (kl.then k5)
            rw [hdl] at ho5
            have hA5 := HAw.out.keep HR.out (kl.then k5) (Av.nil _ _)
            rw [hdl] at hA5
            have HA5 := Lib.hid hA5
            have HG5 := Lib.hid (show some g5 ≠ (Value.slice p7 9 c7).ownBlock from fun e5 => by
              obtain ⟨-, cs5, h5⟩ := own_elem (ownsRow_chg HO9.out kl) e5.symm
              have := heap_lt h5
              omega)
            have HO5 := Lib.hid ho5
            have HX5 := Lib.hid hx5
            have B5 := Lib.hid b5
            have T5 := Lib.hid t5
            have E5 := Lib.hid (encF_length 1 e num x q (by rw [H40.out]; decide))
            clear ho5 hx5 b5 t5 HR hA5 HAw HO9
            go_wp2_with (at_builtin; refine wpList_append_lit rfl (.tmp 72) (.tmp 74) 62 38 rfl ty132 inf23 rfl (by decide) w4.heap.size w5 [.slice (some ⟨g5, 0, none⟩) 64 c5] 1 rfl _ j xs rfl HO5.out (by have := HL.out.2; omega) (by decide) hz5 (k := 0) rfl (by simp [Value.oneCell']) rfl 1 rfl ?_; intro v' w6 hap)
            have hfin := RowsAt.app HX5.out hdl HO5.out hap B5.out E5.out T5.out
            have hfa := Away.app HA5.out HO5.out hap.1 HG5.out
            have hdl2 : (datL e num (l.take (j + 1))).length = j + 1 := by rw [HTk.out, List.length_append, hdl]; rfl
            rw [← HTk.out] at hfin
            rw [← hdl2] at hfa
            have k6 : Chg [] w4 w6 := Chg.of_below (k4y.below0.trans hap.2.1)
            go_roundw
            case rel => exact ⟨j + 1, by omega, by go_num, k6, hfin, hfa⟩
            case measure => simp [intOf]; omega
          · obtain rfl : j = l.length := by omega
            rw [List.take_length] at hrow haw
            have HRy := Lib.hid hrow
            have HAy := Lib.hid haw
            have a0y := ky.cell a0 (by simp)
            have hzy := Nat.le_trans hza ky.size
            have kwy := kwa.then ky
            have HOy := Lib.hid (ownsRow_chg HOa.out ky)
            clear hrow haw
            have kt : Chg [] wr (wr.alloc (.cells #[.int .u8 0, .int .u8 0] 5)) := Chg.alloc wr _
            go_wp2_with (at_builtin; refine wpList_append_u8 rfl (.tmp 83) (.tmp 89) rfl w2.heap.size _ 9 _ rfl (ownsRow_chg HOy.out kt) wr.heap.size 2 2 [0, 0] rfl (by decide) rfl (heap_new wr _) rfl (by decide) (Nat.le_trans hzy kt.size) ?_; intro g6 c6 w6 o6 k6 i6)
            obtain ⟨hr6, ha6⟩ := rows_grow (HRy.out.keep0 kt) (HAy.out.keep HRy.out kt (Av.nil _ _)) (ownsRow_chg HOy.out kt) k6 i6
            have kf : Chg [] w2 w6 := Chg.of_below ((kwy.then kt).below0.trans (below_grown (ownsRow_chg HOy.out kt) k6 (Nat.le_trans hzy kt.size)))
            go_roundw
            case rel => exact Or.inr ⟨rfl, kf, hr6.base hza, ha6.base hr6 hza, o6⟩
            case measure => decide
      · obtain ⟨p8, c8, rfl, -⟩ := own_form hv7
        obtain ⟨xs4, ho4, hx4⟩ := hv4
        obtain ⟨p4, c4, rfl, hc4⟩ := own_form ho4
        have HR := Lib.hid (show RowsAt wr w2.heap.size (.slice p4 (datL e num l).length c4) (datL e num l) from ⟨xs4, ho4, hx4⟩)
        have HAw := Lib.hid hva
        have HO7 := Lib.hid hv7
        have b0r := kr.cell b02 (by simp)
        have b1r := kr.cell b12 (by simp)
        have c0r := kr.cell c02 (by simp)
        have c1r := kr.cell c12 (by simp)
        have hzr := kr.size
        have hu8 : IntKind.u8.wrap (l.length : Int) = l.length := by have := HL.out.2; rw [IntKind.wrap_u8]; omega
        clear hva hv7 ho4 hx4
        go_wp2_with fail
        go_loopw [7, 17, 95] (fun v7 _ i wx => (i = .int .i64 0 ∧ wr = wx ∧ v7 = .slice p8 11 c8) ∨ (i = .int .i64 1 ∧ Chg [] w2 wx ∧ RowsAt wx w2.heap.size (.slice p4 (datL e num l).length c4) (datL e num l) ∧ wx.ownsRow w2.heap.size 5 1 v7 12 (Lib.byteCells (bodL k l.length)))) (fun _ _ i _ => 1 - (intOf i).toNat)
        case atStart => exact Or.inl ⟨rfl, rfl, rfl⟩
        case round =>
          rename World => wz
          rcases hrel with ⟨rfl, rfl, rfl⟩ | ⟨rfl, kz, hv4, hv7⟩
          · have ka : Chg [] wr (wr.alloc (.cells #[.int .i64 k, .slice pb l.length cb] 128)) := Chg.alloc wr _
            have A0 := heap_new wr (.cells #[.int .i64 k, .slice pb l.length cb] 128)
            have L0 := (two_new wr (.cells #[.int .i64 k, .slice pb l.length cb] 128) (.cells #[.int .u8 l.length] 5)).2
            have kt := ka.then_alloc (.cells #[.int .u8 l.length] 5)
            have HLn := Lib.hid (show (#[Value.int .u8 l.length]).toList = Lib.byteCells [UInt8.ofNat l.length] by
              have e1 : (UInt8.ofNat l.length).toNat = l.length := by have := HL.out.2; simp; omega
              simp only [Lib.byteCells, List.map_cons, List.map_nil, e1])
            have hBd := Lib.hid (show leB k 8 ++ [1, 0, 0] ++ [UInt8.ofNat l.length] = bodL k l.length by simp [bodL])
            go_wp2_with (at_builtin; refine wpList_append_u8 rfl (.tmp 99) (.tmp 104) rfl w2.heap.size _ 11 _ rfl (ownsRow_chg HO7.out kt) (wr.heap.size + 1) 1 1 [UInt8.ofNat l.length] rfl (by decide) rfl L0 HLn.out (by decide) (Nat.le_trans hzr kt.size) ?_; intro g6 c6 w6 o6 k6 i6)
            obtain ⟨hr6, ha6⟩ := rows_grow (HR.out.keep0 kt) (HAw.out.keep HR.out kt (Av.nil _ _)) (ownsRow_chg HO7.out kt) k6 i6
            rw [hBd.out] at o6
            have kf : Chg [] w2 w6 := Chg.of_below ((kr.then kt).below0.trans (below_grown (ownsRow_chg HO7.out kt) k6 (Nat.le_trans hzr kt.size)))
            go_roundw
            case rel => exact Or.inr ⟨rfl, kf, hr6, o6⟩
            case measure => decide
          · obtain ⟨p9, c9, rfl, -⟩ := own_form hv7
            have b0z := kz.cell b02 (by simp)
            have HRz := Lib.hid hv4
            have H9 := Lib.hid (Bs.own hv7)
            have hbl : (bodL k l.length).length = 12 := by simp [bodL, leB_length]
            have HLz := Lib.hid hbl
            have hdl : (datL e num l).length = l.length := datL_length _ _ _
            clear hv7 hbl
            go_wp2_with fail
            refine (fencode_any wz (kind := 2) (lba := l.length) (by decide) (by decide) HE.out HN.out (by have := HL.out.2; omega) HLz.out (by decide) H9.out).mono ?_
            rintro r w5 ⟨g5, c5, rfl, k5, hg5, b5, t5⟩
            have kz5 := kz.then k5
            obtain ⟨xs, ho5, hx5⟩ := HRz.out.keep0 k5
            rw [hdl] at ho5
            have HO5 := Lib.hid ho5
            have HX5 := Lib.hid hx5
            have B5 := Lib.hid b5
            have T5 := Lib.hid t5
            have E5 := Lib.hid (encF_length 2 e num l.length (bodL k l.length) (by rw [HLz.out]; decide))
            clear ho5 hx5 b5 t5 hv4
            go_wp2_with (at_builtin; refine wpList_append_lit rfl (.tmp 118) (.tmp 120) 62 38 rfl ty132 inf23 rfl (by decide) w2.heap.size w5 [.slice (some ⟨g5, 0, none⟩) 64 c5] 1 rfl _ l.length xs rfl HO5.out (by have := HL.out.2; omega) (by decide) kz5.size (k := 0) rfl (by simp [Value.oneCell']) rfl 1 rfl ?_; intro v' w6 hap)
            have hfin := RowsAt.app HX5.out hdl HO5.out hap B5.out E5.out T5.out
            have k6 : Chg [] w w6 := k02.then (Chg.of_below (kz5.below0.trans hap.2.1))
            have HF := Lib.hid (show RowsAt w6 z v' (batL e num k l) from hfin.base hz2)
            clear hfin hap
            go_wp2_with fail
            go_ret2
            exact ⟨_, rfl, k6, by rw [hz]; exact HF.out⟩
end Go.Proofs.YtnelakpdmjfolaaGreat
namespace Go.Proofs.YtnelakpdmjfolaaGreat
open Go.RowKit Go.Lib

section
variable {base : Nat} {d : Ids} {p : Par} {F : World → Prop}
set_option maxRecDepth 100000 in
theorem geom_hdr (w : World) {N A c : Nat} (h : ∃ ops, w.heap[N]? = some (.cells #[.int .i64 8, .int .i64 96, .slice (some ⟨A, 0, none⟩) 8 c, .int .i64 ops, .int .i64 0, .bool false, .int .i64 0, .bool false] 60 (0, 0))) : Calls Tryz.prog 24 #[.pointer (some ⟨N, 0, none⟩)] w fun e w' => e = .returned (.agg #[.int .i64 8, .int .i64 96]) ∧ Chg [] w w' := by
  obtain ⟨ops, h⟩ := h
  have hgone : ∀ w1 : World, w1.heap[N]? = some (.cells #[.int .i64 8, .int .i64 96, .slice (some ⟨A, 0, none⟩) 8 c, .int .i64 ops, .int .i64 0, .bool false, .int .i64 0, .bool false] 60 (0, 0)) → Calls Tryz.prog 52 #[.pointer (some ⟨N, 0, none⟩)] w1 fun e w' => e = .returned (.bool false) ∧ w1 = w' := by
    intro w1 h1
    have e2 : w1.cell? ⟨N, 2, none⟩ = some (.slice (some ⟨A, 0, none⟩) 8 c) := cell_is h1 2 rfl
    clear h h1
    go_enter Tryz.func52, Tryz.ntmps52
    go_wp2_with fail
    go_ret
    exact ⟨rfl, rfl⟩
  have HG := Lib.hid hgone
  clear hgone
  go_enter Tryz.func24, Tryz.ntmps24
  go_wp2_with fail
  have g0 := heap_new w (.cells #[.int .i64 0, .int .i64 0] 24)
  have hc : Chg [] w (w.alloc (.cells #[.int .i64 0, .int .i64 0] 24)) := Chg.alloc _ _
  have h2 := hc.heap h (by simp)
  have hN := heap_lt h
  generalize w.alloc (.cells #[.int .i64 0, .int .i64 0] 24) = w1 at *
  refine (HG.out w1 h2).mono ?_
  rintro e w2 ⟨rfl, rfl⟩
  have e0 : w1.cell? ⟨N, 0, none⟩ = some (.int .i64 8) := cell_is h2 0 rfl
  have e1 : w1.cell? ⟨N, 1, none⟩ = some (.int .i64 96) := cell_is h2 1 rfl
  have c0 := cell_is g0 0 rfl
  have c1 := cell_is g0 1 rfl
  have f0 := unfrozen g0 0
  have f1 := unfrozen g0 1
  clear h h2 g0
  go_wp2_with fail
  refine bodyPost_ret (v := .agg #[.int .i64 8, .int .i64 96]) (by simp [results, Tryz.results24, go_sem, c0, c1]) rfl ?_
  exact ⟨rfl, (hc.new_set (by omega) _ _).new_set (by omega) _ _⟩
end
end Go.Proofs.YtnelakpdmjfolaaGreat
namespace Go.Proofs.YtnelakpdmjfolaaGreat
open Go.RowKit Go.Lib

/-- block P is a store on the device N: where its log stands, how many batches it has. -/
def StoreG (w : World) (P N S M : Nat) (pos num : Nat) : Prop :=
  w.heap[P]? = some (.cells #[.pointer (some ⟨N, 0, none⟩), .int .i64 0, .int .i64 3, .int .i64 6, .int .i64 7, .pointer (some ⟨M, 0, none⟩), .pointer (some ⟨S, 0, none⟩), .int .i64 pos, .int .i64 num, .bool false] 72 (0, 0))
theorem RowsAt.get {w : World} {base : Nat} {v : Value} {l : List (List UInt8)} (h : RowsAt w base v l) (k : Nat) (hk : k < l.length) : ∃ g cap gd cd, v = .slice (some ⟨g, 0, none⟩) l.length cap ∧ l.length ≤ cap ∧
    w.cell? ⟨g, k, none⟩ = some (.slice (some ⟨gd, 0, none⟩) 64 cd) ∧ Bs w (some ⟨gd, 0, none⟩) l[k] ∧ l[k].length = 64 ∧ Bt w gd := by
  obtain ⟨xs, ho, hx⟩ := h
  obtain ⟨gd, cd, h1, h2, h3, h4⟩ := hx k hk
  rcases ho.2 with ⟨_, e⟩ | ⟨g, cap, cur, rfl, hA, hg, hc1, hc2, hc3, ht⟩
  · omega
  · refine ⟨g, cap, gd, cd, rfl, hc1, cell_is hg _ ?_, h2, h3, h4⟩
    rw [← ht, List.getElem?_take_of_lt (by omega), Array.getElem?_toList] at h1
    exact h1
theorem upF_self {α : Type} (f : Nat → α) (j : Nat) : upF f j (f j) = f := by
  funext k
  unfold upF
  split
  · rename_i h; rw [h]
  · rfl
theorem upF_twice {α : Type} (f : Nat → α) (j : Nat) (x y : α) : upF (upF f j x) j y = upF f j y := by
  funext k
  unfold upF
  split <;> rfl
theorem upF_same {α : Type} (f : Nat → α) (j : Nat) (x : α) : upF f j x j = x := by simp [upF]
theorem wrap64_id (x : Int) (h0 : 0 ≤ x) (h1 : x < 4611686018427387904) : wrap64 x = x := by unfold wrap64; omega
theorem pos_wrap (pos n m : Nat) (h : n = m + 1) (hp : pos + n < 1000) : wrap64 ((pos : Int) + (n : Nat)) = ((pos + m + 1 : Nat) : Int) := by
  rw [wrap64_id _ (by omega) (by omega)]
  omega
/-- where the writing of a batch stands: j blocks are written. -/
structure Wl (w wz : World) (base N A c : Nat) (ops : Int) (Z : List Nat) (vs : Nat → Value) (gs : Nat → Nat) (zs : Nat → List (List UInt8)) (z6 : Nat) (P S M pos num lo : Nat) (v : Value) (bl : List (List UInt8)) (j : Nat) : Prop where
  dev : ∃ v6, DevG wz base N A c (ops + j) Z (upF vs 6 v6) gs (upF zs 6 (zs 6 ++ bl.take j)) ∧ (∀ g, v6.ownBlock = some g → (vs 6).ownBlock = some g ∨ w.heap.size ≤ g) ∧ (∀ g, v6.ownBlock = some g → v.ownBlock ≠ some g)
  rows : RowsAt wz lo v bl
  store : StoreG wz P N S M pos num
  chg : Chg (N :: z6 :: (vs 6).ownBlock.toList) w wz
/-- one block more is written. -/
theorem Wl.step {w wz wy : World} {base N A c : Nat} {ops : Int} {Z : List Nat} {vs : Nat → Value} {gs : Nat → Nat} {zs : Nat → List (List UInt8)} {P S M pos num lo : Nat} {v : Value} {bl : List (List UInt8)} {j : Nat} (h6 : 6 < Z.length)
    (hj : j < bl.length) (hrows : RowsAt wz lo v bl) (hstore : StoreG wz P N S M pos num) (hchg : Chg (N :: Z[6] :: (vs 6).ownBlock.toList) w wz) {v6 v' : Value} (hd : DevG wz base N A c (ops + j) Z (upF vs 6 v6) gs (upF zs 6 (zs 6 ++ bl.take j))) (hn1 : ∀ g, v6.ownBlock = some g → (vs 6).ownBlock = some g ∨ w.heap.size ≤ g) (hn2 : ∀ g, v6.ownBlock = some g → v.ownBlock ≠ some g)
    (kc : Chg (N :: Z[6] :: (upF vs 6 v6 6).ownBlock.toList) wz wy) (hd' : DevG wy base N A c (ops + j + 1) Z (upF (upF vs 6 v6) 6 v') gs (upF (upF zs 6 (zs 6 ++ bl.take j)) 6 (upF zs 6 (zs 6 ++ bl.take j) 6 ++ [bl[j]])))
    (hv' : ∀ g, v'.ownBlock = some g → (upF vs 6 v6 6).ownBlock = some g ∨ wz.heap.size ≤ g) : Wl w wy base N A c ops Z vs gs zs Z[6] P S M pos num lo v bl (j + 1) := by
  rw [upF_same] at kc hv'
  rw [upF_twice, upF_twice, upF_same, List.append_assoc, ← List.take_succ_eq_append_getElem hj, show ops + (j : Int) + 1 = ops + ((j + 1 : Nat) : Int) by omega] at hd'
  have hz := hd.zone 6 h6
  have hr6 := hd.rows 6 (by omega)
  rw [upF_same] at hz hr6
  have hb23 := hr6.block
  have hs := hchg.size
  have rb := hrows.block
  have av : Av wz (N :: Z[6] :: v6.ownBlock.toList) [5, 72] := fun x hx cs t fr hh => by
    rcases List.mem_cons.1 hx with rfl | hx
    · rw [hd.hdr] at hh; cases hh; simp
    · rcases List.mem_cons.1 hx with rfl | hx
      · rw [hz] at hh; cases hh; simp
      · obtain ⟨cs2, h2⟩ := hb23 x (by simpa using hx)
        rw [h2] at hh; cases hh; simp
  refine ⟨⟨v', hd', fun g hg => ?_, fun g hg hvg => ?_⟩, hrows.keep kc (fun x hx cs t fr hh ht => av x hx cs t fr hh (by simp at ht; simp [ht])) (fun g hg hm => ?_), kc.heap hstore (av.ne hstore (by simp)), hchg.trans kc (fun x hx hlt => ?_)⟩
  · rcases hv' g hg with h | h
    · exact hn1 g h
    · exact Or.inr (by omega)
  · rcases hv' g hg with h | h
    · exact hn2 g h hvg
    · obtain ⟨cs, h2⟩ := rb g hvg
      have := heap_lt h2
      omega
  · obtain ⟨cs, h2⟩ := rb g hg
    rcases List.mem_cons.1 hm with rfl | hm
    · rw [hd.hdr] at h2; cases h2
    · rcases List.mem_cons.1 hm with rfl | hm
      · rw [hz] at h2; cases h2
      · exact hn2 g (by simpa using hm) hg
  · rcases List.mem_cons.1 hx with rfl | hx
    · exact List.mem_cons_self
    · rcases List.mem_cons.1 hx with rfl | hx
      · exact List.mem_cons_of_mem _ List.mem_cons_self
      · rcases hn1 x (by simpa using hx) with h | h
        · exact List.mem_cons_of_mem _ (List.mem_cons_of_mem _ (by simpa using h))
        · omega
set_option maxRecDepth 100000 in
set_option maxHeartbeats 8000000 in
theorem swrite_log (w : World) {base lo N A c P S M pos num cnt k : Nat} {ops num0 : Int} {Z : List Nat} {vs : Nat → Value} {gs : Nat → Nat} {zs : Nat → List (List UInt8)} {v : Value} {l : List (Int × List UInt8)}
    (hP : StoreG w P N S M pos num) (HL : ∀ w1, Chg [] w w1 → Calls Tryz.prog 26 #[.pointer (some ⟨S, 0, none⟩)] w1 fun e w' => ∃ u, e = .returned (.tuple #[u, .int .i64 cnt]) ∧ Chg [] w1 w')
    (hD : DevG w base N A c ops Z vs gs zs) (h0 : 0 ≤ ops) (h1 : ops ≤ 900000) (hlow : base ≤ N) (hT : TxOne w lo v k l) (hk0 : 1 ≤ k) (hk1 : k ≤ 1099511627776) (hcnt : cnt < 4294967296) (hnum : num < 1099511627776) (hl0 : 0 < l.length) (hl : l.length ≤ 16) (hr : Rise l) (hk : ∀ x ∈ l, 0 ≤ x.1 ∧ x.1 < 258)
    (hroom : (zs 6).length + l.length + 1 ≤ 96) (hpos : pos + l.length + 1 ≤ 96) (h6 : 6 < Z.length) :
    Calls Tryz.prog 42 #[.pointer (some ⟨P, 0, none⟩), .agg #[.int .i64 num0, v]] w fun e w' => e = .returned (.int .i64 0) ∧ Chg (P :: N :: Z ++ (vs 6).ownBlock.toList) w w' ∧ StoreG w' P N S M (pos + l.length + 1) (num + 1) ∧
      ∃ v6, DevG w' base N A c (ops + l.length + 2) Z (upF vs 6 v6) (goodF gs (upF zs 6 (zs 6 ++ batL cnt (num + 1) k l)) 8) (upF zs 6 (zs 6 ++ batL cnt (num + 1) k l)) := by
  obtain ⟨gt, ct, pbt, cbt, rfl, -, -, -, -, -, -, -⟩ := hT.open_
  have k0 : Chg [] w (w.alloc (.cells #[.int .i64 num0, .slice (some ⟨gt, 0, none⟩) 1 ct] 94)) := Chg.alloc w _
  have K0 := heap_new w (.cells #[.int .i64 num0, .slice (some ⟨gt, 0, none⟩) 1 ct] 94)
  have hP0 := k0.heap hP (by simp)
  have p6 : (w.alloc (.cells #[.int .i64 num0, .slice (some ⟨gt, 0, none⟩) 1 ct] 94)).cell? ⟨P, 6, none⟩ = some (.pointer (some ⟨S, 0, none⟩)) := cell_is hP0 6 rfl
  have HL0 := Lib.hid (HL _ k0)
  have HP := Lib.hid hP
  have HD := Lib.hid hD
  have HT := Lib.hid hT
  clear HL hP hD hT
  go_enter Tryz.func42, Tryz.ntmps42
  go_wp2_with fail
  generalize w.alloc (.cells #[.int .i64 num0, .slice (some ⟨gt, 0, none⟩) 1 ct] 94) = w1 at *
  generalize hz : w.heap.size = K at *
  refine HL0.out.mono ?_
  rintro e w2 ⟨u, rfl, k2'⟩
  have k2 := k0.then k2'
  have K2 := k2'.heap K0 (by simp)
  have hP2 := k2.heap HP.out (by simp)
  have p8 : w2.cell? ⟨P, 8, none⟩ = some (.int .i64 num) := cell_is hP2 8 rfl
  have q0 : w2.cell? ⟨K, 0, none⟩ = some (.int .i64 num0) := cell_is K2 0 rfl
  have z0 : w2.frozen? ⟨K, 0, none⟩ = false := unfrozen K2 0
  have kS : Chg [] w (w2.setCell ⟨K, 0, none⟩ (.int .i64 ((num : Int) + 1))) := k2.new_set (by omega) 0 _
  have K3 : (w2.setCell ⟨K, 0, none⟩ (.int .i64 ((num : Int) + 1))).heap[K]? = some (.cells #[.int .i64 ((num : Int) + 1), .slice (some ⟨gt, 0, none⟩) 1 ct] 94 (0, 0)) := heap_set K2 0 _ rfl
  have a0 : (w2.setCell ⟨K, 0, none⟩ (.int .i64 ((num : Int) + 1))).cell? ⟨K, 0, none⟩ = some (.int .i64 ((num : Int) + 1)) := cell_is K3 0 rfl
  have a1 : (w2.setCell ⟨K, 0, none⟩ (.int .i64 ((num : Int) + 1))).cell? ⟨K, 1, none⟩ = some (.slice (some ⟨gt, 0, none⟩) 1 ct) := cell_is K3 1 rfl
  have hE := bencode_one _ (e := cnt) (num := num + 1) (HT.out.keep kS) (by omega) (by omega) hk0 hk1 hcnt hl0 hl hr hk
  rw [show ((num + 1 : Nat) : Int) = (num : Int) + 1 by omega] at hE
  have HE := Lib.hid hE
  clear hE
  clear p6 HL0 K0 k2' K2 hP2 K3 hk
  go_wp2_with fail
  obtain ⟨lo3, hlo3⟩ : ∃ lo3, lo3 = (w2.setCell ⟨K, 0, none⟩ (.int .i64 ((num : Int) + 1))).heap.size := ⟨_, rfl⟩
  have HLo := Lib.hid (show w.heap.size ≤ lo3 from by rw [hlo3]; exact kS.size)
  rw [← hlo3] at HE
  clear hlo3
  refine HE.out.mono ?_
  rintro e w3 ⟨v', rfl, k3', hrows⟩
  have k3 := kS.then k3'
  have hP3 := k3.heap HP.out (by simp)
  have hD3 := HD.out.keep k3 (Av.nil _ _)
  have hbl : (batL cnt (num + 1) k l).length = l.length + 1 := batL_length _ _ _ _
  have h64 : ∀ x ∈ batL cnt (num + 1) k l, x.length = 64 := fun x hx => by
    obtain ⟨i, hi, rfl⟩ := List.getElem_of_mem hx
    obtain ⟨-, -, -, -, -, -, -, -, h, -⟩ := hrows.get i hi
    exact h
  obtain ⟨gr, cr, gd', cd', hv', hcr, -, -, -, -⟩ := hrows.get 0 (by omega)
  subst hv'
  have HR := Lib.hid hrows
  have HD3 := Lib.hid hD3
  have HP3 := Lib.hid hP3
  have HGm := Lib.hid (geom_hdr w3 (N := N) (A := A) (c := c) ⟨_, hD3.hdr⟩)
  have p0 : w3.cell? ⟨P, 0, none⟩ = some (.pointer (some ⟨N, 0, none⟩)) := cell_is hP3 0 rfl
  have HBL := Lib.hid hbl
  have hsz3 := k3.size
  have hlr : lo3 ≤ gr := by
    obtain ⟨xs, ho, -⟩ := hrows
    exact (own_elem ho rfl).1
  have HV6 := Lib.hid (show ∀ g, (vs 6).ownBlock = some g → g < w.heap.size from fun g hg => by
    obtain ⟨cs, h5⟩ := (HD.out.rows 6 (by omega)).block g hg
    exact heap_lt h5)
  clear HE kS a0 a1 q0 z0 p8 HD HT k2 k3' hD3 hrows hbl hP3
  obtain ⟨bl, hbl'⟩ : ∃ bl, batL cnt (num + 1) k l = bl := ⟨_, rfl⟩
  rw [hbl'] at HR HBL h64
  rw [hbl']
  have HBb := Lib.hid hbl'
  clear hbl'
  go_wp2_with fail
  refine HGm.out.mono ?_
  rintro e w4 ⟨rfl, k4⟩
  have hP4 := k4.heap HP3.out (by simp)
  have HD4 := Lib.hid (HD3.out.keep k4 (Av.nil _ _))
  have HR4 := Lib.hid (HR.out.keep0 k4)
  have hfs := field_size
  have p7 : w4.cell? ⟨P, 7, none⟩ = some (.int .i64 pos) := cell_is hP4 7 rfl
  have p4 : w4.cell? ⟨P, 4, none⟩ = some (.int .i64 7) := cell_is hP4 4 rfl
  have p3 : w4.cell? ⟨P, 3, none⟩ = some (.int .i64 6) := cell_is hP4 3 rfl
  have hpn : IntKind.i64.wrap ((pos : Int) + (bl.length : Nat)) = (pos : Int) + (bl.length : Nat) := by rw [IntKind.wrap_i64]; have := HBL.out; omega
  have hgt : decide (192 < (pos : Int) + (bl.length : Nat)) = false := decide_eq_false (by have := HBL.out; omega)
  have HP4 := Lib.hid hP4
  have kk4 := k3.then k4
  clear hP4 HGm p0 HP3 HD3 HR k4 k3
  go_wp2_with fail
  go_quiet (fail)
  have kd : Chg [] w4 (w4.drewN nq) := (Chg.refl [] w4).drewN nq
  have k5 := kk4.then kd
  have hD5 := HD4.out.keep kd (Av.nil _ _)
  have hR5 := HR4.out.keep0 kd
  have hP5 : StoreG (w4.drewN nq) P N S M pos num := HP4.out
  have hW5 : Wl w (w4.drewN nq) base N A c ops Z vs gs zs Z[6] P S M pos num lo3 (.slice (some ⟨gr, 0, none⟩) bl.length cr) bl 0 := by
    refine ⟨⟨vs 6, ?_, fun g hg => Or.inl hg, fun g hg e => ?_⟩, hR5, hP5, k5.mono (fun x hx _ => by cases hx)⟩
    · rw [upF_self, List.take_zero, List.append_nil, upF_self]
      simpa using hD5
    · have h5 := HV6.out g hg
      have h6 := hlr
      have e' : gr = g := Option.some.inj e
      subst e'
      have := HLo.out
      omega
  have HW5 := Lib.hid hW5
  clear hW5 hR5 hP5 hD5 HD4 HR4 HP4 p7 p4 p3 hpn hgt hfs
  generalize w4.drewN nq = w5 at *
  go_wp2_with fail
  go_loopw [10, 11, 12, 13, 68] (fun _ _ _ _ i wr => ∃ j : Nat, j ≤ bl.length ∧ i = .int .i64 j ∧ Wl w wr base N A c ops Z vs gs zs Z[6] P S M pos num lo3 (.slice (some ⟨gr, 0, none⟩) bl.length cr) bl j) (fun _ _ _ _ i _ => bl.length - (intOf i).toNat)
  case atStart => exact ⟨0, by omega, rfl, HW5.out⟩
  case round =>
    obtain ⟨j, hj, rfl, hWr⟩ := hrel
    rename World => wr
    clear HW5
    by_cases hlt : j < bl.length
    · obtain ⟨⟨v6, hd, hn1, hn2⟩, hrows, hstore, hchg⟩ := hWr
      obtain ⟨gr1, cap1, gd, cd, hv1, -, r0, hbs, h64j, hbt⟩ := hrows.get j hlt
      cases hv1
      have hlti : (j : Int) < bl.length := by omega
      have HBL1 := HBL.out
      have nN : gd ≠ N := by
        obtain ⟨cs, hh⟩ := hbt
        exact heap_ne hh hd.hdr (by simp)
      have kdr : Chg [] wr wr.drew := (Chg.refl [] wr).drew
      have hdd := hd.keep kdr (Av.nil _ _)
      have hA := dappend_any wr.drew (cd := cd) hdd (by omega) (by omega) 6 h6 (by rw [upF_same, List.length_append, List.length_take]; omega) (hbs.chg kdr) h64j (fun g hg => by subst hg; exact nN) hlow
      rw [show ((6 : Nat) : Int) = 6 from rfl] at hA
      have HA := Lib.hid hA
      have kdr' := kdr.mono (T := N :: Z[6] :: (upF vs 6 v6 6).ownBlock.toList) (fun x hx _ => by cases hx)
      have hz6 := hd.zone 6 h6
      have hr6 := hd.rows 6 (by omega)
      have nP : P ∉ N :: Z[6] :: (upF vs 6 v6 6).ownBlock.toList := fun hm => by
        rcases List.mem_cons.1 hm with e | hm
        · exact heap_ne hstore hd.hdr (by simp) e
        · rcases List.mem_cons.1 hm with e | hm
          · exact heap_ne hstore hz6 (by simp) e
          · obtain ⟨cs, hh⟩ := hr6.block P (by simpa using hm)
            rw [hstore] at hh
            cases hh
      have p0 : wr.cell? ⟨P, 0, none⟩ = some (.pointer (some ⟨N, 0, none⟩)) := cell_is hstore 0 rfl
      have p3 : wr.cell? ⟨P, 3, none⟩ = some (.int .i64 6) := cell_is hstore 3 rfl
      have p7 : wr.cell? ⟨P, 7, none⟩ = some (.int .i64 pos) := cell_is hstore 7 rfl
      have hq1 : IntKind.i64.wrap ((pos : Int) + (j : Nat)) = (pos : Int) + (j : Nat) := by rw [IntKind.wrap_i64]; omega
      have hq2 : ((pos : Int) + (j : Nat)).tdiv 96 = 0 := by
        rw [Int.tdiv_eq_ediv_of_nonneg (by omega)]
        omega
      have HW := Lib.hid (fun wy v' kc hd' hv' => Wl.step (wy := wy) (v' := v') h6 hlt hrows hstore hchg hd hn1 hn2 kc hd' hv')
      have HnP := Lib.hid nP
      clear hd hn1 hn2 hrows hstore hchg hbs h64j hbt nN hdd hA hz6 hr6 nP HBL1
      go_wp2_with fail
      go_region_held3 (fun wx => wx.cell? ⟨P, 0, none⟩ = some (.pointer (some ⟨N, 0, none⟩)) ∧ wx.cell? ⟨P, 3, none⟩ = some (.int .i64 6) ∧ wx.cell? ⟨P, 7, none⟩ = some (.int .i64 pos))
        (first
          | (exact ⟨p0, p3, p7⟩)
          | (exact ⟨kc.cell p0 HnP.out, kc.cell p3 HnP.out, kc.cell p7 HnP.out⟩))
        (first
          | (go_at_call 90; refine HA.out.mono ?_; rintro e w6 ⟨v', rfl, kc', dc, hvc⟩; have kc := kdr'.then kc'))
      have hWn := Lib.hid (HW.out _ _ kc dc hvc)
      have hb16 : bl.length ≤ 17 := by have := HBL.out; omega
      clear HW HA HnP kc dc hvc kc' p0 p3 p7
      go_wp2_with fail
      exact ⟨⟨j + 1, by omega, by go_num, hWn.out⟩, by simp [intOf]; omega⟩
    · obtain rfl : j = bl.length := by omega
      obtain ⟨⟨v6, hd, -, -⟩, -, hstore, hchg⟩ := hWr
      rw [List.take_length] at hd
      have HF := Lib.hid (dflush_any wr hd (by omega) (by have := HBL.out; omega))
      have p0 : wr.cell? ⟨P, 0, none⟩ = some (.pointer (some ⟨N, 0, none⟩)) := cell_is hstore 0 rfl
      have nP : P ∉ N :: Z := fun hm => by
        rcases List.mem_cons.1 hm with e | hm
        · exact heap_ne hstore hd.hdr (by simp) e
        · obtain ⟨i, hi, e⟩ := List.getElem_of_mem hm
          exact heap_ne hstore (hd.zone i hi) (by simp) e.symm
      have HS := Lib.hid hstore
      have HnP := Lib.hid nP
      have HCg := Lib.hid hchg
      have Hpb := Lib.hid (show pos + bl.length < 1000 by have := HBL.out; omega)
      have Hop := Lib.hid (show ops + (bl.length : Nat) + 1 = ops + (l.length : Nat) + 2 by have := HBL.out; omega)
      clear hd hstore hchg nP
      go_wp2_with fail
      refine HF.out.mono ?_
      rintro e w6 ⟨rfl, k6, hd6⟩
      have hP6 := k6.heap HS.out HnP.out
      have p7 : w6.cell? ⟨P, 7, none⟩ = some (.int .i64 pos) := cell_is hP6 7 rfl
      have p8 : w6.cell? ⟨P, 8, none⟩ = some (.int .i64 num) := cell_is hP6 8 rfl
      have f7 := unfrozen hP6 7
      have f8 := unfrozen hP6 8
      have HD6 := Lib.hid hd6
      have HP6 := Lib.hid hP6
      clear hd6 hP6 HF HS p0
      go_wp2_with fail
      go_ret
      have hps := pos_wrap pos bl.length l.length HBL.out Hpb.out
      have hop := Hop.out
      rw [hps]
      have hdF := HD6.out
      rw [hop] at hdF
      have kS1 := Chg.set w6 P 7 (.int .i64 ((pos + l.length + 1 : Nat) : Int))
      have hP7 : StoreG (w6.setCell ⟨P, 7, none⟩ (.int .i64 ((pos + l.length + 1 : Nat) : Int))) P N S M (pos + l.length + 1) num := heap_set HP6.out 7 _ rfl
      have kS2 := Chg.set (w6.setCell ⟨P, 7, none⟩ (.int .i64 ((pos + l.length + 1 : Nat) : Int))) P 8 (.int .i64 ((num : Int) + 1))
      rw [HBb.out]
      refine ⟨rfl, ?_, heap_set hP7 8 _ rfl, v6, (hdF.keep kS1 (Av.row HP6.out (by decide))).keep kS2 (Av.row hP7 (by decide))⟩
      have hZ6 : Z[6] ∈ Z := List.getElem_mem h6
      refine (((HCg.out.mono ?_).then (k6.mono ?_)).then_set (fun _ => List.mem_cons_self) 7 _).then_set (fun _ => List.mem_cons_self) 8 _
      · intro x hx _
        simp only [List.mem_cons] at hx
        rcases hx with rfl | rfl | hx
        · simp
        · simp [hZ6]
        · simp [show x ∈ (vs 6).ownBlock.toList from hx]
      · intro x hx _
        simp only [List.mem_cons] at hx
        rcases hx with rfl | hx
        · simp
        · simp [hx]
end Go.Proofs.YtnelakpdmjfolaaGreat
namespace Go.Proofs.YtnelakpdmjfolaaGreat
open Go.RowKit Go.Lib

/-- block S is two slots of the device N: the newer one, its text, how many texts there were. -/
def SlotG (w : World) (S N : Nat) (inn : Int) (tv : Value) (cnt : Nat) : Prop :=
  w.heap[S]? = some (.cells #[.pointer (some ⟨N, 0, none⟩), .int .i64 0, .int .i64 3, .int .i64 6, .int .i64 96, .int .i64 inn, tv, .int .i64 cnt, .bool false] 113 (0, 0))
/-- a text of the slots: none, or bytes. -/
def TextAt (w : World) (tv : Value) : Prop := tv = .slice none 0 0 ∨ ∃ g c m l, tv = .slice (some ⟨g, 0, none⟩) m c ∧ l.length = m ∧ 0 < m ∧ m ≤ 100000 ∧ Bs w (some ⟨g, 0, none⟩) l ∧ Bt w g
theorem TextAt.keep {w w' : World} {U : List Nat} {tv : Value} (h : TextAt w tv) (hc : Chg U w w') (hU : Av w U [5]) : TextAt w' tv := by
  rcases h with rfl | ⟨g, c, m, l, rfl, h1, h2, h3, h4, h5⟩
  · exact Or.inl rfl
  · have hn : g ∉ U := Bt.av h5 hU (by simp)
    exact Or.inr ⟨g, c, m, l, rfl, h1, h2, h3, h4.chgT hc hn, Bt.keep h5 hc hn⟩
/-- what Load hands back. -/
def LoadR (w : World) (cnt : Nat) (e : Ending) (w' : World) : Prop := ∃ u, e = .returned (.tuple #[u, .int .i64 cnt]) ∧ Chg [] w w'
set_option maxRecDepth 100000 in
theorem load_g (w : World) {S N : Nat} {inn : Int} {tv : Value} {cnt : Nat} (h : SlotG w S N inn tv cnt) (ht : TextAt w tv) : Calls Tryz.prog 26 #[.pointer (some ⟨S, 0, none⟩)] w (LoadR w cnt) := by
  rcases ht with rfl | ⟨g, c, m, l, rfl, hl, hm0, hm1, hb, -⟩
  · have c6 : w.cell? ⟨S, 6, none⟩ = some (.slice none 0 0) := cell_is h 6 rfl
    have c7 : w.cell? ⟨S, 7, none⟩ = some (.int .i64 cnt) := cell_is h 7 rfl
    clear h
    go_enter Tryz.func26, Tryz.ntmps26
    go_wp2_with fail
    have c6d : w.drew.cell? ⟨S, 6, none⟩ = some (.slice none 0 0) := c6
    have c7d : w.drew.cell? ⟨S, 7, none⟩ = some (.int .i64 cnt) := c7
    go_region_with (go_at_call 65; refine (clone_nil _).mono ?_; rintro e w1 ⟨rfl, rfl⟩)
    all_goals
      go_wp2_with fail
      go_ret2
      exact ⟨_, rfl, (Chg.refl _ w).drew⟩
  · have c6 : w.cell? ⟨S, 6, none⟩ = some (.slice (some ⟨g, 0, none⟩) m c) := cell_is h 6 rfl
    have c7 : w.cell? ⟨S, 7, none⟩ = some (.int .i64 cnt) := cell_is h 7 rfl
    have HB := Lib.hid hb
    have HL := Lib.hid (And.intro hl (And.intro hm0 hm1))
    clear h hb hl hm0 hm1
    go_enter Tryz.func26, Tryz.ntmps26
    go_wp2_with fail
    have c6d : w.drew.cell? ⟨S, 6, none⟩ = some (.slice (some ⟨g, 0, none⟩) m c) := c6
    have c7d : w.drew.cell? ⟨S, 7, none⟩ = some (.int .i64 cnt) := c7
    go_region_held3 (fun wx => wx.cell? ⟨S, 6, none⟩ = some (.slice (some ⟨g, 0, none⟩) m c) ∧ wx.cell? ⟨S, 7, none⟩ = some (.int .i64 cnt))
      (first | (exact ⟨c6, c7⟩) | (exact ⟨c6d, c7d⟩) | (exact ⟨k1.cell c6d (by simp), k1.cell c7d (by simp)⟩))
      (first
        | (go_at_call 65; refine (clone_bt w.drew HL.out.1 HL.out.2.1 HL.out.2.2 (HB.out.chg (Chg.refl [] w).drew)).mono ?_; rintro e w1 ⟨g', c', rfl, k1, -, -, -⟩))
    all_goals
      go_wp2_with fail
      go_ret2
      exact ⟨_, rfl, (Chg.refl [] w).drew.then k1⟩
theorem dead_g (w : World) {P N S M pos num : Nat} (h : StoreG w P N S M pos num) : Calls Tryz.prog 36 #[.pointer (some ⟨P, 0, none⟩)] w fun e w' => e = .returned (.bool false) ∧ w = w' := by
  have c0 : w.cell? ⟨P, 0, none⟩ = some (.pointer (some ⟨N, 0, none⟩)) := cell_is h 0 rfl
  have c9 : w.cell? ⟨P, 9, none⟩ = some (.bool false) := cell_is h 9 rfl
  clear h
  go_enter Tryz.func36, Tryz.ntmps36
  go_wp2_with fail
  go_ret
  exact ⟨rfl, rfl⟩
/-- all these blocks hold cells of these types. -/
def Tp (w : World) (U ts : List Nat) : Prop := ∀ x ∈ U, ∃ cs t, w.heap[x]? = some (.cells cs t (0, 0)) ∧ t ∈ ts
theorem Tp.av {w : World} {U ts ts' : List Nat} (h : Tp w U ts) (hd : ∀ t ∈ ts, t ∉ ts') : Av w U ts' := fun x hx cs t fr hh => by
  obtain ⟨cs2, t2, h2, h3⟩ := h x hx
  rw [h2] at hh
  cases hh
  exact hd _ h3
theorem Tp.map {w : World} {U ts : List Nat} {r : Nat} {L : List (Int × Value)} (h : Tp w U ts) (hm : MapAt w r L) : r ∉ U := fun hr => by
  obtain ⟨cs2, t2, h2, -⟩ := h r hr
  exact map_cells hm h2 rfl
theorem Mx.keepA {w w' : World} {U : List Nat} {M X rx B rb r : Nat} {s : Gs} (h : Mx w M X rx B rb r s) (hc : Chg U w w') (hU : Av w U [136, 186, 196, 5, 189]) (h1 : rx ∉ U) (h2 : rb ∉ U) (h3 : r ∉ U) : Mx w' M X rx B rb r s :=
  ⟨hc.heap h.mgr (hU.ne h.mgr (by simp)), h.ver.keepA hc (fun x hx cs t fr hh ht => hU x hx cs t fr hh (by simp at ht; rcases ht with rfl | rfl | rfl <;> simp)) h1, ⟨hc.heap h.book.1 (hU.ne h.book.1 (by simp)), h.book.2.keep hc h2⟩, h.map.keep hc h3, h.n1, h.n2, h.n3⟩
/-- .. when its own block alone has changed. -/
theorem Mx.chgM {w w' : World} {M X rx B rb r : Nat} {s s' : Gs} (h : Mx w M X rx B rb r s) (kS : Chg [M] w w') (hm : MgrG w' M X B r s'.qv s'.out s'.num s'.bas s'.last s'.given s'.rd) (e1 : s'.lo = s.lo) (e2 : s'.lastv = s.lastv) (e3 : s'.Lv = s.Lv) (e4 : s'.vs = s.vs) (e5 : s'.bl = s.bl) (e6 : s'.Lb = s.Lb) (e7 : s'.Lr = s.Lr) : Mx w' M X rx B rb r s' := by
  refine ⟨hm, ?_, ?_, ?_, h.n1, h.n2, h.n3⟩
  · rw [e1, e2, e3, e4]
    exact h.ver.keepA kS (Av.row h.mgr (by decide)) (by simpa using map_cells h.ver.m h.mgr)
  · rw [e5, e6]
    exact ⟨kS.heap h.book.1 (by simpa using heap_ne h.book.1 h.mgr (by simp)), h.book.2.keep kS (by simpa using map_cells h.book.2 h.mgr)⟩
  · rw [e7]
    exact h.map.keep kS (by simpa using map_cells h.map h.mgr)
/-- where a store's log, slots and device stand. -/
structure Gd where
  pos : Nat
  num : Nat
  inn : Int
  tv : Value
  cnt : Nat
  dlo : Nat
  ops : Int
  dv : Nat → Value
  gs : Nat → Nat
  zs : Nat → List (List UInt8)
/-- a store with all its parts, none of them below lw. -/
structure Sto (w : World) (lw : Nat) (d : Ids) (s : Gs) (g : Gd) : Prop where
  store : StoreG w d.P d.N d.S d.M g.pos g.num
  slot : SlotG w d.S d.N g.inn g.tv g.cnt
  text : TextAt w g.tv
  dev : DevG w g.dlo d.N d.A d.c g.ops d.Z g.dv g.gs g.zs
  mx : Mx w d.M d.X d.rx d.B d.rb d.r s
  ap : ApL s.Lv
  keys : ∀ p ∈ s.Lv, 0 ≤ p.1 ∧ p.1 < 258
  bnd : lw ≤ d.P ∧ lw ≤ d.N ∧ lw ≤ d.S ∧ lw ≤ d.M ∧ lw ≤ d.X ∧ lw ≤ d.rx ∧ lw ≤ d.B ∧ lw ≤ d.rb ∧ lw ≤ d.r ∧ lw ≤ s.lo ∧ lw ≤ g.dlo
  bndZ : ∀ z ∈ d.Z, lw ≤ z
  slo : s.lo ≤ w.heap.size
  dlo : g.dlo ≤ d.N
theorem Sto.keepA {w w' : World} {U : List Nat} {lw : Nat} {d : Ids} {s : Gs} {g : Gd} (h : Sto w lw d s g) (hc : Chg U w w') (hU : Av w U [72, 113, 60, 61, 64, 38, 5, 136, 186, 196, 189]) (h1 : d.rx ∉ U) (h2 : d.rb ∉ U) (h3 : d.r ∉ U) : Sto w' lw d s g := by
  have sub : ∀ ts : List Nat, (∀ t ∈ ts, t ∈ [72, 113, 60, 61, 64, 38, 5, 136, 186, 196, 189]) → Av w U ts := fun ts hts x hx cs t fr hh ht => hU x hx cs t fr hh (hts t ht)
  exact ⟨hc.heap h.store (hU.ne h.store (by simp)), hc.heap h.slot (hU.ne h.slot (by simp)), h.text.keep hc (sub _ (by decide)), h.dev.keep hc (sub _ (by decide)), h.mx.keepA hc (sub _ (by decide)) h1 h2 h3, h.ap, h.keys, h.bnd, h.bndZ, Nat.le_trans h.slo hc.size, h.dlo⟩
theorem Sto.keep {w w' : World} {lw : Nat} {d : Ids} {s : Gs} {g : Gd} (h : Sto w lw d s g) (hc : Chg [] w w') : Sto w' lw d s g := h.keepA hc (Av.nil _ _) (by simp) (by simp) (by simp)
/-- what of memory changes while a store works: nothing below lw. -/
def Cs (lw : Nat) (w w' : World) : Prop := ∃ U, Chg U w w' ∧ ∀ x ∈ U, x < w.heap.size → lw ≤ x ∧ ∀ cs t fr, w.heap[x]? = some (.cells cs t fr) → t ∈ [72, 136, 149, 186, 196, 60, 64, 38, 3, 189, 113]
theorem Cs.of_chg {lw : Nat} {w w' : World} (h : Chg [] w w') : Cs lw w w' := ⟨[], h, fun x hx => by cases hx⟩
theorem Cs.trans {lw : Nat} {a b c : World} (h : Cs lw a b) (k : Cs lw b c) : Cs lw a c := by
  obtain ⟨S, h1, h2⟩ := h
  obtain ⟨U, k1, k2⟩ := k
  refine ⟨S ++ U, (h1.mono (fun x hx _ => List.mem_append_left _ hx)).trans k1 (fun x hx _ => List.mem_append_right _ hx), fun x hx hlt => ?_⟩
  by_cases hT : x ∈ S
  · exact h2 x hT hlt
  · rcases List.mem_append.1 hx with h | h
    · exact absurd h hT
    · obtain ⟨e1, e2⟩ := k2 x h (Nat.lt_of_lt_of_le hlt h1.size)
      exact ⟨e1, fun cs t fr hh => e2 cs t fr (by rw [h1.block x hlt hT]; exact hh)⟩
theorem Cs.size {lw : Nat} {w w' : World} (h : Cs lw w w') : w.heap.size ≤ w'.heap.size := by obtain ⟨U, h1, -⟩ := h; exact h1.size
theorem Cs.chg0 {lw : Nat} {w0 w w' : World} (h : Chg [] w0 w) (k : Cs lw w w') (hl : w0.heap.size ≤ lw) : Chg [] w0 w' := by
  obtain ⟨U, k1, k2⟩ := k
  exact h.trans k1 (fun x hx hlt => by have := (k2 x hx (Nat.lt_of_lt_of_le hlt h.size)).1; omega)
theorem Cs.heap {lw : Nat} {w w' : World} (h : Cs lw w w') {x : Nat} {cs : Array Value} {t : TypeId} {fr : Nat × Nat} (hh : w.heap[x]? = some (.cells cs t fr)) (ht : t ∉ [72, 136, 149, 186, 196, 60, 64, 38, 3, 189, 113]) : w'.heap[x]? = some (.cells cs t fr) := by
  obtain ⟨U, k1, k2⟩ := h
  exact k1.heap hh (fun hm => ht ((k2 x hm (heap_lt hh)).2 cs t fr hh))
theorem Cs.of_tp {lw : Nat} {w w' : World} {U ts : List Nat} (h : Chg U w w') (ht : Tp w U ts) (hts : ∀ t ∈ ts, t ∈ [72, 136, 149, 186, 196, 60, 64, 38, 3, 189, 113]) (hl : ∀ x ∈ U, lw ≤ x) : Cs lw w w' :=
  ⟨U, h, fun x hx _ => ⟨hl x hx, fun cs t fr hh => by
    obtain ⟨cs2, t2, h2, h3⟩ := ht x hx
    rw [h2] at hh
    cases hh
    exact hts _ h3⟩⟩
end Go.Proofs.YtnelakpdmjfolaaGreat
namespace Go.Proofs.YtnelakpdmjfolaaGreat
open Go.RowKit Go.Lib

theorem Bs.at_ {w : World} {D o : Nat} {l : List UInt8} (h : Bs w (some ⟨D, o, none⟩) l) (j : Nat) (hj : j < l.length) : w.cell? ⟨D, o + j, none⟩ = some (.int .u8 (l[j].toNat)) := by
  rcases h with h | ⟨b', o', e, hb, h⟩
  · rw [h] at hj; simp at hj
  · cases e
    exact h j hj
theorem leB_at (v n j : Nat) (h : j < n) : ((leB v n)[j]'(by rw [leB_length]; exact h)).toNat = v / 256 ^ j % 256 := by
  simp [leB]
theorem pow256_le (j : Nat) (h : j < 8) : 256 ^ j * 256 ≤ 18446744073709551616 := by
  have h1 : 256 ^ j ≤ 256 ^ 7 := Nat.pow_le_pow_right (by decide) (by omega)
  have h2 : (256 : Nat) ^ 7 = 72057594037927936 := by decide
  omega
theorem or_le (v j : Nat) (h : j < 8) : bits .or .u64 ((v : Int) % 256 ^ j) (IntKind.u64.wrap ((v : Int) / 256 ^ j % 256 * 2 ^ (8 * j))) = ((v % 256 ^ (j + 1) : Nat) : Int) := by
  have hp := pow256_le j h
  have hp0 : 0 < 256 ^ j := Nat.pos_of_ne_zero (by simp)
  have e2 : (2 : Int) ^ (8 * j) = ((256 ^ j : Nat) : Int) := by
    rw [Int.pow_mul, Int.natCast_pow]
    rfl
  have e3 : (256 : Int) ^ j = ((256 ^ j : Nat) : Int) := by rw [Int.natCast_pow]; rfl
  have e5 : 256 ^ (j + 1) = 256 ^ j * 256 := Nat.pow_succ 256 j
  have e6 : v % 256 ^ (j + 1) = v % 256 ^ j + 256 ^ j * (v / 256 ^ j % 256) := Nat.mod_pow_succ
  have e7 : 256 ^ j = 2 ^ (8 * j) := by rw [Nat.pow_mul]
  rw [e2, e3]
  have hb : v / 256 ^ j % 256 ≤ 255 := by omega
  have ha : v % 256 ^ j < 256 ^ j := Nat.mod_lt _ hp0
  have hmul : v / 256 ^ j % 256 * 256 ^ j ≤ 255 * 256 ^ j := Nat.mul_le_mul_right _ hb
  have hor := Nat.shiftLeft_add_eq_or_of_lt (b := v % 256 ^ j) (i := 8 * j) (by rw [← e7]; exact ha) (v / 256 ^ j % 256)
  rw [Nat.shiftLeft_eq, ← e7] at hor
  have g1 : ((v : Int) % ((256 ^ j : Nat) : Int)) = ((v % 256 ^ j : Nat) : Int) := rfl
  have g2 : ((v : Int) / ((256 ^ j : Nat) : Int) % 256 * ((256 ^ j : Nat) : Int)) = ((v / 256 ^ j % 256 * 256 ^ j : Nat) : Int) := by
    rw [Int.natCast_mul]
    rfl
  rw [g1, g2]
  generalize 256 ^ j = P at *
  generalize v / P % 256 = b at *
  generalize v % P = a at *
  have hbP : b * P ≤ 255 * P := hmul
  have e8 : IntKind.u64.wrap ((b * P : Nat) : Int) = ((b * P : Nat) : Int) := by
    rw [IntKind.wrap_u64]
    omega
  rw [e8, u64_or_nat _ _ (by omega) (by omega), Nat.or_comm, ← hor, e6]
  congr 1
  rw [Nat.mul_comm]
  omega
set_option maxRecDepth 100000 in
set_option maxHeartbeats 1000000 in
theorem bget_le (w : World) {D o c m n v : Nat} {l : List UInt8} (hB : Bs w (some ⟨D, o, none⟩) l) (hl : l.length = m) (hn : n ≤ 8) (hnm : n ≤ m) (hm : m ≤ 100000) (hpre : l.take n = leB v n) :
    Calls Tryz.prog 107 #[.slice (some ⟨D, o, none⟩) m c, .int .i64 n] w fun e w' => e = .returned (.tuple #[.int .u64 (v % 256 ^ n : Nat), .bool true]) ∧ w = w' := by
  have hc : ∀ j, j < n → w.cell? ⟨D, o + j, none⟩ = some (.int .u8 ((v / 256 ^ j % 256 : Nat) : Int)) := by
    intro j hj
    have hj2 : j < l.length := by omega
    rw [hB.at_ j hj2]
    have e : l[j] = (leB v n)[j]'(by rw [leB_length]; exact hj) := by
      have h1 : (l.take n)[j]'(by simp; omega) = l[j] := by simp
      rw [← h1]
      simp only [hpre]
    rw [e, leB_at v n j hj]
  have HC := Lib.hid hc
  have hlt0 : ¬ (m : Int) < n := by omega
  have hnm1 : (n : Int) ≤ m := by omega
  clear hB hl hpre hc
  go_enter Tryz.func107, Tryz.ntmps107
  go_wp2_with fail
  go_loop [4, 6, 12] (fun a _ i => ∃ j : Nat, j ≤ n ∧ i = .int .i64 j ∧ a = .int .u64 (v % 256 ^ j : Nat)) (fun _ _ i => n - (intOf i).toNat)
  case atStart => exact ⟨0, by omega, rfl, by simp [Nat.mod_one]⟩
  case round =>
    obtain ⟨j, hj, rfl, rfl⟩ := hrel
    by_cases hlt : j < n
    · have cj := HC.out j hlt
      have hji : (j : Int) < n := by omega
      have hjm : (j : Int) < m := by omega
      have hj8 : j < 8 := by omega
      have HOr := Lib.hid (or_le v j hj8)
      clear hj8
      go_wp2_with fail
      exact ⟨⟨j + 1, by omega, by go_num, congrArg (Value.int IntKind.u64) HOr.out⟩, by simp [intOf]; omega⟩
    · obtain rfl : j = n := by omega
      go_wp2_with fail
      go_ret2
      exact ⟨rfl, rfl⟩
set_option maxRecDepth 100000 in
set_option maxHeartbeats 1000000 in
theorem clone_btc (w : World) {D o c m : Nat} {l : List UInt8} (hl : l.length = m) (hm0 : 0 < m) (hm1 : m ≤ 100000) (hb : Bs w (some ⟨D, o, none⟩) l) : Calls Tryz.prog 65 #[.slice (some ⟨D, o, none⟩) m c] w fun e w' =>
    ∃ g c', e = .returned (.slice (some ⟨g, 0, none⟩) m c') ∧ Chg [] w w' ∧ Bs w' (some ⟨g, 0, none⟩) l ∧ w.heap.size ≤ g ∧ Bt w' g ∧ m ≤ c' := by
  have hn : ∀ w, (binOp .eql 38 (.slice (some ⟨D, o, none⟩) m c) (.slice none 0 0)).run Tryz.prog w = .ok (.bool false) w := fun w => Lib.run_eql_slice_nil w 38 5 _ _ _ 0 0 Tryz.underlying38
  have HB := Lib.hid hb
  have HL := Lib.hid hl
  clear hb hl
  go_enter Tryz.func65, Tryz.ntmps65
  go_wp2_with (first | (at_builtin; refine wpList_append_bs rfl (.tmp 5) (.tmp 6) 38 5 rfl ty23 inf5c w.heap.size _ 0 [] rfl (own_empty w 5) _ m c l rfl HL.out (HB.out.keep (Below.of_alloc _ _)) (by omega) (by simp) ?_; intro v1 w1 h1; have hs1 : w.heap.size ≤ w1.heap.size := Nat.le_trans (by simp) h1.2.1.size))
  go_ret
  have hB : Below w.heap.size w w1 := (Below.of_alloc w _).trans h1.2.1
  have hb1 := h1.1
  rcases hb1.2 with ⟨e, h0⟩ | ⟨g, cap, cur, e, hA, hgt, hle, -⟩
  · omega
  · rw [e] at hb1
    refine ⟨g, cap, ?_, Chg.of_below hB, by simpa using Bs.own hb1, hA, ⟨_, hgt⟩, by omega⟩
    show Ending.returned v1 = _
    rw [e, Nat.zero_add]
theorem append_b0 (w : World) (z D o c : Nat) (ty : TypeId) : (Builtin.append_ #[38, 38] ty #[.slice (some ⟨z, 0, none⟩) 0 0, .slice (some ⟨D, o, none⟩) 0 c]).run Tryz.prog w = .ok (.slice (some ⟨z, 0, none⟩) 0 0) w := by
  obtain ⟨i, hi0, hz, hz1, hz2⟩ := info_parts inf5c
  simp [Builtin.append_, run_underlying ty23, sizeOf, typeInfo, hi0, Builtin.lenOf, Builtin.firstCells, loadCells, loadCellsFrom, storeCells]
set_option maxRecDepth 100000 in
set_option maxHeartbeats 1000000 in
theorem clone_bt0 (w : World) {D o c : Nat} : Calls Tryz.prog 65 #[.slice (some ⟨D, o, none⟩) 0 c] w fun e w' =>
    ∃ g c', e = .returned (.slice (some ⟨g, 0, none⟩) 0 c') ∧ Chg [] w w' ∧ Bs w' (some ⟨g, 0, none⟩) [] ∧ w.heap.size ≤ g ∧ Bt w' g ∧ 0 ≤ c' := by
  have hn : ∀ w, (binOp .eql 38 (.slice (some ⟨D, o, none⟩) 0 c) (.slice none 0 0)).run Tryz.prog w = .ok (.bool false) w := fun w => Lib.run_eql_slice_nil w 38 5 _ _ _ 0 0 Tryz.underlying38
  go_enter Tryz.func65, Tryz.ntmps65
  go_wp2_with (first | (at_builtin; refine Lib.wpList_append_run _ rfl (.tmp 5) (.tmp 6) 38 38 rfl (.slice (some ⟨w.heap.size, 0, none⟩) 0 0) (.slice (some ⟨D, o, none⟩) 0 c) rfl rfl _ _ (append_b0 _ _ _ _ _ _) ?_))
  go_ret
  exact ⟨w.heap.size, 0, rfl, Chg.alloc w _, Or.inr ⟨_, _, rfl, heap_lt (heap_new w _), fun j hj => by simp at hj⟩, Nat.le_refl _, ⟨_, heap_new w _⟩, Nat.le_refl _⟩
theorem clone_btz (w : World) {D o c m : Nat} {l : List UInt8} (hl : l.length = m) (hm1 : m ≤ 100000) (hb : Bs w (some ⟨D, o, none⟩) l) : Calls Tryz.prog 65 #[.slice (some ⟨D, o, none⟩) m c] w fun e w' =>
    ∃ g c', e = .returned (.slice (some ⟨g, 0, none⟩) m c') ∧ Chg [] w w' ∧ Bs w' (some ⟨g, 0, none⟩) l ∧ w.heap.size ≤ g ∧ Bt w' g ∧ m ≤ c' := by
  rcases Nat.eq_zero_or_pos m with rfl | h0
  · obtain rfl : l = [] := List.length_eq_zero_iff.1 hl
    exact clone_bt0 w
  · exact clone_btc w hl h0 hm1 hb
theorem lt_pow4 {v : Nat} (h : v < 4294967296) : v % 256 ^ 4 = v := Nat.mod_eq_of_lt (show v < 256 ^ 4 from h)
theorem lt_pow8 {v : Nat} (h : v < 18446744073709551616) : v % 256 ^ 8 = v := Nat.mod_eq_of_lt (show v < 256 ^ 8 from h)
set_option maxRecDepth 100000 in
theorem get64_le (w : World) {D o c m v : Nat} {l : List UInt8} (hB : Bs w (some ⟨D, o, none⟩) l) (hl : l.length = m) (hnm : 8 ≤ m) (hm : m ≤ 100000) (hpre : l.take 8 = leB v 8) (hv : v < 18446744073709551616) :
    Calls Tryz.prog 66 #[.slice (some ⟨D, o, none⟩) m c] w fun e w' => e = .returned (.tuple #[.int .u64 v, .bool true]) ∧ w = w' := by
  have h := bget_le w (c := c) hB hl (by decide) hnm hm hpre
  rw [lt_pow8 hv] at h
  have H := Lib.hid h
  clear h hB hl hnm hm hpre
  go_enter Tryz.func66, Tryz.ntmps66
  go_wp2_with fail
  refine H.out.mono ?_
  rintro e w1 ⟨rfl, rfl⟩
  go_wp2_with fail
  go_ret2
  exact ⟨rfl, rfl⟩
set_option maxRecDepth 100000 in
theorem get32_le (w : World) {D o c m v : Nat} {l : List UInt8} (hB : Bs w (some ⟨D, o, none⟩) l) (hl : l.length = m) (hnm : 4 ≤ m) (hm : m ≤ 100000) (hpre : l.take 4 = leB v 4) (hv : v < 4294967296) :
    Calls Tryz.prog 67 #[.slice (some ⟨D, o, none⟩) m c] w fun e w' => e = .returned (.tuple #[.int .u32 v, .bool true]) ∧ w = w' := by
  have h := bget_le w (c := c) hB hl (by decide) hnm hm hpre
  rw [lt_pow4 hv] at h
  have H := Lib.hid h
  have hw : IntKind.u32.wrap (v : Int) = v := by rw [IntKind.wrap_u32]; omega
  clear h hB hl hnm hm hpre
  go_enter Tryz.func67, Tryz.ntmps67
  go_wp2_with fail
  refine H.out.mono ?_
  rintro e w1 ⟨rfl, rfl⟩
  go_wp2_with fail
  go_ret2
  exact ⟨rfl, rfl⟩
set_option maxRecDepth 100000 in
set_option maxHeartbeats 1000000 in
theorem eq_same (w : World) {D o c E p c' m : Nat} {l : List UInt8} (hB : Bs w (some ⟨D, o, none⟩) l) (hB2 : Bs w (some ⟨E, p, none⟩) l) (hl : l.length = m) (hm : m ≤ 100000) :
    Calls Tryz.prog 105 #[.slice (some ⟨D, o, none⟩) m c, .slice (some ⟨E, p, none⟩) m c'] w fun e w' => e = .returned (.bool true) ∧ Chg [] w w' := by
  have HB := Lib.hid hB
  have HB2 := Lib.hid hB2
  have HL := Lib.hid hl
  clear hB hB2 hl
  go_enter Tryz.func105, Tryz.ntmps105
  go_wp2_with fail
  go_loopw [5, 13] (fun _ i wr => ∃ j : Nat, j ≤ m ∧ i = .int .i64 j ∧ Chg [] w wr) (fun _ i _ => m - (intOf i).toNat)
  case atStart => exact ⟨0, by omega, rfl, Chg.refl _ _⟩
  case round =>
    obtain ⟨j, hj, rfl, kr⟩ := hrel
    by_cases hlt : j < m
    · have hj2 : j < l.length := by have := HL.out; omega
      have d0 := (HB.out.chg kr).at_ j hj2
      have d1 := (HB2.out.chg kr).at_ j hj2
      have hji : (j : Int) < m := by omega
      generalize (l[j]'hj2).toNat = x at *
      have hx : ((x : Int) != (x : Int)) = false := bne_self_eq_false _
      go_wp2_with fail
      go_quiet (fail)
      go_wp2_with fail
      exact ⟨⟨j + 1, by omega, by go_num, kr.drewN nq⟩, by simp [intOf]; omega⟩
    · obtain rfl : j = m := by omega
      go_wp2_with fail
      go_ret
      exact ⟨rfl, kr⟩
theorem Bs.sub {w : World} {b o : Nat} {l : List UInt8} (h : Bs w (some ⟨b, o, none⟩) l) (i n : Nat) : Bs w (some ⟨b, o + i, none⟩) ((l.drop i).take n) := by
  rcases h with h | ⟨b', o', e, hb, h⟩
  · rw [h]; exact Or.inl (by simp)
  · cases e
    refine Or.inr ⟨b, o + i, rfl, hb, fun j hj => ?_⟩
    have hj2 : i + j < l.length := by simp at hj; omega
    rw [Nat.add_assoc, h (i + j) hj2]
    simp
end Go.Proofs.YtnelakpdmjfolaaGreat
namespace Go.Proofs.YtnelakpdmjfolaaGreat
open Go.RowKit Go.Lib

theorem RowsAt.len {w : World} {base : Nat} {v : Value} {l : List (List UInt8)} (h : RowsAt w base v l) : ∃ pa c, v = .slice pa l.length c := by
  obtain ⟨xs, ho, -⟩ := h
  rcases ho.2 with ⟨h1, h0⟩ | ⟨g, cap, cur, e1, _, _, h1, _⟩
  · rw [h0]; exact ⟨_, _, h1⟩
  · exact ⟨_, _, e1⟩
set_option maxRecDepth 100000 in
set_option maxHeartbeats 1000000 in
theorem pointer_ok (w : World) {base N A c : Nat} {ops : Int} {Z : List Nat} {vs : Nat → Value} {gs : Nat → Nat} {zs : Nat → List (List UInt8)} (h : DevG w base N A c ops Z vs gs zs) (j : Nat) (hj : j < Z.length) :
    Calls Tryz.prog 47 #[.pointer (some ⟨N, 0, none⟩), .int .i64 j] w fun e w' => e = .returned (.tuple #[.int .i64 (zs j).length, .int .i64 0]) ∧ w = w' := by
  have HD := Lib.hid (dat_any w h j hj)
  obtain ⟨pa, cc, hv⟩ := (h.rows j (by have := h.len; omega)).len
  have z0 : w.cell? ⟨Z[j], 0, none⟩ = some (.slice pa (zs j).length cc) := by rw [← hv]; exact cell_is (h.zone j hj) 0 rfl
  clear h hv
  generalize Z[j] = z at *
  clear hj
  go_enter Tryz.func47, Tryz.ntmps47
  go_wp2_with fail
  refine HD.out.mono ?_
  rintro e w1 ⟨rfl, rfl⟩
  go_wp2_with fail
  go_ret2
  exact ⟨rfl, rfl⟩
set_option maxRecDepth 100000 in
theorem strange_any (w : World) {g o m c : Nat} {a : UInt8} {l : List UInt8} (h : Bs w (some ⟨g, o, none⟩) (a :: l)) (hm : 0 < m) :
    Calls Tryz.prog 30 #[.slice (some ⟨g, o, none⟩) m c] w fun e w' => e = .returned (.bool (decide (¬ ((a.toNat : Int) = 1) ∧ ¬ ((a.toNat : Int) = 2)))) ∧ w = w' := by
  have h0 : w.cell? ⟨g, o, none⟩ = some (.int .u8 a.toNat) := by have := h.at_ 0 (by simp); simpa using this
  clear h
  go_enter Tryz.func30, Tryz.ntmps30
  by_cases h1 : (a.toNat : Int) = 1
  · have d1 : decide ((a.toNat : Int) = 1) = true := by simp [h1]
    go_wp2_with fail
    go_ret
    exact ⟨by simp [h1], rfl⟩
  · have d1 : decide ((a.toNat : Int) = 1) = false := by simp [h1]
    by_cases h2 : (a.toNat : Int) = 2
    all_goals
      go_wp2_with fail
      go_ret
      exact ⟨by simp [h1, h2], rfl⟩
end Go.Proofs.YtnelakpdmjfolaaGreat
